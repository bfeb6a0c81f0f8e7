/-
  The canonical machine: the laws by which 'simp' walks.
-/
import Derived.Test.YtdjbnhgdhambnaaGreatDoorVd
import GoSem.ClaimChange
import GoSem.ClaimWide
import Derived.ProofKit
import Derived.OpenShut
import Derived.Shelf.SlSortCmp.InsertionK
import Derived.Sort.LotA
set_option maxHeartbeats 16000000
set_option maxRecDepth 100000
set_option linter.unusedVariables false
set_option linter.unusedSimpArgs false
set_option linter.unnecessarySimpa false
namespace Go.bh
open Go
section
variable {P:bp} {G:Nat->U}
@[simp ↓] theorem adn (sgZ:aS) (l:ae) (K:fH) :run P G .skip sgZ l K=K .normal sgZ l:=id rfl
@[simp ↓] theorem adl (sgZ:aS) (l:ae) (K:fH) :run P G .ret sgZ l K=K .ret sgZ l:=id rfl
@[simp ↓] theorem adi (i:Nat) (sgZ:aS) (l:ae) (K:fH) :run P G (.exit i) sgZ l K=K (.exit i) sgZ l:=id rfl
@[simp ↓] theorem adk (s:List c9) (sgZ:aS) (l:ae) (K:fH) :run P G (.jK s) sgZ l K=iF P G s sgZ l (K .normal):=id rfl
@[simp ↓] theorem adh (s:List c9) (sgZ:aS) (l:ae) (K:fH) :run P G (.v8 s) sgZ l K=jL P G s sgZ l [] (K .normal):=id rfl
@[simp ↓] theorem adm (a b:fG) (sgZ:aS) (l:ae) (K:fH) :run P G (.seq a b) sgZ l K=run P G a sgZ l (mO (fun sgZ l=>run P G b sgZ l K) K):=id rfl
@[simp ↓] theorem adg (c:aY) (x y:fG) (sgZ:aS) (l:ae) (K:fH) :run P G (.cond c x y) sgZ l K=wB (dA G sgZ c) (c:=⟨run P G x sgZ l K,run P G y sgZ l K⟩):=id rfl
@[simp ↓] theorem adf (i:Nat) (c:fG) (sgZ:aS) (l:ae) (K:fH) :run P G (.block i c) sgZ l K=run P G c sgZ l (qX i K):=id rfl
@[simp ↓] theorem adj (c:fG) (sgZ:aS) (l:ae) (K:fH) :run P G (.loop c) sgZ l K=x7 (run P G c) sgZ l (c:=⟨K⟩):=id rfl
@[simp ↓] theorem abq (k:aS->ae->Prop) (K:fH) (sgZ:aS) (l:ae) :mO k K .normal sgZ l=k sgZ l:=id rfl
@[simp ↓] theorem abp (k:aS->ae->Prop) (K:fH) (i:Nat) (sgZ:aS) (l:ae) :mO k K (.exit i) sgZ l=K (.exit i) sgZ l:=id rfl
@[simp ↓] theorem abr (k:aS->ae->Prop) (K:fH) (sgZ:aS) (l:ae) :mO k K .ret sgZ l=K .ret sgZ l:=id rfl
@[simp ↓] theorem aa9 (i:Nat) (K:fH) (sgZ:aS) (l:ae) :qX i K .normal sgZ l=K .normal sgZ l:=id rfl
@[simp ↓] theorem abb (i:Nat) (K:fH) (sgZ:aS) (l:ae) :qX i K .ret sgZ l=K .ret sgZ l:=id rfl
def ud (p:Prop) [Decidable p] [c:vy] :Prop:=if p then c.p else c.q
@[simp ↓] theorem aa8 (i j:Nat) (K:fH) (sgZ:aS) (l:ae) :qX i K (.exit j) sgZ l=ud (j=i) (c:=⟨K .normal sgZ l,K (.exit j) sgZ l⟩):=by
 unfold qX ud;by_cases h:j=i
 ·simp only[pX h,ak h]
 ·simp only[iz h,ai h]
@[simp ↓] theorem abh (i:Nat) (x y:Prop) :ud (i=i) (c:=⟨x,y⟩)=x:=by simp[ud]
@[simp] theorem abg (x y:Prop) :ud False (c:=⟨x,y⟩)=y:=by simp[ud]
@[simp ↓] theorem abe (g:List dy) (K:U->ae->Prop) (sgZ:aS) (l:ae) :uc P G g K .normal sgZ l=mN P G K sgZ l g []:=id rfl
@[simp ↓] theorem abf (g:List dy) (K:U->ae->Prop) (sgZ:aS) (l:ae) :uc P G g K .ret sgZ l=mN P G K sgZ l g []:=id rfl
@[simp ↓] theorem abo (K:U->ae->Prop) (sgZ:aS) (l:ae) (g:ag) :mN P G K sgZ l [] g=K (sS g) l:=id rfl
@[simp ↓] theorem abn (K:U->ae->Prop) (sgZ:aS) (l:ae) (m:dy) (r:List dy) (g:ag) :mN P G K sgZ l (m::r) g=W (bT P (dA G sgZ) l m) (c:=⟨fun x=>mN P G K sgZ l r (g++[x.1])⟩):=id rfl
@[simp] theorem ady (v:U) :sS [v]=v:=id rfl
@[simp] theorem adz (v w:U) (r:ag) :sS (v::w::r)=.aX (v::w::r):=id rfl
@[simp ↓] theorem ade (sgZ:aS) (l:ae) (K:aS->ae->Prop) :iF P G [] sgZ l K=K sgZ l:=id rfl
@[simp ↓] theorem adc (i:Nat) (g:Option Tmp) (m:dy) (c:List Nat) (k:Bool) (r:List c9) (sgZ:aS) (l:ae) (K:aS->ae->Prop) :
  iF P G (⟨i,g,none,.fy m,c,k⟩::r) sgZ l K=W (bT P (dA G sgZ) l m) (c:=⟨fun x=>ep m x.1 x.2 fun v l'=>iF P G r (gC sgZ g v) l' K⟩):=id rfl
@[simp ↓] theorem ac9 (i:Nat) (g:Option Tmp) (f:cj) (args:List aY) (c:List Nat) (k:Bool) (r:List c9) (sgZ:aS) (l:ae) (K:aS->ae->Prop) :
  iF P G (⟨i,g,none,.lg f args,c,k⟩::r) sgZ l K=fR P G f (args.map (dA G sgZ)) l (c:=⟨fun v l'=>iF P G r (gC sgZ g v) l' K⟩):=id rfl
@[simp ↓] theorem ada (i:Nat) (g:Option Tmp) (x:aY) (args:List aY) (c:List Nat) (k:Bool) (r:List c9) (sgZ:aS) (l:ae) (K:aS->ae->Prop) :
  iF P G (⟨i,g,none,.lU x args,c,k⟩::r) sgZ l K=vP P G (dA G sgZ x) (args.map (dA G sgZ)) l (c:=⟨fun v l'=>iF P G r (gC sgZ g v) l' K⟩):=id rfl
@[simp ↓] theorem adb (i:Nat) (g:Option Tmp) (d:Tmp) (w:Bool) (b:rN) (c:List Nat) (k:Bool) (r:List c9) (sgZ:aS) (l:ae) (K:aS->ae->Prop) :
  iF P G (⟨i,g,some (some d,w),b,c,k⟩::r) sgZ l K=pP (sgZ d) w (c:=⟨iF P G (⟨i,g,none,b,c,k⟩::r) sgZ l K,iF P G r (gC sgZ g fC) l K⟩):=id rfl
@[simp ↓] theorem ac8 (sgZ:aS) (l:ae) (seen:im) (K:aS->ae->Prop) :jL P G [] sgZ l seen K=K sgZ l:=id rfl
@[simp ↓] theorem ac7 (i:Nat) (g:Option Tmp) (m:dy) (c:List Nat) (k:Bool) (r:List c9) (sgZ:aS) (l:ae) (seen:im) (K:aS->ae->Prop) :
  jL P G (⟨i,g,none,.fy m,c,k⟩::r) sgZ l seen K=W (bT P (dA G sgZ) l m) (c:=⟨fun x=>ep m x.1 x.2 fun v l'=>pB c seen l'/\jL P G r (gC sgZ g v) l' (p7 k i (k1 P G (.fy m) sgZ v l l') seen) K⟩):=id rfl
@[simp ↓] theorem ac5 (i:Nat) (g:Option Tmp) (f:cj) (args:List aY) (c:List Nat) (k:Bool) (r:List c9) (sgZ:aS) (l:ae) (seen:im) (K:aS->ae->Prop) :
  jL P G (⟨i,g,none,.lg f args,c,k⟩::r) sgZ l seen K=fR P G f (args.map (dA G sgZ)) l (c:=⟨fun v l'=>pB c seen l'/\jL P G r (gC sgZ g v) l' (p7 k i (fun _=>True) seen) K⟩):=id rfl
@[simp ↓] theorem ac6 (i:Nat) (g:Option Tmp) (d:Tmp) (w:Bool) (b:rN) (c:List Nat) (k:Bool) (r:List c9) (sgZ:aS) (l:ae) (seen:im) (K:aS->ae->Prop) :
  jL P G (⟨i,g,some (some d,w),b,c,k⟩::r) sgZ l seen K=pP (sgZ d) w (c:=⟨jL P G (⟨i,g,none,b,c,k⟩::r) sgZ l seen K,jL P G r (gC sgZ g fC) l seen K⟩):=id rfl
@[simp] theorem aah (g:List Nat) (l:ae) :pB g [] l=True:=id rfl
@[simp] theorem aag (g:List Nat) (e:Nat × (ae->Prop)) (r:im) (l:ae) :pB g (e::r) l=((g.contains e.1=true->e.2 l)/\pB g r l):=id rfl
@[simp] theorem adp (i:Nat) (p:ae->Prop) (s:im) :p7 true i p s=(i,p) ::s:=id rfl
@[simp] theorem ado (i:Nat) (p:ae->Prop) (s:im) :p7 false i p s=s:=id rfl
@[simp] theorem adu (m:dy) (sgZ:aS) (v:U) (l l' l1:ae) :k1 P G (.fy m) sgZ v l l' l1=(match m.lp with | true=>l1[l.length]?=l'[l.length]? | false=>bT P (dA G sgZ) l1 m=some (v,l1)):=id rfl
@[simp ↓] theorem abU (x:aY) (v:U) (l:ae) (K:U->ae->Prop) :ep (.dU x) v l K=K v l:=id rfl
@[simp ↓] theorem abX (c a b:aY) (v:U) (l:ae) (K:U->ae->Prop) :ep (.pick c a b) v l K=K v l:=id rfl
@[simp ↓] theorem abs (z:ag) (v:U) (l:ae) (K:U->ae->Prop) :ep (.alloc z) v l K=K v l:=id rfl
@[simp ↓] theorem abx (x:aY) (v:U) (l:ae) (K:U->ae->Prop) :ep (.box x) v l K=K v l:=id rfl
@[simp ↓] theorem abw (z:ag) (ps:List (Nat × Nat × aY)) (v:U) (l:ae) (K:U->ae->Prop) :ep (.yl z ps) v l K=K v l:=id rfl
@[simp ↓] theorem aby (z:Nat) (zero:ag) (n:Nat) (ps:List (Nat × aY)) (v:U) (l:ae) (K:U->ae->Prop) :ep (.qH z zero n ps) v l K=K v l:=id rfl
@[simp ↓] theorem abL (a:aY) (v:U) (l:ae) (K:U->ae->Prop) :ep (.ld1 a) v l K=K v l:=id rfl
@[simp ↓] theorem abM (n:Nat) (a:aY) (v:U) (l:ae) (K:U->ae->Prop) :ep (.j8 n a) v l K=K v l:=id rfl
@[simp ↓] theorem ab0 (n:Nat) (a x:aY) (v:U) (l:ae) (K:U->ae->Prop) :ep (.st n a x) v l K=K v l:=id rfl
@[simp ↓] theorem abV (x:aY) (v:U) (l:ae) (K:U->ae->Prop) :ep (.zA x) v l K=K v l:=id rfl
@[simp ↓] theorem abv (o:BinOp) (t:aG) (x y:aY) (v:U) (l:ae) (K:U->ae->Prop) :ep (.bin o t x y) v l K=K v l:=id rfl
@[simp ↓] theorem ab1 (o:UnOp) (x:aY) (v:U) (l:ae) (K:U->ae->Prop) :ep (.un o x) v l K=K v l:=id rfl
@[simp ↓] theorem abB (k:cU) (x:aY) (v:U) (l:ae) (K:U->ae->Prop) :ep (.vR k x) v l K=K v l:=id rfl
@[simp ↓] theorem abA (x:aY) (v:U) (l:ae) (K:U->ae->Prop) :ep (.tG x) v l K=K v l:=id rfl
@[simp ↓] theorem abE (x:aY) (v:U) (l:ae) (K:U->ae->Prop) :ep (.yE x) v l K=K v l:=id rfl
@[simp ↓] theorem abQ (f:cj) (a b:List aY) (v:U) (l:ae) (K:U->ae->Prop) :ep (.wO f a b) v l K=K v l:=id rfl
@[simp ↓] theorem abS (z b:Nat) (zero:ag) (x y:aY) (v:U) (l:ae) (K:U->ae->Prop) :ep (.sr z b zero x y) v l K=K v l:=id rfl
@[simp ↓] theorem abZ (m:h7) (x:aY) (h g j:Option aY) (v:U) (l:ae) (K:U->ae->Prop) :ep (.slice m x h g j) v l K=K v l:=id rfl
@[simp ↓] theorem abG (n:Nat) (x:aY) (v:U) (l:ae) (K:U->ae->Prop) :ep (.nF n x) v l K=K v l:=id rfl
@[simp ↓] theorem abH (n m:Nat) (x:aY) (v:U) (l:ae) (K:U->ae->Prop) :ep (.yX n m x) v l K=K v l:=id rfl
@[simp ↓] theorem abI (g:h7) (x y:aY) (v:U) (l:ae) (K:U->ae->Prop) :ep (.sk g x y) v l K=K v l:=id rfl
@[simp ↓] theorem abJ (n z:Nat) (x y:aY) (v:U) (l:ae) (K:U->ae->Prop) :ep (.za n z x y) v l K=K v l:=id rfl
@[simp ↓] theorem abK (x y:aY) (v:U) (l:ae) (K:U->ae->Prop) :ep (.zc x y) v l K=K v l:=id rfl
@[simp ↓] theorem abF (x:aY) (n:Nat) (v:U) (l:ae) (K:U->ae->Prop) :ep (.ext x n) v l K=K v l:=id rfl
@[simp ↓] theorem abN (g:h7) (x:aY) (v:U) (l:ae) (K:U->ae->Prop) :ep (.len g x) v l K=K v l:=id rfl
@[simp ↓] theorem abz (g:h7) (x:aY) (v:U) (l:ae) (K:U->ae->Prop) :ep (.cap g x) v l K=K v l:=id rfl
@[simp ↓] theorem abu (z b:Nat) (zero:ag) (x y:aY) (v:U) (l:ae) (K:U->ae->Prop) :ep (.tt z b zero x y) v l K=K v l:=id rfl
@[simp ↓] theorem abC (zero:ag) (x:aY) (v:U) (l:ae) (K:U->ae->Prop) :ep (.tJ zero x) v l K=K v l:=id rfl
@[simp ↓] theorem abP (x y:aY) (v:U) (l:ae) (K:U->ae->Prop) :ep (.max x y) v l K=K v l:=id rfl
@[simp ↓] theorem abt (z b:Nat) (x y:aY) (v:U) (l:ae) (K:U->ae->Prop) :ep (.app z b x y) v l K=bR v l (c:=⟨K⟩):=id rfl
theorem bR.bm {v:U} {l:ae} {K:U->ae->Prop} (h:K v l) :bR v l (c:=⟨K⟩):=.inl h
@[simp] theorem aa5 (a:aY) :(dy.ld1 a).lp=false:=id rfl
@[simp] theorem aa6 (n:Nat) (a:aY) :(dy.j8 n a).lp=false:=id rfl
@[simp] theorem aa4 (k:cU) (a:aY) :(dy.vR k a).lp=false:=id rfl
@[simp] theorem aa2 (z:ag) :(dy.alloc z).lp=true:=id rfl
@[simp] theorem aa3 (z:Nat) (zero:ag) (n:Nat) (ps:List (Nat × aY)) :(dy.qH z zero n ps).lp=true:=id rfl
@[simp] theorem acV (l l' : ae) (x:Option U) (v:U) :(dr l x=some (v,l'))=(x=some v/\l'=l):=propext e7
@[simp ↓] theorem ZE {alZ:Type} (x:alZ) (k:alZ->Prop) :W (some x) (c:=⟨k⟩)=k x:=id rfl
@[simp ↓] theorem ZD (l:ae) (o:Option U) (k:U × ae->Prop) :W (dr l o) (c:=⟨k⟩)=W o (c:=⟨fun v=>k (v,l)⟩):=by unfold W dr;cases o<;>rfl
@[simp ↓] theorem ZC {alZ g:Type} (o:Option alZ) (f:alZ->g) (k:g->Prop) :W (o.map f) (c:=⟨k⟩)=W o (c:=⟨fun v=>k (f v)⟩):=by unfold W;cases o<;>rfl
@[simp ↓] theorem ZB {alZ:Type} (p:Prop) [Decidable p] (x:alZ) (k:alZ->Prop) :W (if p then some x else none) (c:=⟨k⟩)=(p/\k x):=by unfold W;by_cases h:p<;>simp[h]
@[simp ↓] theorem abd (b:Bool) (p q:Prop) :wB (.bool b) (c:=⟨p,q⟩)=oR b (c:=⟨p,q⟩):=id rfl
@[simp ↓] theorem abm (p q:Prop) :oR true (c:=⟨p,q⟩)=p:=id rfl
@[simp ↓] theorem abl (p q:Prop) :oR false (c:=⟨p,q⟩)=q:=id rfl
@[simp ↓] theorem abj (b:Bool) (p q:Prop) :pP (.bool b) true (c:=⟨p,q⟩)=oR b (c:=⟨p,q⟩):=by cases b<;>rfl
@[simp ↓] theorem abi (b:Bool) (p q:Prop) :pP (.bool b) false (c:=⟨p,q⟩)=oR b (c:=⟨q,p⟩):=by cases b<;>rfl
@[simp ↓] theorem abk (w:Bool) (p q:Prop) :pP fC w (c:=⟨p,q⟩)=q:=id rfl
theorem fk {b:Bool} {p q:Prop} (h1:b=true->p) (g:b=false->q) :oR b (c:=⟨p,q⟩):=by cases b;exact g rfl;exact h1 rfl
@[simp ↓] theorem acX (sgZ:aS) (d:Tmp) (v:U) :gC sgZ (some d) v=br sgZ d v:=id rfl
@[simp ↓] theorem acW (sgZ:aS) (v:U) :gC sgZ none v=sgZ:=id rfl
@[simp] theorem aaD {alZ:Type} (s:Nat->alZ) (d:Nat) (v:alZ) (t:Nat) :br s d v t=if t=d then v else s t:=id rfl
@[simp] theorem ZF (args:ag) (t:Nat) :jw args t=args.getD t fC:=id rfl
@[simp] theorem aaz (sgZ:aS) (t:Tmp) :dA G sgZ (.tmp t)=sgZ t:=id rfl
@[simp] theorem aas (sgZ:aS) (f:cj) :dA G sgZ (.func f)=.fn f [] []:=id rfl
@[simp] theorem aat (sgZ:aS) (g:Nat) :dA G sgZ (.global g)=G g:=id rfl
@[simp] theorem aau (sgZ:aS) (k:cU) (n:Int) :dA G sgZ (.const (.int k n))=.int k n:=id rfl
@[simp] theorem aar (sgZ:aS) (b:Bool) :dA G sgZ (.const (.bool b))=.bool b:=id rfl
@[simp] theorem aay (sgZ:aS) (s:ByteArray) :dA G sgZ (.const (.string s))=.str s.data.toList:=id rfl
@[simp] theorem aax (sgZ:aS) :dA G sgZ (.const (.slice none 0 0))=.ad:=id rfl
@[simp] theorem aaw (sgZ:aS) :dA G sgZ (.const (.map none))=.gY:=id rfl
@[simp] theorem aav (sgZ:aS) :dA G sgZ (.const .nilFunc)=.ic:=id rfl
variable (cm:aY->U) (l:ae)
@[simp ↓] theorem acB (x:aY) :bT P cm l (.dU x)=some (cm x,l):=id rfl
@[simp ↓] theorem acE (c a b:aY) :bT P cm l (.pick c a b)=dr l (zQ (cm c) (cm a) (cm b)):=id rfl
@[simp ↓] theorem ab8 (z:ag) :bT P cm l (.alloc z)=some (.ptr l.length 0 z.length,l++[.cells z.length z]):=id rfl
@[simp ↓] theorem ace (x:aY) :bT P cm l (.box x)=(cm x).cells.map fun cs=>(.ptr l.length 0 cs.length,l++[.cells cs.length cs]):=id rfl
@[simp ↓] theorem acd (zero:ag) (ps:List (Nat × Nat × aY)) :bT P cm l (.yl zero ps)=dr l ((ny zero (ps.map fun p=>(p.1,p.2.1,cm p.2.2))).map .af):=id rfl
@[simp ↓] theorem acf (z:Nat) (zero:ag) (len:Nat) (ps:List (Nat × aY)) :bT P cm l (.qH z zero len ps)=(en (fun i=>some (i*z,z)) (cQ zero len) (ps.map fun p=>(p.1,cm p.2))).map fun cs=>(.Z z l.length 0 len len (len*z),l++[.cells (len*z) cs]):=id rfl
@[simp ↓] theorem acs (a:aY) :bT P cm l (.ld1 a)=dr l ((fN l (cm a)).bind fun x=>x.1[x.2]?):=id rfl
@[simp ↓] theorem acu (n:Nat) (a:aY) :bT P cm l (.j8 n a)=dr l ((fN l (cm a)).bind fun x=>sx n x.1 x.2):=id rfl
@[simp ↓] theorem acH (n:Nat) (a x:aY) :bT P cm l (.st n a x)=(jP n l (cm a) (cm x)).map fun l'=>(fC,l'):=id rfl
@[simp ↓] theorem acC (x:aY) :bT P cm l (.zA x)=dr l (zB (cm x)):=id rfl
@[simp ↓] theorem acb (o:BinOp) (t:aG) (x y:aY) :bT P cm l (.bin o t x y)=dr l (ea P o t (cm x) (cm y)):=id rfl
@[simp ↓] theorem acI (o:UnOp) (x:aY) :bT P cm l (.un o x)=dr l (rs o (cm x)):=id rfl
@[simp ↓] theorem aci (k:cU) (x:aY) :bT P cm l (.vR k x)=dr l (vS k (cm x)):=id rfl
@[simp ↓] theorem ach (x:aY) :bT P cm l (.tG x)=dr l (pA l (cm x)):=id rfl
@[simp ↓] theorem acl (x:aY) :bT P cm l (.yE x)=dr l (r5 (cm x)):=id rfl
@[simp ↓] theorem acy (f:cj) (a b:List aY) :bT P cm l (.wO f a b)=some (.fn f (a.map cm) (b.map cm),l):=id rfl
@[simp ↓] theorem acz (z by_:Nat) (zero:ag) (a c:aY) :bT P cm l (.sr z by_ zero a c)=l6 z by_ zero l (cm a) (cm c):=id rfl
@[simp ↓] theorem acG (m:h7) (x:aY) (h g j:Option aY) :bT P cm l (.slice m x h g j)=dr l (dw m (cm x) (h.map cm) (g.map cm) (j.map cm)):=id rfl
@[simp ↓] theorem acn (off:Nat) (x:aY) :bT P cm l (.nF off x)=dr l (lh (cm x) off):=id rfl
@[simp ↓] theorem aco (n off:Nat) (x:aY) :bT P cm l (.yX n off x)=dr l (yY n off (cm x)):=id rfl
@[simp ↓] theorem acp (g:h7) (x i:aY) :bT P cm l (.sk g x i)=dr l (bQ g (cm x) (cm i)):=id rfl
@[simp ↓] theorem acq (n z:Nat) (x i:aY) :bT P cm l (.za n z x i)=dr l (zb n z (cm x) (cm i)):=id rfl
@[simp ↓] theorem acr (x i:aY) :bT P cm l (.zc x i)=dr l (tZ (cm x) (cm i)):=id rfl
@[simp ↓] theorem acm (x:aY) (i:Nat) :bT P cm l (.ext x i)=dr l (yQ (cm x) i):=id rfl
@[simp ↓] theorem acv (g:h7) (x:aY) :bT P cm l (.len g x)=dr l (bD g (cm x)):=id rfl
@[simp ↓] theorem acg (g:h7) (x:aY) :bT P cm l (.cap g x)=dr l (rY g (cm x)):=id rfl
@[simp ↓] theorem ab9 (z by_:Nat) (s x:aY) :bT P cm l (.app z by_ s x)=dZ l z by_ (cm s) (cm x):=id rfl
@[simp ↓] theorem aca (z by_:Nat) (zero:ag) (s x:aY) :bT P cm l (.tt z by_ zero s x)=ow l z by_ zero (cm s) (cm x):=id rfl
@[simp ↓] theorem acj (zero:ag) (x:aY) :bT P cm l (.tJ zero x)=(pC zero l (cm x)).map fun l'=>(.aX [],l'):=id rfl
@[simp ↓] theorem acx (x y:aY) :bT P cm l (.max x y)=dr l (oU (cm x) (cm y)):=id rfl
@[simp] theorem acS (t:Bool) (a b:U) :zQ (.bool t) a b=some (if t=true then a else b):=id rfl
@[simp] theorem Z7 (cs:ag) :(U.af cs).cells=some cs:=id rfl
@[simp] theorem aac (k:cU) (n:Int) :(U.int k n).cells=some [.int k n]:=id rfl
@[simp] theorem Z8 (b:Bool) :(U.bool b).cells=some [.bool b]:=id rfl
@[simp] theorem aaf (s:List UInt8) :(U.str s).cells=some [.str s]:=id rfl
@[simp] theorem aad:U.ad.cells=some [.ad]:=id rfl
@[simp] theorem aae (z b o n c s:Nat) :(U.Z z b o n c s).cells=some [.Z z b o n c s]:=id rfl
@[simp] theorem Z5 (b off sz k:Nat) :lh (.ptr b off sz) k=some (.ptr b (off+k) sz):=id rfl
@[simp] theorem Z6 (cs:ag) (off k:Nat) :lh (.b6 cs off) k=some (.b6 cs (off+k)):=id rfl
@[simp] theorem acK (b o s:Nat) :zB (.ptr b o s)=some (.ptr b o s):=id rfl
def D2 (x:Option aq) (off sz:Nat) :Option (ag × Nat):=match x with
 | some (.cells n cs)=>if n=sz then some (cs,off) else none
 | _=>none
@[simp] theorem ac0 (b off sz:Nat) :fN l (.ptr b off sz)=D2 l[b]? off sz:=by unfold fN D2;rfl
@[simp] theorem acZ (n:Nat) (cs:ag) (off sz:Nat) :D2 (some (.cells n cs)) off sz=if n=sz then some (cs,off) else none:=id rfl
@[simp] theorem ac1 (cs:ag) (off:Nat) :fN l (.b6 cs off)=some (cs,off):=id rfl
def ay (n:Nat) (l:ae) (b off sz:Nat) (vs:ag) (x:Option aq) :Option ae:=match x with
 | some (.cells g cs)=>if g=sz/\vs.length=n/\off+n<=g then some (l.set b (.cells g (av cs off vs))) else none
 | _=>none
@[simp] theorem adw (n b off sz:Nat) (v:U) :jP n l (.ptr b off sz) v=v.cells.bind fun vs=>ay n l b off sz vs l[b]?:=by unfold jP ay;cases v.cells<;>rfl
@[simp] theorem adv (n b off sz:Nat) (vs:ag) (m:Nat) (cs:ag) :ay n l b off sz vs (some (.cells m cs))=if m=sz/\vs.length=n/\off+n<=m then some (l.set b (.cells m (av cs off vs))) else none:=id rfl
@[simp] theorem acQ (n:Nat) (cs:ag) (off:Nat) :sx n cs off=if off+n<=cs.length then some (.af ((cs.drop off).take n)) else none:=id rfl
@[simp] theorem adt (a:U) (cs vs:ag) (off:Nat) :av (a::cs) (off+1) vs=a::av cs off vs:=by simp only[av,List.take_succ_cons,iK,show off+1+vs.length=(off+vs.length)+1 by omega,List.drop_succ_cons]
@[simp] theorem XH (a v:U) (cs vs:ag) :av (a::cs) 0 (v::vs)=v::av cs 0 vs:=by simp[av]
@[simp] theorem XJ (cs:ag) :av cs 0 []=cs:=by simp[av]
@[simp] theorem ads (vs:ag) :av [] 0 vs=vs:=by simp[av]
@[simp] theorem ZS (zero:ag) :ny zero []=some zero:=id rfl
theorem OQ (zero:ag) (off size:Nat) (v:U) (r:List (Nat × Nat × U)) :ny zero ((off,size,v) ::r)=v.cells.bind fun vs=>if vs.length=size/\off+size<=zero.length then ny (av zero off vs) r else none:=by rw[ny];cases v.cells<;>rfl
attribute [simp] OQ
@[simp] theorem aaC (g:Nat->Option (Nat × Nat)) (zero:ag) :en g zero []=some zero:=id rfl
@[simp] theorem aaB (g:Nat->Option (Nat × Nat)) (zero:ag) (i:Nat) (v:U) (r:List (Nat × U)) :en g zero ((i,v) ::r)=(g i).bind fun q=>v.cells.bind fun vs=>if vs.length=q.2/\q.1+q.2<=zero.length then en g (av zero q.1 vs) r else none:=by
 rw[en];cases g i with
 | none=>rfl
 | some q=>cases v.cells<;>rfl
@[simp] theorem ac3 (zero:ag) :cQ zero 0=[]:=id rfl
@[simp] theorem ac4 (zero:ag) (n:Nat) :cQ zero (n+1)=zero++cQ zero n:=id rfl
@[simp] theorem ZL (o:BinOp) (t:aG) (k:cU) (a:Int) (k' : cU) (b:Int) :ea P o t (.int k a) (.int k' b)=cz o k a k' b:=id rfl
@[simp] theorem ZQ (o:BinOp) (t:aG) (a b:List UInt8) :ea P o t (.str a) (.str b)=tu o a b:=id rfl
@[simp] theorem ZN (k:cU) (a b:Int) :cz .lss k a k b=some (.bool (decide (a<b))):=by simp[cz]
@[simp] theorem ZM (k:cU) (a b:Int) :cz .leq k a k b=some (.bool (decide (a<=b))):=by simp[cz]
@[simp] theorem ZK (k:cU) (a b:Int) :cz .gtr k a k b=some (.bool (decide (b<a))):=by simp[cz]
@[simp] theorem ZJ (k:cU) (a b:Int) :cz .geq k a k b=some (.bool (decide (b<=a))):=by simp[cz]
@[simp] theorem ZI (k:cU) (a b:Int) :cz .eql k a k b=some (.bool (decide (a=b))):=by
 have:(a == b)=decide (a=b):=by by_cases h:a=b<;>simp[h]
 simp[cz,this]
@[simp] theorem ZP (k:cU) (a b:Int) :cz .neq k a k b=some (.bool (!decide (a=b))):=by
 have:(a != b)=!decide (a=b):=by by_cases h:a=b<;>simp[h]
 simp[cz,this]
@[simp] theorem ZH (k:cU) (a b:Int) :cz .add k a k b=some (.int k (k.wrap (a+b))):=by simp[cz]
@[simp] theorem ZR (k:cU) (a b:Int) :cz .sub k a k b=some (.int k (k.wrap (a - b))):=by simp[cz]
@[simp] theorem ZO (k:cU) (a b:Int) :cz .mul k a k b=some (.int k (k.wrap (a*b))):=by simp[cz]
@[simp] theorem adG (b:Bool) :rs .not (.bool b)=some (.bool (!b)):=id rfl
@[simp] theorem adF (k:cU) (n:Int) :rs .neg (.int k n)=some (.int k (k.wrap (0 - n))):=id rfl
@[simp] theorem aai (k k' : cU) (n:Int) :vS k (.int k' n)=some (.int k (k.wrap n)):=id rfl
@[simp] theorem aaY (z g:Nat) (es:List (ag)) (k:cU) (i:Int) :bQ (.Z z) (.bu g es) (.int k i)=if z=g/\0<=i then (es[i.toNat]?).map fun cs=>.b6 cs 0 else none:=id rfl
@[simp] theorem aaZ (z g b off len cap sz:Nat) (k:cU) (i:Int) :bQ (.Z z) (.Z g b off len cap sz) (.int k i)=if z=g/\0<=i/\i<len then some (.ptr b (off+i.toNat*z) sz) else none:=id rfl
@[simp] theorem aaX (n z:Nat) (x:U) (k:cU) (i:Int) :bQ (.arr n z) x (.int k i)=if 0<=i/\i<n then lh x (i.toNat*z) else none:=id rfl
@[simp] theorem ab4 (z:Nat) :bD (.Z z) .ad=some (.int .i64 0):=id rfl
@[simp] theorem ab6 (z g b o n c s:Nat) :bD (.Z z) (.Z g b o n c s)=some (.int .i64 n):=id rfl
@[simp] theorem ab5 (z g:Nat) (es:List (ag)) :bD (.Z z) (.bu g es)=some (.int .i64 es.length):=id rfl
@[simp] theorem ab7 (s:List UInt8) :bD .str (.str s)=some (.int .i64 s.length):=id rfl
@[simp] theorem aaA (vs:ag) (i:Nat) :yQ (.aX vs) i=vs[i]?:=id rfl
end
section
variable {P:bp} {G:Nat->U}
inductive Rd (l:ae) :U->U->Prop
 | same (c:U) (h:c.ar=true) :Rd l c c
 | af (cs o:ag) (u:o.length=cs.length) (h:∀ (j:Nat) (c g:U),cs[j]?=some c->o[j]?=some g->Rd l c g) :Rd l (.af cs) (.af o)
 | aX (cs o:ag) (u:o.length=cs.length) (h:∀ (j:Nat) (c g:U),cs[j]?=some c->o[j]?=some g->Rd l c g) :Rd l (.aX cs) (.aX o)
 | Z (m b p len cap t:Nat) (cs:ag) (q:List (ag)) (v:l[b]?=some (.cells t cs)) (u:q.length=len) (z:∀ e∈q,e.length=m)
   (w:p+len*m<=cs.length)
   (h:∀ (i j:Nat) (e:ag) (c g:U),q[i]?=some e->e[j]?=some g->cs[p+(i*m+j)]?=some c->Rd l c g) :Rd l (.Z m b p len cap t) (.bu m q)
 | sN (m b p cap t:Nat) :Rd l (.Z m b p 0 cap t) (.bu m [])
theorem Wp {w:aT} {R:Nat->Prop} {B:Nat} {l:ae} {muZ:b3} (rel:bF R B w (aZ l) muZ) :∀ {c c' : U},Rd l c c'->∀ {v:aE},aB w R (aZ l) muZ c v->de w R c' v:=by
 intro c c' aq
 induction aq with
 | same c h=>
  intro v m;exact (de.up (nC m h) fun k _ hk=>⟨hk.1,fun ⟨b,j,h1,o,D⟩=>by cases o⟩:aB w R aM.empty (fun _=>none) _ v)
 | af cs P q h I=>
  intro v m;cases m with
  | af _ W ao h1 m=>
   refine .af P W F h1 (fun g c' v p V=>?_);have t:g<cs.length:=by rw[<-q];exact (aL.1 p).1
   exact I g cs[g] c' (bM t) p (m g cs[g] v (bM t) V)
 | aX cs P q h I=>
  intro v m;cases m with
  | aX _ W ao m=>
   refine .aX P W F (fun g c' v p V=>?_);have t:g<cs.length:=by rw[<-q];exact (aL.1 p).1
   exact I g cs[g] c' (bM t) p (m g cs[g] v (bM t) V)
 | sN z b C cap ai=>
  intro v m;cases m with
  | Z _ _ _ _ _ _ cap' cs j Q O q ap K=>exact .eH z _ cap'
  | ff _ _ _ _ _ _ cap' a q K u=>exact .eH z _ cap'
  | gp _ _ _ _ a cs j Q O=>exact .eH z a 0
 | Z z b C len cap ai cs J Q q ah az h I=>
  intro v m;have G:(aZ l).f b=.cells ai cs:=hJ.2 Q;cases m with
  | gp _ _ _ _ a X j S aC=>
   obtain rfl:=ho.1 q;exact .eH z a 0
  | ff _ _ _ _ _ _ cap' a q K u=>
   exfalso;rcases u with u | ⟨n,X,u,t⟩
   ·rw[G] at u;cases u
   ·rw[G] at u;cases u;omega
  | Z _ _ _ _ _ _ cap' X j S O aA ap K=>
   rw[G] at S;cases S;have hblk:=rel.blk b j O;rw[G] at hblk;obtain⟨ax,av,arr,aD,au,ar,aw,ay,al⟩:=hblk;have ak:len<=cap':=by rcases K with ⟨_,h⟩ | ⟨_,h,_⟩<;>omega
   have aj:R j.r:=rel.up _ (rel.base b j (by rw[G];rfl) O);subst q;have ag:∀ i g,i<J.length->g<z->∃ c v,cs[C+(i*z+g)]?=some c/\arr[j.s+(C+(i*z+g))]?=some v/\v.oneCell'=true/\aB w R (aZ l) muZ c v:=by
    intro i g H p;have t:C+(i*z+g)<cs.length:=by
     have:i*z+z<=J.length*z:=by rw[<-ej];exact ck _ H
     omega
    obtain⟨v,h1,o,D⟩:=al _ _ (bM t);exact⟨_,v,bM t,h1,o,D⟩
   refine .bu z J j.r (j.s+C) cap' (fun i g=>(arr[j.s+(C+(i*z+g))]?).getD undef) ak ah (fun i g H p=>?_) (fun i e T g c' p=>?_)
   ·obtain⟨c,v,h1,o,D,Y⟩:=ag i g H p;refine⟨?_,?_,aj,fun ⟨b,j,h1,o,D⟩=>by cases o⟩
    ·simp only[World.cell?,ar,o,g4,rM];rw[show j.s+C+(i*z+g)=j.s+(C+(i*z+g)) by omega,o];rfl
    ·rw[o];exact D
   ·have H:i<J.length:=(aL.1 T).1;have am:g<z:=by rw[<-ah e (cJ T)];exact (aL.1 p).1
    obtain⟨c,v,h1,o,D,Y⟩:=ag i g H am;simp only[o,g4];exact I i g e c c' T p h1 Y
theorem uB (u:P.follows .mixedOrders=true) (o:∀ g,(G g).ar=true) {f:cj} {args:ag} {r:U} (h:fR P G f args [] (c:=⟨fun j l=>Rd l j r⟩)) :i8 P G f args r:=by obtain⟨j,D,h1,C,m⟩:=h;intro w A F q t z;refine (EW (A:=A) u o h1 q t z).mono ?_;rintro e w' ⟨B,muZ',rfl,p,rel,v⟩;exact⟨B,rfl,p,Wp rel m v⟩
theorem au {f:cj} {args:ag} {r:U} {l:ae} {K:U->ae->Prop} (j:i8 P G f args r) (g:am args=true) (h:K r l) :fR P G f args l (c:=⟨K⟩):=
 ⟨r,l,.pure j g,aN _,h⟩
theorem SI (q:P.follows .mixedOrders=true) (m:∀ g,(G g).ar=true) {f:cj} {args:ag} (h:fR P G f args [] (c:=⟨fun r _=>r=.bool true⟩))
  {w:aT} {A:Nat->Prop} {vs:Array aE} (o:∀ g,de w A (G g) (.pointer (some ⟨g,0,none⟩))) (p:vs.size=args.length)
  (t:∀ (j:Nat) (c:U) (v:aE),args[j]?=some c->vs[j]?=some v->de w A c v) :
  Calls P f vs w fun e w'=>e=.returned (.bool true)/\RowKit.Below w.heap.size w w':=by obtain⟨B,z,h1,u,rfl⟩:=h;exact Yd q m h1 o p t
end
section
variable {P:bp}
inductive c4 (P:bp) :List aG->ag->Prop
 | nil:c4 P [] []
 | bool {g:aG} {b:Bool} {j:List aG} {cs:ag} (m:P.underlying g=some .bool) (h:c4 P j cs) :c4 P (g::j) (.bool b::cs)
 | int {g:aG} {k:cU} {n:Int} {j:List aG} {cs:ag} (m:P.underlying g=some (.int k)) (h1:k.min<=n) (q:n<=k.max) (h:c4 P j cs) :c4 P (g::j) (.int k n::cs)
 | str {g:aG} {s:List UInt8} {j:List aG} {cs:ag} (m:P.underlying g=some .string) (v:s.length<=maxLen) (h:c4 P j cs) :c4 P (g::j) (.str s::cs)
 | ad {g e:aG} {j:List aG} {cs:ag} (m:P.underlying g=some (.slice e)) (h:c4 P j cs) :c4 P (g::j) (.ad::cs)
 | Z {g e:aG} {o:List (ag)} {j:List aG} {cs:ag} (m:P.underlying g=some (.slice e)) (u:o.length<=maxLen) (w:∀ r∈o,r.length=P.cellsOf e) (t:∀ r∈o,c4 P [e] r) (h:c4 P j cs) :c4 P (g::j) (.bu (P.cellsOf e) o::cs)
 | struct {g:aG} {p:Array Field} {j:List aG} {cs:ag} (m:P.underlying g=some (.struct p)) (h:c4 P (p.toList.map (·.type)++j) cs) :c4 P (g::j) cs
 | array {g e:aG} {n:Nat} {j:List aG} {cs:ag} (m:P.underlying g=some (.array n e)) (h:c4 P (List.replicate n e++j) cs) :c4 P (g::j) cs
def qN (P:bp) :List Field->Nat->Option Nat
 | [],g=>some g
 | f::r,g=>if f.offset=g then qN P r (g+P.cellsOf f.type) else none
def p3 (P:bp) :Nat->aG->Bool
 | 0,_=>false
 | d+1,g=>match P.underlying g with
  | some .bool | some (.int _) | some .string=>true
  | some (.slice e)=>decide (0<P.cellsOf e)&&p3 P d e
  | some (.struct h)=>decide (qN P h.toList 0=some (P.cellsOf g))&&h.toList.all fun f=>p3 P d f.type
  | some (.array n e)=>decide (n*P.cellsOf e=P.cellsOf g)&&p3 P d e
  | _=>false
structure mD (P:bp) (w:aT) (A:Nat->Prop) (ts:List aG) (vs:List aE) (cs:ag) :Prop where
 len:cs.length=vs.length
 ty:∀ g cs',c4 P g cs'->c4 P (ts++g) (cs++cs')
 k3:∀ (j:Nat) (c:U) (v:aE),cs[j]?=some c->vs[j]?=some v->de w A c v/\v.oneCell'=true
theorem mD.nil {w:aT} {A:Nat->Prop}:mD P w A [] [] []:=⟨rfl,fun _ _ h=>h,fun g c j h=>by simp at h⟩
theorem mD.app {w:aT} {A:Nat->Prop} {ts o:List aG} {vs q:List aE} {cs cs' : ag} (a:mD P w A ts vs cs) (b:mD P w A o q cs') :mD P w A (ts++o) (vs++q) (cs++cs'):=by
 refine⟨by simp[a.len,b.len],fun u t h=>by rw[hi,hi];exact a.ty _ _ (b.ty _ _ h),fun m c p j g=>?_⟩;by_cases h:m<cs.length
 ·rw[aV h] at j;rw[aV (by rw[<-a.len];exact h)] at g;exact a.k3 m c p j g
 ·rw[eu F] at j;rw[eu (by rw[<-a.len];omega)] at g;rw[<-a.len] at g;exact b.k3 _ c p j g
theorem zn {alZ j:Type} {f:alZ->Option j}:∀ {l:List alZ} {r:List j},l.mapM f=some r->∀ (p:Nat) (a:alZ),l[p]?=some a->∃ x,r[p]?=some x/\f a=some x
 | [],r,h,p,a,g=>by simp at g
 | a0::l,r,h,p,a,g=>by
  rw[pj] at h;simp only[Option.bind_eq_bind,bind_some,tk,bc] at h;obtain⟨b,h1,t,m,rfl⟩:=h;cases p with
  | zero=>simp only[hl,bc] at g;subst g;exact⟨b,rfl,h1⟩
  | succ p=>obtain⟨x,o,q⟩:=zn m p a (by simpa using g);exact⟨x,by simpa using o,q⟩
theorem w0 {w:aT} {A:Nat->Prop} {c:U} {v:aE} (h:de w A c v) (h1:v.oneCell'=true) :∀ (j:Nat) (c' : U) (g:aE),[c][j]?=some c'->[v][j]?=some g->de w A c' g/\g.oneCell'=true:=by
 intro j c' g m o;cases j with
 | zero=>simp only[hl,bc] at m o;subst m o;exact⟨h,h1⟩
 | succ j=>simp at m
theorem Ye {g:Type} {enc:aG × aE->g} {w:aT} {base:Nat} {spare:Nat->Bool} {held:Bool} {fuel:Nat} {t:aG} {vs:List aE} {x:DataW g × List MemPlace}
  (j:P.underlying t=some .bool) (h:DataW.trod enc P w base spare held (fuel+1) t vs=some x) :∃ b,vs=[.bool b]:=by
 unfold DataW.trod at h;rw[j] at h;split at h
 case h_1 b _=>exact⟨b,rfl⟩
 all_goals first | (cases h;done) | (rename_i heq;cases heq;done) | (rename_i heq _;cases heq;done) | (rename_i heq _ _;cases heq;done) | (rename_i heq _ _ _;cases heq;done) | (simp_all;done)
theorem trod_int {j:Type} {enc:aG × aE->j} {w:aT} {base:Nat} {spare:Nat->Bool} {held:Bool} {fuel:Nat} {t:aG} {k:cU} {vs:List aE} {x:DataW j × List MemPlace}
  (o:P.underlying t=some (.int k)) (h:DataW.trod enc P w base spare held (fuel+1) t vs=some x) :∃ n,vs=[.int k n]/\k.min<=n/\n<=k.max:=by
 unfold DataW.trod at h;rw[o] at h;split at h<;>simp only[reduceCtorEq,bc,TypeDesc.int.injEq] at *<;>try (exfalso;simp_all;done)
 rename_i q p n heq;subst heq;split at h
 ·rename_i m;obtain⟨rfl,g⟩:=m;simp only[Lit.wf,bU,bK] at g;exact⟨n,rfl,g.1,g.2⟩
 ·cases h
theorem Yg {g:Type} {enc:aG × aE->g} {w:aT} {base:Nat} {spare:Nat->Bool} {held:Bool} {fuel:Nat} {t:aG} {vs:List aE} {x:DataW g × List MemPlace}
  (m:P.underlying t=some .string) (h:DataW.trod enc P w base spare held (fuel+1) t vs=some x) :∃ s,vs=[.string s]/\s.size<=maxLen:=by
 unfold DataW.trod at h;rw[m] at h;split at h<;>simp only[reduceCtorEq,bc] at *<;>try (exfalso;simp_all;done)
 split at h
 ·rename_i s _ j;exact⟨s,rfl,j⟩
 ·cases h
theorem Yf {g:Type} {enc:aG × aE->g} {w:aT} {base:Nat} {spare:Nat->Bool} {held:Bool} {fuel:Nat} {t e:aG} {vs:List aE} {x:DataW g × List MemPlace}
  (m:P.underlying t=some (.slice e)) (h:DataW.trod enc P w base spare held (fuel+1) t vs=some x) :
  vs=[.slice none 0 0]\/∃ a len cap,vs=[.slice (some a) len cap]/\len<=cap/\cap<=maxLen/\∃ Cg,(List.range len).mapM (fun i=>(w.cells? base (a.add (i*P.cellsOf e)) (P.cellsOf e)).bind (DataW.trod enc P w base spare held fuel e))=some Cg:=by
 unfold DataW.trod at h;rw[m] at h;split at h<;>simp only[reduceCtorEq,bc,TypeDesc.slice.injEq] at *<;>try (exfalso;simp_all;done)
 ·exact .inl trivial
 ·rename_i o a len cap heq;subst heq;split at h
  ·rename_i j;rw[bind_some] at h;obtain⟨Cg,h1,_⟩:=h;exact .inr ⟨a,len,cap,rfl,j.2.1,j.2.2,Cg,h1⟩
  ·cases h
theorem Yh {g:Type} {enc:aG × aE->g} {w:aT} {base:Nat} {spare:Nat->Bool} {held:Bool} {fuel:Nat} {t:aG} {fs:Array Field} {vs:List aE} {x:DataW g × List MemPlace}
  (m:P.underlying t=some (.struct fs)) (h:DataW.trod enc P w base spare held (fuel+1) t vs=some x) :
  vs.length=P.cellsOf t/\∃ xs,(fs.toList.mapM fun f=>DataW.trod enc P w base spare held fuel f.type ((vs.drop f.offset).take (P.cellsOf f.type)))=some xs:=by
 unfold DataW.trod at h;rw[m] at h;split at h<;>simp only[reduceCtorEq,bc,TypeDesc.struct.injEq] at *<;>try (exfalso;simp_all;done)
 rename_i o heq;subst heq;split at h
 ·rename_i j;rw[map_some] at h;obtain⟨xs,h1,_⟩:=h;exact⟨j,xs,h1⟩
 ·cases h
theorem trod_array {g:Type} {enc:aG × aE->g} {w:aT} {base:Nat} {spare:Nat->Bool} {held:Bool} {fuel:Nat} {t e:aG} {n:Nat} {vs:List aE} {x:DataW g × List MemPlace}
  (m:P.underlying t=some (.array n e)) (h:DataW.trod enc P w base spare held (fuel+1) t vs=some x) :
  vs.length=P.cellsOf t/\∃ xs,((List.range n).mapM fun i=>DataW.trod enc P w base spare held fuel e ((vs.drop (i*P.cellsOf e)).take (P.cellsOf e)))=some xs:=by
 unfold DataW.trod at h;rw[m] at h;split at h<;>simp only[reduceCtorEq,bc,TypeDesc.array.injEq] at *<;>try (exfalso;simp_all;done)
 rename_i p o heq;obtain⟨rfl,rfl⟩:=heq;split at h
 ·rename_i j;rw[map_some] at h;obtain⟨xs,h1,_⟩:=h;exact⟨j,xs,h1⟩
 ·cases h
theorem Om (a:Addr) (x j:Nat) :a.add (x+j)=(a.add x).add j:=by
 unfold Addr.add;by_cases h:x=0
 ·subst h;simp
 ·by_cases g:j=0
  ·subst g;simp
  ·rw[ai F,ai h,ai g];simp only[i4]
theorem add_plain (b o n:Nat) :(Addr.mk b o none).add n=⟨b,o+n,none⟩:=by
 unfold Addr.add;by_cases g:n=0
 ·subst g;simp
 ·rw[ai g]
theorem Mf {ai:Type} {enc:aG × aE->ai} {w:aT} {A:Nat->Prop} (av:∀ k,A k) {base:Nat} {spare:Nat->Bool} {held:Bool}:∀ (fuel:Nat) (D:Nat) (t:aG) (vs:List aE) (d:DataW ai) (ps:List MemPlace),
  p3 P D t=true->DataW.trod enc P w base spare held fuel t vs=some (d,ps)->∃ cs,mD P w A [t] vs cs
 | 0,_,_,_,_,_,_,h=>by simp[DataW.trod] at h
 | fuel+1,0,t,vs,d,ps,o,h=>by cases o
 | fuel+1,D+1,t,vs,d,ps,o,h=>by
  have ap:=fun t vs d ps o h=>Mf av (enc:=enc) (w:=w) (base:=base) (spare:=spare) (held:=held) fuel D t vs d ps o h
  unfold p3 at o;split at o
  ·rename_i j;obtain⟨b,rfl⟩:=Ye j h;exact⟨[.bool b],⟨rfl,fun T K h=>.bool j h,w0 (.bool b) rfl⟩⟩
  ·rename_i k j;obtain⟨n,rfl,h1,u⟩:=trod_int j h;exact⟨[.int k n],⟨rfl,fun T K h=>.int j h1 u h,w0 (.int k n) rfl⟩⟩
  ·rename_i j;obtain⟨s,rfl,h1⟩:=Yg j h;exact⟨[.str s.data.toList],⟨rfl,fun T K h=>.str j (show s.data.toList.length<=maxLen from h1) h,w0 (.str s) rfl⟩⟩
  ·rename_i e j;simp only[bU,bK] at o;rcases Yf j h with rfl | ⟨a,len,cap,rfl,a2,a1,a0,aF⟩
   ·exact⟨[.ad],⟨rfl,fun T K h=>.ad j h,w0 .ad rfl⟩⟩
   ·have ao:∀ i,i<len->∃ C row,w.cells? base (a.add (i*P.cellsOf e)) (P.cellsOf e)=some C/\mD P w A [e] C row:=fun i g=>by
     obtain⟨x,_,S⟩:=zn aF i i (by rw[hn g]);rw[bind_some] at S;obtain⟨C,h1,u⟩:=S;obtain⟨row,Y⟩:=ap e C x.1 x.2 o.2 u;exact⟨C,row,h1,Y⟩
    have aD:∃ (C:Nat->List aE) (rows:Nat->ag),∀ i,i<len->w.cells? base (a.add (i*P.cellsOf e)) (P.cellsOf e)=some (C i)/\mD P w A [e] (C i) (rows i):=by
     refine⟨fun i=>if g:i<len then (ao i g).choose else [],fun i=>if g:i<len then (ao i g).choose_spec.choose else [],fun i g=>?_⟩;simp only[dif_pos g];exact (ao i g).choose_spec.choose_spec
    obtain⟨C,rows,J⟩:=aD;have O:∀ i,i<len->(C i).length=P.cellsOf e/\∀ m,m<P.cellsOf e->∃ v,(C i)[m]?=some v/\w.cell? (a.add (i*P.cellsOf e+m))=some v:=fun i g=>by
     have h1:=(J i g).1;unfold World.cells? at h1;split at h1
     ·refine⟨by rw[De h1];simp,fun m Q=>?_⟩;obtain⟨v,u,Y⟩:=zn h1 m m (by rw[hn Q]);refine⟨v,u,?_⟩;rw[<-Y,Om]
     ·cases h1
    let I:=(List.range len).map rows
    have am:∀ (i:Nat) (r:ag),I[i]?=some r->i<len/\r=rows i:=fun i r z=>by
     simp only[I,b0] at z;by_cases g:i<len
     ·rw[hn g] at z;simp only[cA,bc] at z;exact⟨g,z.symm⟩
     ·rw[dW (by simp;omega)] at z;cases z
    have W:I.length=len:=by simp[I]
    have ay:∀ r∈I,r.length=P.cellsOf e:=fun r z=>by
     obtain⟨i,g⟩:=xW z;obtain⟨h1,rfl⟩:=am i r g;rw[(J i h1).2.len,(O i h1).1]
    have aS:∀ r∈I,c4 P [e] r:=fun r z=>by
     obtain⟨i,g⟩:=xW z;obtain⟨h1,rfl⟩:=am i r g;have:=(J i h1).2.ty [] [] .nil;simpa using this
    refine⟨[.bu (P.cellsOf e) I],⟨rfl,fun T K h=>.Z j F ay aS h,w0 ?_ rfl⟩⟩;by_cases aC:len=0
    ·subst aC;exact .eH _ _ _
    ·obtain⟨a4,_,X⟩:=(O 0 F).2 0 o.1;have ax:a.spot=none:=by
      unfold World.cell? at X;split at X
      ·split at X
       ·cases X
       ·rename_i ah;rw[show 0*P.cellsOf e+0=0 by omega] at ah;simp only[Addr.add,if_true] at ah;cases aR:a.spot with
        | none=>rfl
        | some x=>rw[aR] at ah;simp at ah
      ·cases X
     obtain⟨aA,aY,a3⟩:=a;simp only at ax;subst ax;have az:=aB.bu (w:=w) (R:=A) (h:=aM.empty) (muZ:=fun _=>none) (P.cellsOf e) I aA aY cap (fun i m=>((C i)[m]?).getD undef) F ay
      (fun i m g Q=>by
       rw[W] at g;obtain⟨v,h1,u⟩:=(O i g).2 m Q;obtain⟨c,q⟩:∃ c,(rows i)[m]?=some c:=by
        have:m<(rows i).length:=by rw[(J i g).2.len,(O i g).1];exact Q
        exact⟨_,bM this⟩
       refine⟨?_,?_,av _,fun ⟨b,G,h1,u,Y⟩=>by cases u⟩
       ·rw[h1,g4,<-add_plain];exact u
       ·rw[h1,g4];exact ((J i g).2.k3 m c v q h1).2)
      (fun i r z m c q=>by
       obtain⟨g,rfl⟩:=am i r z;have Q:m<P.cellsOf e:=by rw[<-(O i g).1,<-(J i g).2.len];exact (aL.1 q).1
       obtain⟨v,h1,u⟩:=(O i g).2 m Q;rw[h1,g4];exact ((J i g).2.k3 m c v q h1).1)
     rw[W] at az;exact az
  ·rename_i p j;simp only[bU,bK,gb] at o;obtain⟨W,U,S⟩:=Yh j h;have al:∀ (p:List Field) (B:Nat) (U:List (DataW ai × List MemPlace)),qN P p B=some vs.length->B<=vs.length->(∀ f∈p,p3 P D f.type=true)->
     (p.mapM fun f=>DataW.trod enc P w base spare held fuel f.type ((vs.drop f.offset).take (P.cellsOf f.type)))=some U->∃ cs,mD P w A (p.map (·.type)) (vs.drop B) cs:=by
    intro p
    induction p with
    | nil=>intro B U q aP _ _;simp only[qN,bc] at q;rw[q,List.drop_length];exact⟨[],.nil⟩
    | cons f p aU=>
     intro B U q aP aw ae;simp only[qN] at q;split at q
     ·rename_i aH;rw[pj] at ae;simp only[Option.bind_eq_bind,bind_some,tk,bc] at ae;obtain⟨x,h1,aZ,u,_⟩:=ae;have aO:∀ (p:List Field) (B n:Nat),qN P p B=some n->B<=n:=by
       intro p
       induction p with
       | nil=>intro B n h;simp only[qN,bc] at h;omega
       | cons au gs aV=>
        intro B n h;simp only[qN] at h;split at h
        ·have:=aV _ _ h;omega
        ·cases h
      have aK:=aO _ _ _ q;obtain⟨aj,aq⟩:=ap f.type _ x.1 x.2 (aw f V) h1;obtain⟨ak,ar⟩:=aU _ aZ q aK (fun au aI=>aw au (by simp[aI])) u;refine⟨aj++ak,?_⟩;have:=aq.app ar;rw[aH,show List.drop (B+P.cellsOf f.type) vs=List.drop (P.cellsOf f.type) (List.drop B vs) by rw[xT],i3] at this;exact this
     ·cases q
   obtain⟨cs,H⟩:=al p.toList 0 U (by rw[W];exact o.1) (eS _) o.2 S;rw[lI] at H;exact⟨cs,⟨H.len,fun T K h=>.struct j (H.ty _ _ h),H.k3⟩⟩
  ·rename_i n e j;simp only[bU,bK] at o;obtain⟨W,U,S⟩:=trod_array j h;have aQ:∀ i,i<n->∃ c,mD P w A [e] ((vs.drop (i*P.cellsOf e)).take (P.cellsOf e)) c:=fun i g=>by
    obtain⟨x,_,h1⟩:=zn S i i (by rw[hn g]);exact ap e _ x.1 x.2 o.2 h1
   have al:∀ G,G<=n->∃ cs,mD P w A (List.replicate G e) (vs.drop ((n - G)*P.cellsOf e)) cs:=by
    intro G
    induction G with
    | zero=>intro _;rw[vo,k6 F];exact⟨[],.nil⟩
    | succ G aW=>
     intro ae;obtain⟨aj,aq⟩:=aQ (n - (G+1)) F;obtain⟨ak,ar⟩:=aW F;refine⟨aj++ak,?_⟩;have:=aq.app ar;have aJ:(n - G)*P.cellsOf e=(n - (G+1))*P.cellsOf e+P.cellsOf e:=by rw[<-ej];congr 1;omega
     rw[aJ,<-xT,i3] at this;exact this
   obtain⟨cs,H⟩:=al n (aN _);rw[th,ti,lI] at H;exact⟨cs,⟨H.len,fun T K h=>.array j (H.ty _ _ h),H.k3⟩⟩
  ·cases o
def px (P:bp) (t:aG) (c:U) :Prop:=match dE P t with
 | some true=>∃ cs,c=.af cs/\c4 P [t] cs
 | _=>c4 P [t] [c]
inductive jb (P:bp) :List aG->ag->Prop
 | nil:jb P [] []
 | cons {g:aG} {c:U} {h:List aG} {cs:ag}:px P g c->jb P h cs->jb P (g::h) (c::cs)
theorem Gi {I:Type} {enc:aG × aE->I} {w:aT} {A:Nat->Prop} (Q:∀ k,A k) {base J:Nat} {spare:Nat->Bool} {held:Bool} {D:Nat}:∀ {ts:List aG} {vs:List aE} {o:List (DataW I)} {ps:List MemPlace},
  (∀ t∈ts,p3 P D t=true)->(∀ (j:Nat) t v,ts[j]?=some t->vs[j]?=some v->Value.okWide P w .any J t v)->DataW.TrodAll enc P w base spare held ts vs o ps->
  ∃ cs,jb P ts cs/\cs.length=vs.length/\∀ (j:Nat) (c:U) (v:aE),cs[j]?=some c->vs[j]?=some v->de w A c v
 | [],[],_,_,_,_,_=>⟨[],.nil,rfl,fun j c v h=>by simp at h⟩
 | [],_::_,o,_,_,_,h=>by cases o<;>cases h
 | _::_,[],o,_,_,_,h=>by cases o<;>cases h
 | _::_,_::_,[],_,_,_,h=>by cases h
 | t::ts,v::vs,d::o,ps,H,T,h=>by
  obtain⟨ap,q,⟨Y,u⟩,ak,_⟩:=h;obtain⟨cs,h1,ae,ag⟩:=Gi Q (fun t u=>H t (by simp[u])) (fun j t v u p=>T (j+1) t v (by simpa using u) (by simpa using p)) ak;obtain⟨j0,m⟩:=Mf Q Y D t v.cells.toList d ap (H t V) u;have W:c4 P [t] j0:=by simpa using m.ty [] [] .nil
  have p:=T 0 t v rfl rfl;have O:∀ c,px P t c->de w A c v->∃ cs,jb P (t::ts) cs/\cs.length=(v::vs).length/\∀ (j:Nat) (c:U) (i0:aE),cs[j]?=some c->(v::vs)[j]?=some i0->de w A c i0:=fun c g ah=>
   ⟨c::cs,.cons g h1,by simp[ae],fun j X i0 F G=>by
    cases j with
    | zero=>simp only[hl,bc] at F G;subst F G;exact ah
    | succ j=>exact ag j X i0 (by simpa using F) (by simpa using G)⟩
  unfold Value.okWide at p;have agg:dE P t=(P.underlying t).map fun d=>match d with | .struct _ | .array _ _=>true | _=>false:=rfl
  cases z:P.underlying t with
  | none=>
   exfalso;have:=H t V;cases D with
   | zero=>cases this
   | succ D=>unfold p3 at this;rw[z] at this;cases this
  | some K=>
   rw[z] at p agg;have al:(∃ cs,v=.agg cs)->dE P t=some true->∃ cs,jb P (t::ts) cs/\cs.length=(v::vs).length/\∀ (j:Nat) (c:U) (i0:aE),cs[j]?=some c->(v::vs)[j]?=some i0->de w A c i0:=by
    rintro⟨xs,rfl⟩ C;refine O (.af j0) (by unfold px;rw[C];exact⟨j0,rfl,W⟩) (.af j0 xs (by have:=m.len;simp only[Value.cells,rB] at this;exact this.symm) (fun j x B=>?_) (fun j c x g B=>?_))
    ·have ai:j<j0.length:=by rw[m.len];simp only[Value.cells,rB];exact (ik.1 B).1
     exact (m.k3 j j0[j] x (bM ai) (by simpa [Value.cells] using B)).2
    ·exact (m.k3 j c x g (by simpa [Value.cells] using B)).1
   have am:(∀ xs,v≠.agg xs)->dE P t=some false->∃ cs,jb P (t::ts) cs/\cs.length=(v::vs).length/\∀ (j:Nat) (c:U) (i0:aE),cs[j]?=some c->(v::vs)[j]?=some i0->de w A c i0:=by
    intro aj C;have R:v.cells.toList=[v]:=by cases v<;>first | rfl | exact bV rfl (aj _)
    have S:=m.len;rw[R] at S;obtain⟨c,rfl⟩:∃ c,j0=[c]:=List.length_eq_one_iff.1 S;refine O c (by unfold px;rw[C];exact W) (m.k3 0 c v rfl (by rw[R];rfl)).1
   have ao:Cell.okWide P w .any J t v->∀ xs,v≠.agg xs:=by
    rintro g xs rfl;unfold Cell.okWide at g;rw[z] at g;cases K<;>simp[Cell.ok,z] at g
   cases K<;>simp only[cA] at agg<;>first
    | exact al (by obtain⟨cs,h,_⟩:=p;exact⟨cs,h⟩) agg
    | exact am (ao p) agg
end
abbrev b1 (alZ:Type):=Option (List alZ)
def b1.l {alZ:Type} (s:b1 alZ) :List alZ:=s.getD []
@[simp] theorem b1.ab2 {alZ:Type}:b1.l (none:b1 alZ)=[]:=rfl
@[simp] theorem b1.pT {alZ:Type} (l:List alZ) :b1.l (some l)=l:=rfl
def b4 {alZ:Type} (z:Nat) (enc:alZ->ag) :b1 alZ->U
 | none=>.ad
 | some l=>.bu z (l.map enc)
section
variable {alZ:Type} {z:Nat} {enc:alZ->ag}
@[simp] theorem b9 (s:b1 alZ) :bD (.Z z) (b4 z enc s)=some (.int .i64 s.l.length):=by cases s<;>simp[b4,b1.l]
@[simp] theorem oM (s:b1 alZ) (k:cU) (i:Int) :bQ (.Z z) (b4 z enc s) (.int k i)=if 0<=i then (s.l[i.toNat]?).map fun x=>.b6 (enc x) 0 else none:=by
 cases s with
 | none=>by_cases h:0<=i<;>simp[b4,b1.l,bQ,h]
 | some l=>by_cases h:0<=i<;>simp[b4,b1.l,h,Function.comp_def]
theorem c8 {s:b1 alZ} {k:Nat} {y:alZ} (h:s.l[k]?=some y) :bQ (.Z z) (b4 z enc s) (.int .i64 (k:Int))=some (.b6 (enc y) 0):=by rw[oM];simp[h]
@[simp] theorem Z9 (s:b1 alZ) :(b4 z enc s).cells=some [b4 z enc s]:=by cases s<;>rfl
theorem pD (h:∀ x,am (enc x)=true) (s:b1 alZ) :(b4 z enc s).ar=true:=by
 cases s with
 | none=>rfl
 | some l=>
  simp only[b4,U.ar]
  induction l with
  | nil=>rfl
  | cons x l g=>simp only[dg,r1,h,g,k5]
end
theorem wrap_i64 {n:Int} (h1:-9223372036854775808<=n) (m:n<9223372036854775808) :IntKind.i64.wrap n=n:=by
 have g:(2 ^ IntKind.i64.bits:Int)=18446744073709551616:=by decide
 have h:(2 ^ (IntKind.i64.bits - 1) :Int)=9223372036854775808:=by decide
 have j:IntKind.i64.signed=true:=rfl;simp only[IntKind.wrap,g,h,j,lH,bK];split<;>omega
theorem aQ {alZ:Type} {l:List alZ} {k:Nat} (h:k<l.length) :∃ x,l[k]?=some x/\x∈l:=⟨l[k],bM h,Fw h⟩
section
variable {P:bp} {G:Nat->U}
theorem vK {t e:aG} (g:P.underlying t=some (.slice e)) {alZ:Type} (z:Nat) (enc:alZ->ag) (s:b1 alZ) :ea P .eql t (b4 z enc s) .ad=some (.bool s.isNone):=by cases s<;>simp[b4,ea,r8,dK,g]
theorem QI {e:aG} {k:cU} (p:P.underlying e=some (.int k)) (m:dE P e=some false) {D:Nat} (x y:List Int) :∀ (n i:Nat),i+n=x.length->i+n=y.length->
  dK.oG P (dK P (D+1)) e 1 (x.map (.int k)) (y.map (.int k)) n i=some (decide (x.drop i=y.drop i)):=by
 intro n
 induction n with
 | zero=>intro i q u;rw[k6 F,k6 F];simp[dK.oG]
 | succ n w=>
  intro i q u;have t:x[i]?=some x[i]:=bM F;have v:y[i]?=some y[i]:=bM F;unfold dK.oG;simp only[DG m,oi,b0,t,v,cA];have o:dK P (D+1) e (.int k x[i]) (.int k y[i])=some (decide (x[i]=y[i])):=by
   unfold dK;rw[p];simp only[if_true];by_cases h:x[i]=y[i]<;>simp[h]
  rw[o];have g:x.drop i=x[i] ::x.drop (i+1):=oc F;have j:y.drop i=y[i] ::y.drop (i+1):=oc F;by_cases h:x[i]=y[i]
  ·simp only[h,ol];rw[w (i+1) F F];refine ch some (decide_eq_decide.2 ?_);rw[g,j,h];simp only[List.cons.injEq,true_and]
  ·simp only[h,vq];refine ch some (cu ?_).symm;rw[g,j];simp only[List.cons.injEq,h,false_and,x5]
theorem QO {t e:aG} {k:cU} {n:Nat} (j:P.underlying t=some (.array n e)) (m:P.underlying e=some (.int k)) (g:dE P e=some false) (h:ca P e=some 1) {x y:List Int} (o:x.length=n) (p:y.length=n) {D:Nat} :
  dK P (D+2) t (.af (x.map (.int k))) (.af (y.map (.int k)))=some (decide (x=y)):=by unfold dK;rw[j];simp only[h];rw[QI m g x y n 0 F F];simp
theorem sb {z:Nat} {es:List (ag)} (g:∀ e∈es,e.length=z) :es.flatten.length=es.length*z:=by
 induction es with
 | nil=>simp
 | cons e es j=>rw[hj,cI,g e V,j fun e h=>g e (by simp[h]),dM,ej,rJ]
theorem ln {z:Nat} {es:List (ag)} (m:∀ e∈es,e.length=z) {i j:Nat} {e:ag} (g:es[i]?=some e) (p:j<z) :es.flatten[i*z+j]?=e[j]?:=by
 induction es generalizing i with
 | nil=>simp at g
 | cons x es o=>
  have h:x.length=z:=m x V;cases i with
  | zero=>
   simp only[hl,bc] at g;subst g;rw[hj,ti,hI,aV F]
  | succ i=>
   simp only[js] at g;rw[hj,eu (by rw[h,ej];omega),h,show (i+1)*z+j - z=i*z+j by rw[ej];omega];exact o (fun e g=>m e (by simp[g])) g
theorem Rc {z:Nat} {es:List (ag)} (g:∀ e∈es,e.length=z) (i:Nat) :es.flatten.drop (i*z)=(es.drop i).flatten:=by
 induction es generalizing i with
 | nil=>simp
 | cons x es m=>
  have j:x.length=z:=g x V;cases i with
  | zero=>simp
  | succ i=>
   rw[hj,show (i+1)*z=x.length+i*z by rw[ej,j,rJ],List.drop_length_add_append,List.drop_succ_cons];exact m (fun e h=>g e (by simp[h])) i
theorem Cu {z:Nat} {es:List (ag)} (h:∀ e∈es,e.length=z) {i:Nat} {e:ag} (g:es[i]?=some e) :(es.flatten.drop (i*z)).take z=e:=by
 rw[Rc h];have j:i<es.length:=(aL.1 g).1;have:es.drop i=e::es.drop (i+1):=by rw[oc j];congr 1;rw[bM j] at g;exact cc g
 rw[this,hj,il (by rw[h e (cJ g)];exact aN _),aI (by rw[h e (cJ g)];exact aN _)]
theorem pH {z:Nat} {es:List (ag)} (o:∀ e∈es,e.length=z) {i j:Nat} {e vs:ag} (g:es[i]?=some e) (u:j+vs.length<=z) :av es.flatten (i*z+j) vs=(es.set i (av e j vs)).flatten:=by
 have h:i<es.length:=(aL.1 g).1;have v:e.length=z:=o e (cJ g);have p:es.drop i=e::es.drop (i+1):=by rw[oc h];congr 1;rw[bM h] at g;exact cc g
 have q:(es.set i (av e j vs)).flatten=(es.take i).flatten++(av e j vs++(es.drop (i+1)).flatten):=by
  rw[rI,ak h,jr,hj]
 have t:es.flatten=(es.take i).flatten++(e++(es.drop (i+1)).flatten):=by
  conv=>lhs;rw[<-i3 i es]
  rw[p,jr,hj]
 have m:(es.take i).flatten.length=i*z:=by
  rw[sb (z:=z) fun e g=>o e (gy g),cL,i5 F]
 rw[q,t];simp only[av];rw[pm,aI F,m,show i*z+j - i*z=j by omega,il F,
  vh,k6 F,m,show i*z+j+vs.length - i*z=j+vs.length by omega,h2,ob F]
 simp only[hi]
theorem cF {sgZ:aS} {i:Nat} {v:U} (h:sgZ i=v) :br sgZ i v=sgZ:=by funext g;simp only[br];split<;>simp_all
theorem kk {sgZ:aS} {g:Nat} {j:U} {h:Nat} {Mu:U} (h1:sgZ g=j) (m:sgZ h=Mu) :∃ s:aS,sgZ=br (br (s) g j) h Mu:=⟨sgZ,by rw[cF h1,cF m]⟩
theorem gF {sgZ:aS} {g:Nat} {m:U} {h:Nat} {o:U} {j:Nat} {v3:U} (h1:sgZ g=m) (p:sgZ h=o) (q:sgZ j=v3) :∃ s:aS,sgZ=br (br (br (s) g m) h o) j v3:=⟨sgZ,by rw[cF h1,cF p,cF q]⟩
theorem eO {sgZ:aS} {g:Nat} {o:U} {h:Nat} {p:U} {j:Nat} {q:U} {m:Nat} {v4:U} (h1:sgZ g=o) (t:sgZ h=p) (u:sgZ j=q) (v:sgZ m=v4) :∃ s:aS,sgZ=br (br (br (br (s) g o) h p) j q) m v4:=⟨sgZ,by rw[cF h1,cF t,cF u,cF v]⟩
theorem gu {sgZ:aS} {g:Nat} {p:U} {h:Nat} {q:U} {j:Nat} {t:U} {m:Nat} {u:U} {o:Nat} {v5:U} (h1:sgZ g=p) (v:sgZ h=q) (w:sgZ j=t) (z:sgZ m=u) (B:sgZ o=v5) :∃ s:aS,sgZ=br (br (br (br (br (s) g p) h q) j t) m u) o v5:=⟨sgZ,by rw[cF h1,cF v,cF w,cF z,cF B]⟩
theorem n4 {sgZ:aS} {g:Nat} {p:U} {h:Nat} {q:U} {j:Nat} {t:U} {m:Nat} {u:U} {o:Nat} {v:U} {i6:Nat} {jo:U} (h1:sgZ g=p) (w:sgZ h=q) (z:sgZ j=t) (B:sgZ m=u) (C:sgZ o=v) (D:sgZ i6=jo) :∃ s:aS,sgZ=br (br (br (br (br (br (s) g p) h q) j t) m u) o v) i6 jo:=⟨sgZ,by rw[cF h1,cF w,cF z,cF B,cF C,cF D]⟩
theorem AU {sgZ:aS} {g:Nat} {q:U} {h:Nat} {t:U} {j:Nat} {u:U} {m:Nat} {v:U} {o:Nat} {w:U} {i6:Nat} {z:U} {p:Nat} {Mv:U} (h1:sgZ g=q) (B:sgZ h=t) (C:sgZ j=u) (D:sgZ m=v) (F:sgZ o=w) (G:sgZ i6=z) (H:sgZ p=Mv) :∃ s:aS,sgZ=br (br (br (br (br (br (br (s) g q) h t) j u) m v) o w) i6 z) p Mv:=⟨sgZ,by rw[cF h1,cF B,cF C,cF D,cF F,cF G,cF H]⟩
theorem AV {sgZ:aS} {g:Nat} {t:U} {h:Nat} {u:U} {j:Nat} {v:U} {m:Nat} {w:U} {o:Nat} {z:U} {i6:Nat} {B:U} {p:Nat} {C:U} {q:Nat} {Mw:U} (h1:sgZ g=t) (D:sgZ h=u) (F:sgZ j=v) (G:sgZ m=w) (H:sgZ o=z) (I:sgZ i6=B) (J:sgZ p=C) (K:sgZ q=Mw) :∃ s:aS,sgZ=br (br (br (br (br (br (br (br (s) g t) h u) j v) m w) o z) i6 B) p C) q Mw:=⟨sgZ,by rw[cF h1,cF D,cF F,cF G,cF H,cF I,cF J,cF K]⟩
theorem Mq {sgZ:aS} {g:Nat} {u:U} {h:Nat} {v:U} {j:Nat} {w:U} {m:Nat} {z:U} {o:Nat} {B:U} {i6:Nat} {C:U} {p:Nat} {D:U} {q:Nat} {F:U} {t:Nat} {v9:U} (h1:sgZ g=u) (G:sgZ h=v) (H:sgZ j=w) (I:sgZ m=z) (J:sgZ o=B) (K:sgZ i6=C) (O:sgZ p=D) (P:sgZ q=F) (Q:sgZ t=v9) :∃ s:aS,sgZ=br (br (br (br (br (br (br (br (br (s) g u) h v) j w) m z) o B) i6 C) p D) q F) t v9:=⟨sgZ,by rw[cF h1,cF G,cF H,cF I,cF J,cF K,cF O,cF P,cF Q]⟩
theorem Mo {sgZ:aS} {g:Nat} {v:U} {j:Nat} {w:U} {m:Nat} {z:U} {o:Nat} {B:U} {p:Nat} {C:U} {i6:Nat} {D:U} {q:Nat} {F:U} {t:Nat} {G:U} {u:Nat} {H:U} {h:Nat} {Mr:U} (h1:sgZ g=v) (J:sgZ j=w) (K:sgZ m=z) (O:sgZ o=B) (P:sgZ p=C) (Q:sgZ i6=D) (R:sgZ q=F) (S:sgZ t=G) (T:sgZ u=H) (I:sgZ h=Mr) :∃ s:aS,sgZ=br (br (br (br (br (br (br (br (br (br (s) g v) j w) m z) o B) p C) i6 D) q F) t G) u H) h Mr:=⟨sgZ,by rw[cF h1,cF J,cF K,cF O,cF P,cF Q,cF R,cF S,cF T,cF I]⟩
theorem Mp {sgZ:aS} {g:Nat} {w:U} {m:Nat} {B:U} {o:Nat} {C:U} {p:Nat} {D:U} {q:Nat} {F:U} {i6:Nat} {G:U} {t:Nat} {H:U} {u:Nat} {I:U} {v:Nat} {J:U} {h:Nat} {z:U} {j:Nat} {Ms:U} (h1:sgZ g=w) (P:sgZ m=B) (Q:sgZ o=C) (R:sgZ p=D) (S:sgZ q=F) (T:sgZ i6=G) (V:sgZ t=H) (W:sgZ u=I) (X:sgZ v=J) (K:sgZ h=z) (O:sgZ j=Ms) :∃ s:aS,sgZ=br (br (br (br (br (br (br (br (br (br (br (s) g w) m B) o C) p D) q F) i6 G) t H) u I) v J) h z) j Ms:=⟨sgZ,by rw[cF h1,cF P,cF Q,cF R,cF S,cF T,cF V,cF W,cF X,cF K,cF O]⟩
theorem YE {sgZ:aS} {g:Nat} {z:U} {o:Nat} {D:U} {p:Nat} {F:U} {q:Nat} {G:U} {t:Nat} {H:U} {i6:Nat} {I:U} {u:Nat} {J:U} {v:Nat} {K:U} {w:Nat} {O:U} {h:Nat} {B:U} {j:Nat} {C:U} {m:Nat} {Mt:U} (h1:sgZ g=z) (S:sgZ o=D) (T:sgZ p=F) (V:sgZ q=G) (W:sgZ t=H) (X:sgZ i6=I) (Y:sgZ u=J) (ae:sgZ v=K) (ag:sgZ w=O) (P:sgZ h=B) (Q:sgZ j=C) (R:sgZ m=Mt) :∃ s:aS,sgZ=br (br (br (br (br (br (br (br (br (br (br (br (s) g z) o D) p F) q G) t H) i6 I) u J) v K) w O) h B) j C) m Mt:=⟨sgZ,by rw[cF h1,cF S,cF T,cF V,cF W,cF X,cF Y,cF ae,cF ag,cF P,cF Q,cF R]⟩
section
variable {alZ:Type}
@[simp] theorem qO (l:ae) (z:Nat) (enc:alZ->ag) (s:b1 alZ) :cq l z (b4 z enc s)=some ((s.l.map enc).flatten,s.l.length):=by cases s<;>simp[b4,cq]
end
theorem uO {l:ae} {b:Nat} {c:aq} (h:l[b]?=some c) :l.set b c=l:=by
 apply g1;intro j;rw[oe];by_cases g:b=j
 ·subst g;rw[ak rfl,ak (a1 h)];exact h.symm
 ·rw[ai g]
theorem Oz {l:ae} {z by_ b:Nat} {es xs:List (ag)} {x:U} (g:l[b]?=some (.cells (es.length*z) es.flatten)) (j:cq l z x=some (xs.flatten,xs.length)) (m:∀ e∈es,e.length=z) (o:z≠0) (p:by_≠0)
  (h:(es.length+xs.length)*by_<=dj) :
  dZ l z by_ (.Z z b 0 es.length es.length (es.length*z)) x=some (.Z z b 0 (es++xs).length (es++xs).length ((es++xs).length*z),l.set b (.cells ((es++xs).length*z) (es++xs).flatten)):=by
 unfold dZ;rw[j];show hq l z by_ _ xs.flatten xs.length=_;unfold hq;cases xs with
 | nil=>simp[uO g]
 | cons y q=>
  rw[ai V,ai F];simp only[g];rw[ak ⟨trivial,trivial,h⟩,ai V,ai F,ak trivial,aI (by rw[sb m];exact aN _)];simp only[cI,jr]
theorem Ge {l:ae} {z by_ b n m sz:Nat} {es xs:List (ag)} {x:U} (h:l[b]?=some (.cells sz es.flatten)) (u:cq l z x=some (xs.flatten,m)) (p:es.length=n) (o:xs.length=m) (t:sz=n*z) (v:∀ e∈es,e.length=z) (g:z≠0) (j:by_≠0)
  (q:(n+m)*by_<=dj) :
  dZ l z by_ (.Z z b 0 n n sz) x=some (.Z z b 0 (n+m) (n+m) ((n+m)*z),l.set b (.cells ((n+m)*z) (es++xs).flatten)):=by subst p o t;rw[Oz h u v g j q];simp only[cI]
theorem Oy {l:ae} {z by_:Nat} {xs:List (ag)} {x:U} (j:cq l z x=some (xs.flatten,xs.length)) (m:z≠0) (o:by_≠0) (g:xs≠[]) (h:xs.length*by_<=dj) :
  dZ l z by_ .ad x=some (.Z z l.length 0 xs.length xs.length (xs.length*z),l++[.cells (xs.length*z) xs.flatten]):=by unfold dZ;rw[j];show hq l z by_ _ xs.flatten xs.length=_;unfold hq;rw[ai (by simp[g]),ai F];simp only;rw[ak h]
theorem cD {cs vs:ag} (h:vs.length=cs.length) :av cs 0 vs=vs:=by simp only[av,nk,h2,hI];rw[k6 F,eJ]
theorem GC (len cap:Nat) (k:cU) (i:Int) :e2 len cap (some (.int k i)) none none=if 0<=i/\i<=len then some (i.toNat,len,cap) else none:=by
 unfold e2 gU;by_cases h:0<=i/\i<=len
 ·simp only[ak h]
 ·simp only[ai h]
theorem yo (len cap:Nat) (k:cU) (i:Int) :e2 len cap none (some (.int k i)) none=if 0<=i/\i<=cap then some (0,i.toNat,cap) else none:=by
 unfold e2 gU;by_cases h:0<=i/\i<=cap
 ·simp only[ak h]
 ·simp only[ai h]
theorem OY (len cap:Nat) (k k' : cU) (i j:Int) :e2 len cap (some (.int k i)) (some (.int k' j)) none=if 0<=i/\i<=j/\j<=cap then some (i.toNat,j.toNat,cap) else none:=by
 unfold e2 gU;by_cases h:0<=j/\j<=cap
 ·simp only[ak h];by_cases g:0<=i/\i<=((j.toNat:Nat) :Int)
  ·simp only[ak g];rw[ak F]
  ·simp only[ai g];rw[ai F]
 ·simp only[ai h];rw[ai F]
theorem Ls {alZ:Type} {z:Nat} {enc:alZ->ag} {l:List alZ} {k:cU} {i:Int} (h1:0<=i) (g:i<=l.length) :dw (.Z z) (b4 z enc (some l)) (some (.int k i)) none none=some (b4 z enc (some (l.drop i.toNat))):=by have h:i.toNat<=l.length:=F;simp only[dw,b4,if_true,GC,ce];rw[ak ⟨h1,g⟩];simp only[cA,bc,U.bu.injEq,true_and];rw[aI V,og]
theorem EB {alZ:Type} {z:Nat} {enc:alZ->ag} {l:List alZ} {k:cU} {i:Int} (h1:0<=i) (g:i<=l.length) :dw (.Z z) (b4 z enc (some l)) none (some (.int k i)) none=some (b4 z enc (some (l.take i.toNat))):=by simp only[dw,b4,if_true,yo,ce];rw[ak ⟨h1,g⟩];simp only[cA,bc,U.bu.injEq,true_and,lI,vo];rw[i2]
theorem Xv {alZ:Type} {z:Nat} {enc:alZ->ag} {l:List alZ} {k k' : cU} {i j:Int} (g:0<=i) (h1:i<=j) (h:j<=l.length) :dw (.Z z) (b4 z enc (some l)) (some (.int k i)) (some (.int k' j)) none=some (b4 z enc (some ((l.drop i.toNat).take (j.toNat - i.toNat)))):=by simp only[dw,b4,if_true,OY,ce];rw[ak ⟨g,h1,h⟩];simp only[cA,bc,U.bu.injEq,true_and];rw[i2,og]
end
section
variable {P:bp}
def LU (P:bp) (t:aG) :Option (List aG):=match P.underlying t with
 | some (.struct g)=>some (g.toList.map (·.type))
 | _=>none
theorem u0 {cs:ag} (h:c4 P [] cs) :cs=[]:=by cases h;rfl
theorem na {t:aG} {k:cU} {ts:List aG} {cs:ag} (m:P.underlying t=some (.int k)) (h:c4 P (t::ts) cs) :∃ n cs',cs=.int k n::cs'/\k.min<=n/\n<=k.max/\c4 P ts cs':=by
 cases h
 case int o n cs' h1 j g h=>
  rw[m] at g;cases g;exact⟨_,_,rfl,h1,j,h⟩
 all_goals (exfalso;simp_all;done)
theorem Yv {t:aG} {ts:List aG} {cs:ag} (g:P.underlying t=some .bool) (h:c4 P (t::ts) cs) :∃ b cs',cs=.bool b::cs'/\c4 P ts cs':=by
 cases h
 case bool b cs' j h=>exact⟨_,_,rfl,h⟩
 all_goals (exfalso;simp_all;done)
theorem n2 {t:aG} {fs ts:List aG} {cs:ag} (g:LU P t=some fs) (h:c4 P (t::ts) cs) :c4 P (fs++ts) cs:=by
 unfold LU at g;cases h
 case struct m j h=>rw[j] at g;cases g;exact h
 all_goals (exfalso;simp_all;done)
theorem Yu {t e:aG} {n:Nat} {ts:List aG} {cs:ag} (j:P.underlying t=some (.array n e)) (h:c4 P (t::ts) cs) :c4 P (List.replicate n e++ts) cs:=by
 cases h
 case array m o g h=>rw[j] at g;cases g;exact h
 all_goals (exfalso;simp_all;done)
theorem Yz {t e:aG} {ts:List aG} {cs:ag} (p:P.underlying t=some (.slice e)) (h:c4 P (t::ts) cs) :
  ∃ cs',c4 P ts cs'/\(cs=.ad::cs'\/∃ es,cs=.bu (P.cellsOf e) es::cs'/\es.length<=maxLen/\∀ r∈es,c4 P [e] r):=by
 cases h
 case ad j cs' g h=>exact⟨_,h,.inl rfl⟩
 case Z j es cs' o q m g h=>rw[p] at g;cases g;exact⟨_,h,.inr ⟨es,rfl,o,m⟩⟩
 all_goals (exfalso;simp_all;done)
theorem K5 {alZ:Type} {enc:alZ->ag} {Q:alZ->Prop}:∀ (es:List (ag)),(∀ r∈es,∃ x,r=enc x/\Q x)->∃ xs:List alZ,es=xs.map enc/\∀ x∈xs,Q x
 | [],_=>⟨[],rfl,fun x g=>by cases g⟩
 | r::es,h=>by
  obtain⟨x,rfl,g⟩:=h r V;obtain⟨xs,rfl,o⟩:=K5 es (fun r m=>h r (by simp[m]));exact⟨x::xs,rfl,fun y j=>by
   rcases kp.1 j with rfl | j
   ·exact g
   ·exact o y j⟩
theorem AQ {alZ:Type} {t e:aG} {z:Nat} {enc:alZ->ag} {Q:alZ->Prop} {ts:List aG} {cs:ag} (q:P.underlying t=some (.slice e)) (w:P.cellsOf e=z) (j:∀ r,c4 P [e] r->∃ x,r=enc x/\Q x) (h:c4 P (t::ts) cs) :
  ∃ (s:b1 alZ) (cs' : ag),cs=b4 z enc s::cs'/\s.l.length<=maxLen/\(∀ x∈s.l,Q x)/\c4 P ts cs':=by
 obtain⟨cs',h1,rfl | ⟨g,rfl,m,o⟩⟩:=Yz q h
 ·exact⟨none,cs',rfl,eS _,fun x u=>(by cases u),h1⟩
 ·obtain⟨B,rfl,v⟩:=K5 (enc:=enc) (Q:=Q) g (fun r p=>j r (o r p));refine⟨some B,cs',?_,by simpa using m,v,h1⟩;rw[w];rfl
theorem Mj {t:aG} {c:U} (g:dE P t=some true) (h:px P t c) :∃ cs,c=.af cs/\c4 P [t] cs:=by unfold px at h;rw[g] at h;exact h
theorem Ys {t:aG} {c:U} (g:dE P t=some false) (h:px P t c) :c4 P [t] [c]:=by unfold px at h;rw[g] at h;exact h
theorem E0 {t:aG} {ts:List aG} {cs:ag} (h:jb P (t::ts) cs) :∃ c cs',cs=c::cs'/\px P t c/\jb P ts cs':=by
 cases h with
 | cons h1 g=>exact⟨_,_,rfl,h1,g⟩
theorem Yq {cs:ag} (h:jb P [] cs) :cs=[]:=by cases h;rfl
end
end Go.bh
namespace Go.bh
open Go Go.ChangeShapes Go.RowKit
theorem Md {m:Type} {enc:aG × aE->m} {P:bp} (q:laidOutB P=true) {W o:aT} (p:Below W.heap.size W o) :∀ {ts:List aG} {vs:List aE} {g:List (DataW m)} {ps:List MemPlace},
  (∀ t∈ts,P.readableRec t=true/\t<P.types.size)->DataW.TrodAll enc P W 0 (fun _=>true) true ts vs g ps->DataW.TrodAll enc P o 0 (fun b=>decide (b<W.heap.size)) true ts vs g ps
 | [],vs,g,ps,_,h=>by
  obtain⟨rfl,rfl,rfl⟩:=trodAll_nil h;exact trodAll_mk0
 | t::ts,vs,g,ps,j,h=>by
  have v:=h.lt;obtain⟨C,D,d,B,a,b,rfl,rfl,rfl,h1,u⟩:=trodAll_cons h;exact⟨a,b,Below.trod q (j t V).1 (j t V).2 h1 p (fun x z=>v x (by simp[z])),Md q p (fun t w=>j t (by simp[w])) u,rfl⟩
theorem SJ {P:bp} {G:Nat->U} (I:P.follows .mixedOrders=true) (w:∀ g,(G g).ar=true) {f:cj} {ts:List aG} (D:Nat) (K:∀ t∈ts,p3 P D t=true) (F:laidOutB P=true)
  (O:∀ t∈ts,P.readableRec t=true/\t<P.types.size) (T:∀ cs,jb P ts cs->fR P G f cs [] (c:=⟨fun r _=>r=.bool true⟩))
  {o:Type} {enc:aG × aE->o} {W:aT} {u:Nat} {args:Array aE} {p:List (DataW o)} {ps:List MemPlace} (C:∀ g,de W (fun _=>True) (G g) (.pointer (some ⟨g,0,none⟩)))
  (J:∀ (j:Nat) t v,ts[j]?=some t->args[j]?=some v->Value.okWide P W .any u t v) (h:DataW.TrodAll enc P W 0 (fun _=>true) true ts args.toList p ps) :
  Calls P f args W fun e w'=>e=.returned (.bool true)/\Below W.heap.size W w'/\DataW.TrodAll enc P w' 0 (fun b=>decide (b<W.heap.size)) true ts args.toList p ps:=by obtain⟨cs,R,H,S⟩:=Gi (A:=fun _=>True) (fun _=>trivial) K (fun j t v Q m=>J j t v Q (by simpa using m)) h;exact (SI I w (T cs R) C (by rw[H];simp) (fun j c v z m=>S j c v z (by simpa using m))).mono fun e w' ⟨B,q⟩=>⟨B,q,Md F q O h⟩
end Go.bh
namespace Go.bh
open Go
section
variable (P:bp)
end
def Gj (x:U) :Option Int:=match x with
 | .int k i=>match k with | .i64=>some i | _=>none
 | _=>none
def iu (z:Nat) (cs vs:ag) (i len:Nat) :ag:=cs.take (i*z)++vs++(cs.drop (i*z)).take ((len - i)*z)++cs.drop ((len+1)*z)
def Iv (z by_:Nat) (h:aM) (s:U) (i:Nat) (bv:Nat) (vs:ag) :Option (U × aM):=match s with
 | .ad=>if i=0/\by_<=dj then some (.Z z h.n 0 1 1 z,h.push (.cells z vs)) else none
 | .Z o b j len cap m=>match h.f b with
  | .cells g cs=>if g=cap*z/\m=cap*z/\o=z/\j=0/\bv≠b/\i<=len/\len<=cap/\(len+1)*by_<=dj then
    some (.Z z h.n 0 (len+1) (max cap (len+1)) (max cap (len+1)*z),(h.set b .dead).push (.cells (max cap (len+1)*z) (iu z cs vs i len))) else none
  | _=>none
 | _=>none
def tY (z by_:Nat) (args:ag) (h:aM) :Option (U × aM):=match args with
 | [s,x,y]=>match Gj x,y with
  | some i,.Z u g p m j q=>match h.f g with
   | .cells o t=>if u=z/\p=0/\m=1/\j=1/\q=z/\o=z/\0<=i then Iv z by_ h s i.toNat g t else none
   | _=>none
  | _,_=>none
 | _=>none
class FV (P:bp) (G:Nat->U) where
 get:cj->Option (Nat × Nat)
 ok:∀ f z by_,get f=some (z,by_)->∀ args h r h',tY z by_ args h=some (r,h')->jU P G f args h r h'
instance (priority:=10) j (P:bp) (G:Nat->U) :FV P G:=⟨fun _=>none,fun f m g h=>by cases h⟩
section
variable (P:bp) (G:Nat->U)
end
abbrev cY (t:Nat) :aY:=.tmp t
abbrev U.i6 (n:Int) :U:=.int .i64 n
abbrev aq.q (sz:Nat) (cs:ag) :aq:=.cells sz cs
def bZ (n:Nat) (c:U) :ag:=List.replicate n c
abbrev jm (i d x:Nat) :c9:=⟨i,some d,none,.fy (.dU (.tmp x)),[],false⟩
abbrev eB (i d:Nat) (m:dy) :c9:=⟨i,some d,none,.fy m,[],false⟩
abbrev xr (i:Nat) (m:dy) :c9:=⟨i,none,none,.fy m,[],false⟩
abbrev sc (i d:Nat) (f:cj) (args:List aY) :c9:=⟨i,some d,none,.lg f args,[],false⟩
abbrev uP (i d j:Nat) (w:Bool) (m:dy) :c9:=⟨i,some d,some (some j,w),.fy m,[],false⟩
@[simp] theorem ac2 (n:Nat) (c:U) :(bZ n c).length=n:=by simp[bZ]
def u {w:Nat} (a:BitVec w) :Int:=(a.toNat:Int)
@[simp] theorem q4 {w:Nat} (a:BitVec w) :BitVec.ofInt w (u a)=a:=by unfold u;rw[oa,Fk,BitVec.setWidth_eq]
@[simp] theorem hZ {w:Nat} (a b:BitVec w) :(u a=u b)<->a=b:=⟨fun h=>eZ (by unfold u at h;exact Int.ofNat_inj.1 h),fun h=>by rw[h]⟩
@[simp] theorem adB {w:Nat} (a b:BitVec w) :(u a<u b)<->a<b:=by unfold u;rw[Int.ofNat_lt];rfl
@[simp] theorem adA {w:Nat} (a b:BitVec w) :(u a<=u b)<->a<=b:=by unfold u;rw[Int.ofNat_le];rfl
@[simp] theorem adC {w:Nat} (a:BitVec w) :0<=u a:=Be _
@[simp] theorem adD {w:Nat} (a:BitVec w) :(u a).toNat=a.toNat:=fo _
@[simp] theorem acM {w:Nat} (a b:Int) :BitVec.ofInt w (a - b)=BitVec.ofInt w a - BitVec.ofInt w b:=by rw[Int.sub_eq_add_neg,BitVec.ofInt_add,BitVec.ofInt_neg,BitVec.sub_eq_add_neg]
attribute [simp] BitVec.ofInt_add BitVec.ofInt_mul
theorem uv {w:Nat} (v:Nat) (a:BitVec w) :BitVec.ofInt v (u a)=a.setWidth v:=by unfold u;rw[oa,Fk]
section
abbrev a7 (a:BitVec 8) :U:=.int .u8 (u a)
@[simp] theorem Zr (n:Int) :IntKind.u8.wrap n=u (BitVec.ofInt 8 n):=by
 have g:(2 ^ IntKind.u8.bits:Int)=256:=by decide
 have h:IntKind.u8.signed=false:=rfl;simp only[IntKind.wrap,g,h,rD,jq,if_false,u,Ba];have:(2 ^ 8:Nat)=256:=by decide
 rw[this];omega
theorem ZX (a:BitVec 8) (k' : cU) (n:Nat) :cz .shl .u8 (u a) k' (n:Int)=some (.int .u8 (u (a <<< n))):=by
 have g:¬((n:Int)<0):=F;show (if (n:Int)<0 then none else some (U.int .u8 (IntKind.u8.wrap ((a.toNat:Int)*2 ^ min (n:Int).toNat 8))))=_;rw[ai g];congr 2;rw[Zr,fo];unfold u;congr 1;have:((a.toNat:Int)*2 ^ min n 8)=((a.toNat*2 ^ min n 8:Nat) :Int):=by rw[Int.natCast_mul,vf];rfl
 rw[this,oa,fP,s7,oj];rcases fF n 8 with h | h
 ·rw[i5 (ks h)]
 ·rw[vl h];have h1:a.toNat*2 ^ 8 % 2 ^ 8=0:=FL _ _;obtain⟨j,rfl⟩:=FJ h;rw[h1,rL,FK,FM]
theorem Z0 (a:BitVec 8) (k' : cU) (n:Nat) :cz .shr .u8 (u a) k' (n:Int)=some (.int .u8 (u (a >>> n))):=by
 have g:¬((n:Int)<0):=F;show (if (n:Int)<0 then none else some (U.int .u8 ((a.toNat:Int).fdiv (2 ^ min (n:Int).toNat 8))))=_;rw[ai g];congr 2;rw[fo];unfold u;have:((2:Int) ^ min n 8)=((2 ^ min n 8:Nat) :Int):=by rw[vf];rfl
 rw[this,Bd _ (Be _),<-Fr,lG,hG];congr 1;rcases fF n 8 with h | h
 ·rw[i5 (ks h)]
 ·rw[vl h,qq a.isLt,qq (nn a.isLt (FN F h))]
end
section
abbrev yK (a:BitVec 16) :U:=.int .u16 (u a)
end
section
abbrev bg (a:BitVec 32) :U:=.int .u32 (u a)
@[simp] theorem u5 (n:Int) :IntKind.u32.wrap n=u (BitVec.ofInt 32 n):=by
 have g:(2 ^ IntKind.u32.bits:Int)=4294967296:=by decide
 have h:IntKind.u32.signed=false:=rfl;simp only[IntKind.wrap,g,h,rD,jq,if_false,u,Ba];have:(2 ^ 32:Nat)=4294967296:=by decide
 rw[this];omega
@[simp] theorem adH (a:Int) :rs .xor (.int .u32 a)=some (.int .u32 (u (~~~(BitVec.ofInt 32 a)))):=by
 show some (U.int .u32 (IntKind.u32.wrap (u (BitVec.ofInt 32 (4294967295:Int) ^^^ BitVec.ofInt 32 a))))=_;rw[u5,q4];have:BitVec.ofInt 32 (4294967295:Int)=BitVec.allOnes 32:=by decide
 rw[this,BitVec.allOnes_xor]
theorem O0 (a:BitVec 32) (k' : cU) (n:Nat) :cz .shl .u32 (u a) k' (n:Int)=some (.int .u32 (u (a <<< n))):=by
 have g:¬((n:Int)<0):=F;show (if (n:Int)<0 then none else some (U.int .u32 (IntKind.u32.wrap ((a.toNat:Int)*2 ^ min (n:Int).toNat 32))))=_;rw[ai g];congr 2;rw[u5,fo];unfold u;congr 1;have:((a.toNat:Int)*2 ^ min n 32)=((a.toNat*2 ^ min n 32:Nat) :Int):=by rw[Int.natCast_mul,vf];rfl
 rw[this,oa,fP,s7,oj];rcases fF n 32 with h | h
 ·rw[i5 (ks h)]
 ·rw[vl h];have h1:a.toNat*2 ^ 32 % 2 ^ 32=0:=FL _ _;obtain⟨j,rfl⟩:=FJ h;rw[h1,rL,FK,FM]
theorem O1 (a:BitVec 32) (k' : cU) (n:Nat) :cz .shr .u32 (u a) k' (n:Int)=some (.int .u32 (u (a >>> n))):=by
 have g:¬((n:Int)<0):=F;show (if (n:Int)<0 then none else some (U.int .u32 ((a.toNat:Int).fdiv (2 ^ min (n:Int).toNat 32))))=_;rw[ai g];congr 2;rw[fo];unfold u;have:((2:Int) ^ min n 32)=((2 ^ min n 32:Nat) :Int):=by rw[vf];rfl
 rw[this,Bd _ (Be _),<-Fr,lG,hG];congr 1;rcases fF n 32 with h | h
 ·rw[i5 (ks h)]
 ·rw[vl h,qq a.isLt,qq (nn a.isLt (FN F h))]
@[simp] theorem ZV (a:BitVec 32) (k' : cU) (n:Int) (h:0<=n) :cz .shl .u32 (u a) k' n=some (.int .u32 (u (a <<< n.toNat))):=by obtain⟨g,rfl⟩:=nh h;exact O0 a k' g
@[simp] theorem ZY (a:BitVec 32) (k' : cU) (n:Int) (h:0<=n) :cz .shr .u32 (u a) k' n=some (.int .u32 (u (a >>> n.toNat))):=by obtain⟨g,rfl⟩:=nh h;exact O1 a k' g
@[simp] theorem OZ (a b:BitVec 32) (h:b≠0#32) :cz .rem .u32 (u a) .u32 (u b)=some (.int .u32 (u (a % b))):=by
 have g:(b.toNat:Int)≠0:=fun e=>h (eZ (by simpa using e))
 show (if IntKind.u32=IntKind.u32/\(b.toNat:Int)≠0 then some (U.int .u32 ((a.toNat:Int).tmod b.toNat)) else none)=_;rw[ak ⟨rfl,g⟩];unfold u;rw[ng];rfl
@[simp] theorem Z2 (a b:Int) :cz .xor .u32 a .u32 b=some (.int .u32 (u (BitVec.ofInt 32 a ^^^ BitVec.ofInt 32 b))):=by show some (U.int .u32 (IntKind.u32.wrap (u (BitVec.ofInt 32 a ^^^ BitVec.ofInt 32 b))))=_;rw[u5,q4]
@[simp] theorem ZT (a b:Int) :cz .or .u32 a .u32 b=some (.int .u32 (u (BitVec.ofInt 32 a ||| BitVec.ofInt 32 b))):=by show some (U.int .u32 (IntKind.u32.wrap (u (BitVec.ofInt 32 a ||| BitVec.ofInt 32 b))))=_;rw[u5,q4]
@[simp] theorem ZG (a b:Int) :cz .and .u32 a .u32 b=some (.int .u32 (u (BitVec.ofInt 32 a &&& BitVec.ofInt 32 b))):=by show some (U.int .u32 (IntKind.u32.wrap (u (BitVec.ofInt 32 a &&& BitVec.ofInt 32 b))))=_;rw[u5,q4]
end
section
abbrev c6 (a:BitVec 64) :U:=.int .u64 (u a)
@[simp] theorem u6 (n:Int) :IntKind.u64.wrap n=u (BitVec.ofInt 64 n):=by
 have g:(2 ^ IntKind.u64.bits:Int)=18446744073709551616:=by decide
 have h:IntKind.u64.signed=false:=rfl;simp only[IntKind.wrap,g,h,rD,jq,if_false,u,Ba];have:(2 ^ 64:Nat)=18446744073709551616:=by decide
 rw[this];omega
theorem GF (a:BitVec 64) (k' : cU) (n:Nat) :cz .shl .u64 (u a) k' (n:Int)=some (.int .u64 (u (a <<< n))):=by
 have g:¬((n:Int)<0):=F;show (if (n:Int)<0 then none else some (U.int .u64 (IntKind.u64.wrap ((a.toNat:Int)*2 ^ min (n:Int).toNat 64))))=_;rw[ai g];congr 2;rw[u6,fo];unfold u;congr 1;have:((a.toNat:Int)*2 ^ min n 64)=((a.toNat*2 ^ min n 64:Nat) :Int):=by rw[Int.natCast_mul,vf];rfl
 rw[this,oa,fP,s7,oj];rcases fF n 64 with h | h
 ·rw[i5 (ks h)]
 ·rw[vl h];have h1:a.toNat*2 ^ 64 % 2 ^ 64=0:=FL _ _;obtain⟨j,rfl⟩:=FJ h;rw[h1,rL,FK,FM]
theorem qG (a:BitVec 64) (k' : cU) (n:Nat) :cz .shr .u64 (u a) k' (n:Int)=some (.int .u64 (u (a >>> n))):=by
 have g:¬((n:Int)<0):=F;show (if (n:Int)<0 then none else some (U.int .u64 ((a.toNat:Int).fdiv (2 ^ min (n:Int).toNat 64))))=_;rw[ai g];congr 2;rw[fo];unfold u;have:((2:Int) ^ min n 64)=((2 ^ min n 64:Nat) :Int):=by rw[vf];rfl
 rw[this,Bd _ (Be _),<-Fr,lG,hG];congr 1;rcases fF n 64 with h | h
 ·rw[i5 (ks h)]
 ·rw[vl h,qq a.isLt,qq (nn a.isLt (FN F h))]
@[simp] theorem ZW (a:BitVec 64) (k' : cU) (n:Int) (h:0<=n) :cz .shl .u64 (u a) k' n=some (.int .u64 (u (a <<< n.toNat))):=by obtain⟨g,rfl⟩:=nh h;exact GF a k' g
@[simp] theorem ZZ (a:BitVec 64) (k' : cU) (n:Int) (h:0<=n) :cz .shr .u64 (u a) k' n=some (.int .u64 (u (a >>> n.toNat))):=by obtain⟨g,rfl⟩:=nh h;exact qG a k' g
@[simp] theorem tz (a b:BitVec 64) (h:b≠0#64) :cz .rem .u64 (u a) .u64 (u b)=some (.int .u64 (u (a % b))):=by
 have g:(b.toNat:Int)≠0:=fun e=>h (eZ (by simpa using e))
 show (if IntKind.u64=IntKind.u64/\(b.toNat:Int)≠0 then some (U.int .u64 ((a.toNat:Int).tmod b.toNat)) else none)=_;rw[ak ⟨rfl,g⟩];unfold u;rw[ng];rfl
@[simp] theorem Z3 (a b:Int) :cz .xor .u64 a .u64 b=some (.int .u64 (u (BitVec.ofInt 64 a ^^^ BitVec.ofInt 64 b))):=by show some (U.int .u64 (IntKind.u64.wrap (u (BitVec.ofInt 64 a ^^^ BitVec.ofInt 64 b))))=_;rw[u6,q4]
@[simp] theorem ZU (a b:Int) :cz .or .u64 a .u64 b=some (.int .u64 (u (BitVec.ofInt 64 a ||| BitVec.ofInt 64 b))):=by show some (U.int .u64 (IntKind.u64.wrap (u (BitVec.ofInt 64 a ||| BitVec.ofInt 64 b))))=_;rw[u6,q4]
@[simp] theorem Gq (a b:Int) :cz .and .u64 a .u64 b=some (.int .u64 (u (BitVec.ofInt 64 a &&& BitVec.ofInt 64 b))):=by show some (U.int .u64 (IntKind.u64.wrap (u (BitVec.ofInt 64 a &&& BitVec.ofInt 64 b))))=_;rw[u6,q4]
end
@[simp] theorem aao (a:BitVec 8) :BitVec.ofInt 32 (u a)=a.setWidth 32:=uv 32 a
@[simp] theorem aap (a:BitVec 8) :BitVec.ofInt 64 (u a)=a.setWidth 64:=uv 64 a
@[simp] theorem aal (a:BitVec 32) :BitVec.ofInt 8 (u a)=a.setWidth 8:=uv 8 a
@[simp] theorem aak (a:BitVec 32) :BitVec.ofInt 64 (u a)=a.setWidth 64:=uv 64 a
@[simp] theorem aan (a:BitVec 64) :BitVec.ofInt 8 (u a)=a.setWidth 8:=uv 8 a
@[simp] theorem aam (a:BitVec 64) :BitVec.ofInt 32 (u a)=a.setWidth 32:=uv 32 a
@[simp] theorem adE {w:Nat}:u (0#w)=0:=by simp[u]
theorem BV (k:Nat) (c:Int) (j:0<c) (hk:k<9223372036854775808) :cz .quo .i64 (k:Int) .i64 c=some (.int .i64 ((k / c.toNat:Nat) :Int)):=by obtain⟨g,rfl⟩:=nh (Int.le_of_lt j);have m:(g:Int)≠0:=F;show (if IntKind.i64=IntKind.i64/\(g:Int)≠0 then some (U.int .i64 (IntKind.i64.wrap ((k:Int).tdiv g))) else none)=_;rw[ak ⟨rfl,m⟩,fo];have:((k:Int).tdiv g)=((k / g:Nat) :Int):=rfl;have h:=FH k g;rw[this];generalize k / g=q at h;rw[wrap_i64 F F]
theorem tx (k:Nat) (c:Int) (h:0<c) :cz .rem .i64 (k:Int) .i64 c=some (.int .i64 ((k % c.toNat:Nat) :Int)):=by obtain⟨g,rfl⟩:=nh (Int.le_of_lt h);have j:(g:Int)≠0:=F;show (if IntKind.i64=IntKind.i64/\(g:Int)≠0 then some (U.int .i64 ((k:Int).tmod g)) else none)=_;rw[ak ⟨rfl,j⟩,fo];rfl
theorem KQ (k:cU) (w n:Nat) :bZ n (.int k 0)=(List.replicate n (0#w)).map fun x=>.int k (u x):=by simp[bZ]
theorem ml {alZ:Type} (f:alZ->U) (l:List alZ) (i:Nat) (x:alZ) (h:i<l.length) :av (l.map f) i [f x]=(l.set i x).map f:=by unfold av;rw[rI,ak h];simp
theorem mj {cs vs:ag} (h:vs.length=cs.length) :av cs 0 vs=vs:=by unfold av;rw[hI,nk,h2,h,List.drop_length,eJ]
theorem aP {l:ae} {c c' : U} (h:c=c') (g:c'.ar=true) :Rd l c c':=by subst h;exact .same _ g
theorem aF {l:ae} {c c' : U} (h:c=c':=by exact rfl) (g:c'.ar=true:=by exact rfl) :Rd l c c':=aP h g
theorem al {alZ:Sort _} (a:alZ) :∃ x,x=a:=⟨a,rfl⟩
theorem ci {k:Nat} (h:k<4611686018427387904) :IntKind.i64.wrap ((k:Int)+1)=((k+1:Nat) :Int):=by rw[IntKind.wrap_i64];omega
theorem tR {alZ:Type} {z:Nat}:∀ (es:List (List alZ)),(∀ e∈es,e.length=z)->∀ (i j:Nat) (e:List alZ) (c:alZ),es[i]?=some e->e[j]?=some c->es.flatten[i*z+j]?=some c:=by
 intro es o
 induction es with
 | nil=>intro i j e c g;simp at g
 | cons x es p=>
  intro i j e c g h;have m:x.length=z:=o x V;cases i with
  | zero=>
   simp only[hl,bc] at g;subst g;rw[hj,ti,hI,aV (aL.1 h).1];exact h
  | succ i=>
   simp only[js] at g;rw[hj,eu (by rw[m,ej];omega),m,show (i+1)*z+j - z=i*z+j by rw[ej];omega];exact p (fun e g=>o e (by simp[g])) i j e c g h
inductive pu (l:ae) :ag->ag->Prop
 | nil:pu l [] []
 | cons {c g cs h}:fp (aZ l) c g->pu l cs h->pu l (c::cs) (g::h)
theorem pu.len {l:ae}:∀ {a b:ag},pu l a b->b.length=a.length
 | _,_,.nil=>rfl
 | _,_,.cons _ h=>by simp[h.len]
theorem pu.get {l:ae}:∀ {a b:ag},pu l a b->∀ (j:Nat) (c c' : U),a[j]?=some c->b[j]?=some c'->fp (aZ l) c c'
 | _,_,.nil,j,c,c',h,_=>by simp at h
 | _,_,.cons h1 g,j,c,c',h,h'=>by
  cases j with
  | zero=>simp at h h';subst h h';exact h1
  | succ j=>exact g.get j c c' (by simpa using h) (by simpa using h')
theorem ig {P:bp} {G:Nat->U} {f:cj} {args g:ag} {r:U} {l:ae} {K:U->ae->Prop} (o:i8 P G f g r) (j:pu l args g) (m:r.flat=true) (h:K r l) :fR P G f args l (c:=⟨K⟩):=
 ⟨r,l,.Kc o j.len j.get m,aN _,h⟩
theorem Ke {P:bp} {G:Nat->U} {f:cj} {args g:ag} {r:U} {l:ae} {K:U->ae->Prop} (m:nt P G f g r) (j:pu l args g) (h:K r l) :fR P G f args l (c:=⟨K⟩):=
 ⟨r,l,.Kd m j.len j.get,aN _,h⟩
inductive ju (l:ae) :U->U->Prop
 | flat (c:U) (h:c.flat=true) :ju l c c
 | af (cs o:ag) (u:o.length=cs.length) (h:∀ (m:Nat) (c j:U),cs[m]?=some c->o[m]?=some j->ju l c j) :ju l (.af cs) (.af o)
 | aX (cs o:ag) (u:o.length=cs.length) (h:∀ (m:Nat) (c j:U),cs[m]?=some c->o[m]?=some j->ju l c j) :ju l (.aX cs) (.aX o)
 | Z (g b p len cap t:Nat) (cs:ag) (q:List (ag)) (v:l[b]?=some (.cells t cs)) (u:q.length=len) (z:∀ e∈q,e.length=g)
   (w:p+len*g<=cs.length)
   (h:∀ (i m:Nat) (e:ag) (c j:U),q[i]?=some e->e[m]?=some j->cs[p+(i*g+m)]?=some c->ju l c j) :ju l (.Z g b p len cap t) (.bu g q)
 | sN (g b p cap t:Nat) :ju l (.Z g b p 0 cap t) (.bu g [])
 | eH (g:Nat) :ju l (.bu g []) (.bu g [])
theorem Wm {w:aT} {R:Nat->Prop} {B:Nat} {l:ae} {muZ:b3} (rel:bF R B w (aZ l) muZ) :∀ {c c' : U},ju l c c'->∀ {v:aE},aB w R (aZ l) muZ c v->de w (fun k=>B<=k) c' v:=by
 intro c c' au
 induction au with
 | flat c h=>intro v j;exact HS j h
 | af cs Q q h K=>
  intro v j;cases j with
  | af _ W aq h1 j=>
   refine .af Q W F h1 (fun g c' v o V=>?_);have t:g<cs.length:=by rw[<-q];exact (aL.1 o).1
   exact K g cs[g] c' (bM t) o (j g cs[g] v (bM t) V)
 | aX cs Q q h K=>
  intro v j;cases j with
  | aX _ W aq j=>
   refine .aX Q W F (fun g c' v o V=>?_);have t:g<cs.length:=by rw[<-q];exact (aL.1 o).1
   exact K g cs[g] c' (bM t) o (j g cs[g] v (bM t) V)
 | sN z b C cap aj=>
  intro v j;cases j with
  | Z _ _ _ _ _ _ cap' cs m S P q ar O=>exact .eH z _ cap'
  | ff _ _ _ _ _ _ cap' a q O u=>exact .eH z _ cap'
  | gp _ _ _ _ a cs m S P=>exact .eH z a 0
 | eH z=>
  intro v j;generalize I:([] :List (ag))=D at j;generalize al:U.bu z D=aw at j;cases j<;>cases al
  ·subst I;exact .eH z _ _
  ·exact .eH z _ _
 | Z z b C len cap aj cs D S q ai aD h K=>
  intro v j;have H:(aZ l).f b=.cells aj cs:=hJ.2 S;cases j with
  | gp _ _ _ _ a X m T aG=>
   obtain rfl:=ho.1 q;exact .eH z a 0
  | ff _ _ _ _ _ _ cap' a q O u=>
   exfalso;rcases u with u | ⟨n,X,u,t⟩
   ·rw[H] at u;cases u
   ·rw[H] at u;cases u;omega
  | Z _ _ _ _ _ _ cap' X m T P aF ar O=>
   rw[H] at T;cases T;have hblk:=rel.blk b m P;rw[H] at hblk;obtain⟨aA,ay,arr,aH,ax,av,az,aC,ao⟩:=hblk;have am:len<=cap':=by rcases O with ⟨_,h⟩ | ⟨_,h,_⟩<;>omega
   have ak:B<=m.r:=rel.base b m (by rw[H];rfl) P;subst q;have ah:∀ i g,i<D.length->g<z->∃ c v,cs[C+(i*z+g)]?=some c/\arr[m.s+(C+(i*z+g))]?=some v/\v.oneCell'=true/\aB w R (aZ l) muZ c v:=by
    intro i g J o;have t:C+(i*z+g)<cs.length:=by
     have:i*z+z<=D.length*z:=by rw[<-ej];exact ck _ J
     omega
    obtain⟨v,h1,p,G⟩:=ao _ _ (bM t);exact⟨_,v,bM t,h1,p,G⟩
   refine .bu z D m.r (m.s+C) cap' (fun i g=>(arr[m.s+(C+(i*z+g))]?).getD undef) am ai (fun i g J o=>?_) (fun i e I g c' o=>?_)
   ·obtain⟨c,v,h1,p,G,Y⟩:=ah i g J o;refine⟨?_,?_,ak,fun ⟨b,m,h1,p,G⟩=>by cases p⟩
    ·simp only[World.cell?,av,p,g4,rM];rw[show m.s+C+(i*z+g)=m.s+(C+(i*z+g)) by omega,p];rfl
    ·rw[p];exact G
   ·have J:i<D.length:=(aL.1 I).1;have ap:g<z:=by rw[<-ai e (cJ I)];exact (aL.1 o).1
    obtain⟨c,v,h1,p,G,Y⟩:=ah i g J ap;simp only[p,g4];exact K i g e c c' I o h1 Y
theorem xa {P:bp} {G:Nat->U} (u:P.follows .mixedOrders=true) (o:∀ g,(G g).ar=true) {f:cj} {args:ag} {r:U} (h:fR P G f args [] (c:=⟨fun j l=>ju l j r⟩)) :nt P G f args r:=by obtain⟨j,D,h1,C,m⟩:=h;intro w A F q t z;refine (EW (A:=A) u o h1 q t z).mono ?_;rintro e w' ⟨B,muZ',rfl,p,rel,v⟩;exact⟨B,rfl,p,Wm rel m v⟩
theorem KF {l:ae} {z b n cap sz:Nat} {es:List (ag)} {rest:ag} (t:l[b]?=some (.cells sz (es.flatten++rest))) (q:es.length=n) (j:∀ e∈es,e.length=z) (u:∀ e∈es,kH e=true) :ju l (.Z z b 0 n cap sz) (.bu z es):=by
 have p:=hv (z:=z) (es:=es) (fun e g=>j e g);refine .Z z b 0 n cap sz _ es t q j (by rw[cI,p,q];omega) (fun i h e c c' g m o=>?_);have v:i<es.length:=(aL.1 g).1;have B:h<z:=by rw[<-j e (cJ g)];exact (aL.1 m).1
 have w:i*z+h<es.flatten.length:=by
  rw[p];have:i*z+z<=es.length*z:=by rw[<-ej];exact ck _ v
  omega
 have h1:es.flatten[i*z+h]?=some c':=tR es j i h e c' g m;rw[hI,aV w,h1] at o;cases o;exact .flat _ (yV (u e (cJ g)) h _ m)
theorem KC {l:ae} {c:U} (h:c.ar=true) :fp (aZ l) c c:=.same c h
@[simp] theorem aa7 (n z:Nat) (cs:ag) (k:cU) (i:Int) :zb n z (.af cs) (.int k i)=if 0<=i/\i<n then cs[i.toNat*z]? else none:=id rfl
@[simp] theorem ub (s:List UInt8) (k:cU) (i:Int) :tZ (.str s) (.int k i)=if 0<=i then (s[i.toNat]?).map hr else none:=id rfl
theorem Xg {alZ:Type} {l:List alZ} {i:Nat} {x:alZ} (h:l[i]?=some x) :l.set i x=l:=by obtain⟨g,rfl⟩:=aL.1 h;exact Bo g
theorem jy {alZ:Type} (f:alZ->U) (g:∀ x,(f x).ar=true) :∀ l:List alZ,am (l.map f)=true
 | []=>rfl
 | x::l=>by simp only[dg,am,g,jy f g l,k5]
theorem G4 {alZ:Type} (f:alZ->U) (g:∀ x,(f x).ar=true) (l:List alZ) :(U.af (l.map f)).ar=true:=by simp only[U.ar];exact jy f g l
theorem tQ {alZ:Type} (f:alZ->U) (g:∀ x,(f x).flat=true) :∀ l:List alZ,kH (l.map f)=true
 | []=>rfl
 | x::l=>by simp only[dg,kH,g,tQ f g l,k5]
theorem HR {alZ:Type} (f:alZ->U) (g:∀ x,(f x).flat=true) (l:List alZ) :(U.af (l.map f)).flat=true:=by simp only[U.flat];exact tQ f g l
@[simp] theorem Z4 (z:Nat) :rY (.Z z) .ad=some (.int .i64 0):=id rfl
@[simp] theorem adr (z:Nat) (k:cU) :dw (.Z z) .ad none (some (.int k 0)) none=some .ad:=id rfl
theorem rk (z b off len cap sz:Nat) (h g j:Option U) :dw (.Z z) (.Z z b off len cap sz) h g j=(e2 len cap h g j).map fun (l,o,m)=>if m=l then .Z z b (off+l*z) 0 0 sz else .Z z b (off+l*z) (o - l) (m - l) sz:=by simp[dw]
theorem zH {alZ:Type} {l:List alZ} {a:alZ} (h:l[0]?=some a) :∃ r,l=a::r:=by
 cases l with
 | nil=>simp at h
 | cons x l=>simp at h;subst h;exact⟨l,rfl⟩
theorem Yo {alZ:Type} {l:List alZ} {b:alZ} (h:l[1]?=some b) :∃ a r,l=a::b::r:=by
 cases l with
 | nil=>simp at h
 | cons x l=>obtain⟨r,rfl⟩:=zH (l:=l) (by simpa using h);exact⟨x,r,rfl⟩
theorem uF (zero:ag) (n:Nat) :(cQ zero n).length=n*zero.length:=by
 induction n with
 | zero=>simp[cQ]
 | succ n g=>simp[cQ,g,ej,rJ]
theorem xl (zero:ag) (n:Nat) :cQ zero n=(List.replicate n zero).flatten:=by
 induction n with
 | zero=>rfl
 | succ n g=>rw[cQ,g,kr,hj]
inductive aH (z:Nat) (l:ae) :U->Nat->List (ag)->Prop
 | nil (g:Nat) :aH z l .ad g []
 | Z (g n cap j:Nat) (cs:ag) (h:List (ag)) (m:l[g]?=some (.cells j cs)) (t:cs.length=j) (u:h.length=n) (v:∀ e∈h,e.length=z) (o:n<=cap) (p:cap*z<=j)
   (q:cs.take (n*z)=h.flatten) :aH z l (.Z z g 0 n cap j) g h
def bq:U->Bool | .ad=>true | _=>false
theorem gk {v:U}:bq v=true<->v=.ad:=by cases v<;>simp[bq]
theorem qT {alZ:Type} {v g:U} {xs:List alZ} (h:g=.ad<->v=.ad/\xs=[]) :bq g=(bq v&&xs.isEmpty):=by rw[xR,gk,h,bU,gk,xX]
def p5 (z:Nat) (v:U) (es:List (ag)) :U:=match bq v with | true=>.ad | false=>.bu z es
section
variable {z:Nat} {l l' : ae} {v:U} {j:Nat} {es:List (ag)}
theorem aH.lt (h:aH z l v j es) :v=.ad\/j<l.length:=by
 cases h with
 | nil j=>exact .inl rfl
 | Z j n cap m cs es g=>exact .inr (a1 g)
theorem aH.row (h:aH z l v j es) :∀ e∈es,e.length=z:=by
 cases h with
 | nil j=>intro e g;cases g
 | Z j n cap t cs es o p q m=>exact m
theorem aH.cells (h:aH z l v j es) :v.cells=some [v]:=by cases h<;>rfl
theorem aH.len (h:aH z l v j es) :bD (.Z z) v=some (.int .i64 es.length):=by
 cases h with
 | nil j=>rfl
 | Z j n cap p cs es m o g=>subst g;rfl
theorem aH.frame (h:aH z l v j es) (q:j<l.length->l'[j]?=l[j]?) :aH z l' v j es:=by
 cases h with
 | nil j=>exact .nil j
 | Z j n cap B cs es g t u w m o p=>exact .Z j n cap B cs es (by rw[q (a1 g)];exact g) t u w m o p
theorem aH.cx (h:aH z l v j es) (g:v=.ad\/l'[j]?=l[j]?) :aH z l' v j es:=by
 cases h with
 | nil j=>exact .nil j
 | Z j n cap B cs es m t u w o p q=>
  rcases g with g | g
  ·cases g
  ·exact .Z j n cap B cs es (by rw[g];exact m) t u w o p q
theorem aH.more (h:aH z l v j es) (x:ae) :aH z (l++x) v j es:=h.frame fun g=>aV g
theorem aH.contents (h:aH z l v j es) :cq l z v=some (es.flatten,es.length):=by
 cases h with
 | nil j=>rfl
 | Z j n cap w cs es g t o u p q m=>subst o;simp only[cq,g,and_self,if_true,lI,m]
theorem aH.KE (h:aH z l v j es) (o:∀ e∈es,kH e=true) :ju l v (p5 z v es):=by
 cases h with
 | nil j=>exact .flat _ rfl
 | Z j n cap B cs es g w p q t u m=>
  show ju l _ (.bu z es);refine KF (rest:=cs.drop (n*z)) ?_ p q o;rw[g,<-m,i3]
theorem aH.o3 (h:aH z l v j es) (B:∀ e∈es,am e=true) :fp (aZ l) v (p5 z v es):=by
 cases h with
 | nil j=>exact .same _ rfl
 | Z j n cap H cs es q D p m t u w=>
  show fp (aZ l) _ (.bu z es);have J:n*z<=cs.length:=by rw[D];exact dC (ck _ t) u
  refine .Z z j 0 n cap H cs es (hJ.2 q) p m F (fun i k e c c' g hk o=>?_);have C:i<es.length:=(aL.1 g).1;have I:k<z:=by rw[<-m e (cJ g)];exact (aL.1 hk).1
  have G:i*z+k<n*z:=by
   have:i*z+z<=es.length*z:=by rw[<-ej];exact ck _ C
   rw[p] at this;omega
  have h1:es.flatten[i*z+k]?=some c':=tR es m i k e c' g hk;rw[<-w,dQ G] at h1;rw[hI,h1] at o;cases o;exact .same _ (r2 (B e (cJ g)) k _ hk)
theorem Ac {l:ae} {z b n cap sz:Nat} {es:List (ag)} {rest:ag} (t:l[b]?=some (.cells sz (es.flatten++rest))) (q:es.length=n) (h:∀ e∈es,e.length=z) (u:∀ e∈es,am e=true) :fp (aZ l) (.Z z b 0 n cap sz) (.bu z es):=by
 have p:=hv (z:=z) (es:=es) (fun e g=>h e g);refine .Z z b 0 n cap sz _ es (hJ.2 t) q h (by rw[cI,p,q];omega) (fun i j e c c' g m o=>?_);have v:i<es.length:=(aL.1 g).1;have B:j<z:=by rw[<-h e (cJ g)];exact (aL.1 m).1
 have w:i*z+j<es.flatten.length:=by
  rw[p];have:i*z+z<=es.length*z:=by rw[<-ej];exact ck _ v
  omega
 have h1:es.flatten[i*z+j]?=some c':=tR es h i j e c' g m;rw[hI,aV w,h1] at o;cases o;exact .same _ (r2 (u e (cJ g)) j _ m)
theorem Gd (h:aH z l v j es) {by_ m:Nat} {xs:List (ag)} (t:xs.length=m) (Q:∀ e∈xs,e.length=z) (ah:z≠0) (aj:by_≠0) (P:(es.length+m)*by_<=dj) :
  ∃ J I l',hq l z by_ v xs.flatten m=some (J,l')/\aH z l' J I (es++xs)/\l.length<=l'.length/\(∀ b,b<l.length->b≠j->l'[b]?=l[b]?)/\(I=j\/l.length<=I)/\(J=.ad<->v=.ad/\xs=[]):=by
 by_cases u:m=0
 ·have H:xs=[]:=ho.1 F;subst H;refine⟨v,j,l,?_,by simpa using h,aN _,fun _ _ _=>rfl,.inl rfl,V⟩;unfold hq;rw[ak u];cases h<;>rfl
 have g:xs.flatten.length=m*z:=by rw[hv Q,t]
 have w:∀ e∈es++xs,e.length=z:=fun e U=>by
  rcases fE.1 U with h1 | h1
  ·exact h.row e h1
  ·exact Q e h1
 have Y:xs≠[]:=fun H=>u (by rw[<-t,H];rfl)
 cases h with
 | nil j=>
  refine⟨.Z z l.length 0 m m (m*z),l.length,l++[.cells (m*z) xs.flatten],?_,?_,V,fun b q _=>aV q,.inr (aN _),by simp[Y]⟩
  ·unfold hq;rw[ai u,ai F];simp only;rw[ak (by simpa using P)]
  ·refine .Z _ _ _ _ xs.flatten _ V g (by simpa using t) w (aN _) (aN _) ?_;rw[aI F];rfl
 | Z j n cap p cs es q al X ae S T K=>
  subst X;have am:es.length*z<=cap*z:=ck _ S;have G:(es++xs).length=es.length+m:=by simp[t]
  have D:(es++xs).flatten=es.flatten++xs.flatten:=V;have o:es.flatten.length=es.length*z:=hv ae;have R:hq l z by_ (.Z z j 0 es.length cap p) xs.flatten m =
    if es.length+m<=cap then some (.Z z j 0 (es.length+m) cap p,l.set j (.cells p (av cs (es.length*z) xs.flatten)))
    else if cap*z<p then some (.Z z l.length 0 (es.length+m) (es.length+m) ((es.length+m)*z),l++[.cells ((es.length+m)*z) (es.flatten++xs.flatten)])
    else some (.Z z j 0 (es.length+m) (es.length+m) ((es.length+m)*z),l.set j (.cells ((es.length+m)*z) (es.flatten++xs.flatten))):=by
   unfold hq;rw[ai u,ai F];simp only[q];rw[ak ⟨trivial,trivial,P⟩];simp only[hI,lI,K,if_true]
  rw[R];have O:=a1 q;split
  ·rename_i h1;have W:(es.length+m)*z<=cap*z:=ck _ h1;rw[eP] at W;refine⟨_,j,_,rfl,?_,V,fun b B C=>by rw[bj (fun e=>C e.symm)],.inl rfl,V⟩;refine .Z j _ cap p (av cs (es.length*z) xs.flatten) _ (by rw[bY O]) ?_ G w h1 T ?_
   ·rw[o9 F];omega
   ·rw[D];unfold av;rw[K,il (by simp[o,g,eP]),aI (by simp[o,g,eP])]
  ·split
   ·refine⟨_,l.length,_,rfl,?_,V,fun b B _=>aV B,.inr (aN _),V⟩;refine .Z _ _ _ _ (es.flatten++xs.flatten) _ V (by simp[o,g,eP]) G w (aN _) (aN _) ?_;rw[D,aI (by simp[o,g,eP])]
   ·refine⟨_,j,_,rfl,?_,V,fun b B C=>by rw[bj (fun e=>C e.symm)],.inl rfl,V⟩;refine .Z j _ _ _ (es.flatten++xs.flatten) _ (by rw[bY O]) (by simp[o,g,eP]) G w (aN _) (aN _) ?_;rw[D,aI (by simp[o,g,eP])]
theorem lS (h:aH z l v j es) {by_:Nat} {x:U} {xs:List (ag)} (t:cq l z x=some (xs.flatten,xs.length)) (u:∀ e∈xs,e.length=z) (o:z≠0) (p:by_≠0) (q:(es.length+xs.length)*by_<=dj) :
  ∃ m g l',dZ l z by_ v x=some (m,l')/\aH z l' m g (es++xs)/\l.length<=l'.length/\(∀ b,b<l.length->b≠j->l'[b]?=l[b]?)/\(g=j\/l.length<=g)/\(m=.ad<->v=.ad/\xs=[]):=by unfold dZ;rw[t];exact Gd h rfl u o p q
theorem Ox (h:aH z l v j es) {by_ n:Nat} {k:cU} {zero:ag} (B:zero.length=z) (q:z≠0) (u:by_≠0) (C:n<9223372036854775808) (p:(es.length+n)*by_<=dj) :
  ∃ o g l',ow l z by_ zero v (.int k (n:Int))=some (o,l')/\aH z l' o g (es++List.replicate n zero)/\l.length<=l'.length/\(∀ b,b<l.length->b≠j->l'[b]?=l[b]?)/\(g=j\/l.length<=g)/\(o=.ad<->v=.ad/\n=0):=by have:=Gd h (xs:=List.replicate n zero) (m:=n) V (fun e w=>by rw[(List.mem_replicate.1 w).2,B]) q u p;obtain⟨o,g,l',h1,t⟩:=this;refine⟨o,g,l',?_,by simpa [List.replicate_eq_nil_iff] using t⟩;unfold ow;simp only[fo];rw[ak ⟨F,F,by have:=dC (ck by_ (Nat.le_add_left n es.length)) p;exact this⟩,xl];exact h1
theorem OB {l:ae} {z by_ n:Nat} {v u:U} {xs:ag} {pre rest:ae} {l' : ae} (p:v=.ad\/∃ j n cap sz,v=.Z z j 0 n cap sz/\pre.length<=j) (h:hq (pre++rest) z by_ v xs n=some (u,l')) :
  ∃ WB,l'=pre++WB:=by
 unfold hq at h;by_cases o:n=0
 ·rw[ak o] at h;rcases p with rfl | ⟨j,t,cap,sz,rfl,g⟩<;>(cases h;exact⟨_,rfl⟩)
 rw[ai o] at h;by_cases m:z=0\/by_=0
 ·rw[ak m] at h;cases h
 rw[ai m] at h;rcases p with rfl | ⟨j,t,cap,sz,rfl,g⟩
 ·simp only at h;split at h
  ·cases h;exact⟨_,by rw[hi]⟩
  ·cases h
 ·simp only at h;split at h
  ·split at h
   ·split at h
    ·cases h;exact⟨_,by rw[pk _ _ g]⟩
    ·split at h
     ·cases h;exact⟨_,by rw[hi]⟩
     ·split at h
      ·cases h;exact⟨_,by rw[pk _ _ g]⟩
      ·rename_i q;exact bV trivial q
   ·cases h
  ·cases h
theorem rW {z by_:Nat} {v:U} {j:Nat} {es:List (ag)} {pre rest:ae} (h:aH z (pre++rest) v j es) (t:v=.ad\/pre.length<=j) {x:U} {xs:List (ag)} (C:cq (pre++rest) z x=some (xs.flatten,xs.length)) (O:∀ e∈xs,e.length=z) (F:z≠0) (H:by_≠0)
  (J:(es.length+xs.length)*by_<=dj) :
  ∃ m o p,dZ (pre++rest) z by_ v x=some (m,pre++p)/\aH z (pre++p) m o (es++xs)/\(m=.ad\/pre.length<=o)/\bq m=(bq v&&xs.isEmpty):=by
 have I:v=.ad\/∃ j n cap u,v=.Z z j 0 n cap u/\pre.length<=j:=by
  cases h with
  | nil j=>exact .inl rfl
  | Z j n cap u cs es=>exact .inr ⟨j,n,cap,u,rfl,t.resolve_left V⟩
 obtain⟨m,o,l',h1,q,P,Q,G,w⟩:=lS h C O F H J;have g:=h1;unfold dZ at g;rw[C] at g;obtain⟨p,rfl⟩:=OB (l:=[]) I g;refine⟨m,o,p,h1,q,?_,qT w⟩;rcases G with h | h
 ·rcases t with B | t
  ·by_cases D:xs=[]
   ·exact .inl (w.2 ⟨B,D⟩)
   ·right;subst B;have K:xs.length≠0:=fun e=>D (ho.1 e)
    simp only at g;unfold hq at g;rw[ai K] at g;split at g
    ·cases g
    ·simp only at g;split at g
     ·obtain⟨rfl,_⟩:=vp (cc g);generalize es++xs=E at q;cases q;simp
     ·cases g
  ·right;omega
 ·right;rw[cI] at h;omega
theorem aH.view (h:aH z l v j es) (F:bq v=false) :∃ n cap sz cs,v=.Z z j 0 n cap sz/\l[j]?=some (.cells sz cs)/\cs.length=sz/\es.length=n/\n*z<=sz/\(∀ i e,es[i]?=some e->∀ m,m<z->cs[i*z+m]?=e[m]?)/\cs.take (n*z)=es.flatten:=by
 cases h with
 | nil j=>simp[bq] at F
 | Z j n cap sz cs es q B p G t u g=>
  refine⟨n,cap,sz,cs,rfl,q,B,p,dC (ck _ t) u,fun i e o m D=>?_,g⟩;have w:i<es.length:=(aL.1 o).1;have C:i*z+m<n*z:=by
   have:i*z+z<=es.length*z:=by rw[<-ej];exact ck _ w
   rw[p] at this;omega
  have h1:=ln G o D;rw[<-h1,<-g,dQ C]
theorem aH.D3 {alZ:Type} {enc:alZ->ag} {xs:List alZ} (h:aH z l v j (xs.map enc)) (m:∀ x,kH (enc x)=true) (s:b1 alZ) (o:bq v=s.isNone) (p:s.l=xs) :ju l v (b4 z enc s):=by
 have h1:=h.KE (fun e g=>by obtain⟨x,_,rfl⟩:=cE.1 g;exact m x);subst p;unfold p5 at h1;rw[o] at h1;cases s with
 | none=>exact h1
 | some s=>exact h1
theorem aH.mZ {alZ:Type} {enc:alZ->ag} {xs:List alZ} (h:aH z l v j (xs.map enc)) (m:∀ x,am (enc x)=true) (s:b1 alZ) (o:bq v=s.isNone) (p:s.l=xs) :fp (aZ l) v (b4 z enc s):=by
 have h1:=h.o3 (fun e g=>by obtain⟨x,_,rfl⟩:=cE.1 g;exact m x);subst p;unfold p5 at h1;rw[o] at h1;cases s with
 | none=>exact h1
 | some s=>exact h1
end
inductive gR (z:Nat) (l:ae) :U->Nat->List (ag)->Prop
 | nil (g:Nat) :gR z l .ad g []
 | Z (g m n cap j:Nat) (cs:ag) (h:List (ag)) (o:l[g]?=some (.cells j cs)) (u:cs.length=j) (v:h.length=n) (w:∀ e∈h,e.length=z) (p:n<=cap) (q:m+cap*z<=j)
   (t:(cs.drop m).take (n*z)=h.flatten) :gR z l (.Z z g m n cap j) g h
section
variable {z:Nat} {l l' : ae} {v:U} {j:Nat} {es:List (ag)}
theorem aH.q (h:aH z l v j es) :gR z l v j es:=by
 cases h with
 | nil j=>exact .nil j
 | Z j n cap w cs es g p t u m B o=>exact .Z j 0 n cap w cs es g p t u m F (by simpa using o)
theorem gR.len (h:gR z l v j es) :bD (.Z z) v=some (.int .i64 es.length):=by
 cases h with
 | nil j=>rfl
 | Z j p n cap q cs es m o g=>subst g;rfl
theorem gR.oX (h:gR z l .ad j es) :es=[]:=by
 generalize g:U.ad=w at h;cases h with
 | nil j=>rfl
 | Z=>cases g
theorem gR.from (h:gR z l v j es) (I:bq v=false) {k:cU} {i:Nat} (O:i<=es.length) :∃ m,dw (.Z z) v (some (.int k (i:Int))) none none=some m/\gR z l m j (es.drop i)/\bq m=false:=by
 cases h with
 | nil j=>simp[bq] at I
 | Z j S n cap u cs es o q H t B K C=>
  subst H;have Q:i*z+(cap - i)*z=cap*z:=by rw[<-eP];congr 1;omega
  have R:i*z+(es.length - i)*z=es.length*z:=by rw[<-eP];congr 1;omega
  have P:es.length*z<=cap*z:=ck _ B;have J:∀ e∈es.drop i,e.length=z:=fun e g=>t e (vj g)
  have G:(es.drop i).flatten=(es.flatten).drop (i*z):=by
   have h1:es.flatten=(es.take i).flatten++(es.drop i).flatten:=by rw[<-jr,i3]
   have w:(es.take i).flatten.length=i*z:=by
    rw[hv (z:=z) (fun e g=>t e (gy g)),cL];congr 1;omega
   rw[h1,<-w,Ft]
  rw[rk,GC,ak ⟨F,F⟩];simp only[fo,cA,bc,exists_eq_left'];by_cases p:cap=i
  ·rw[ak p];have D:es.drop i=[]:=qn F;refine⟨?_,rfl⟩;rw[D];exact .Z j _ 0 0 u cs [] o q rfl V (aN _) F V
  ·rw[ai p];refine⟨.Z j _ _ _ u cs _ o q V J F F ?_,rfl⟩;rw[G,<-C,qo,xT];congr 1;omega
theorem gR.get (h:gR z l v j es) {k:cU} {i:Nat} {e:ag} (g:es[i]?=some e) :∃ p cs o,bQ (.Z z) v (.int k (i:Int))=some p/\fN l p=some (cs,o)/\o+z<=cs.length/\(cs.drop o).take z=e:=by
 cases h with
 | nil j=>simp at g
 | Z j t n cap H cs es u O D q w J B=>
  subst D;have C:=(aL.1 g).1;have h1:i*z+z<=es.length*z:=by rw[<-ej];exact ck _ C
  have I:es.length*z<=cap*z:=ck _ w;refine⟨.ptr j (t+i*z) H,cs,t+i*z,?_,?_,F,?_⟩
  ·simp only[bQ,fo];rw[ak ⟨trivial,F,F⟩]
  ·simp only[fN,u,if_true]
  ·have K:=q e (cJ g);apply g1;intro G;by_cases m:G<z
   ·rw[dQ m,gx,<-ln q g m,<-B,dQ F,gx];congr 1;omega
   ·rw[dW (by simp;omega),dW F]
theorem gR.KE (h:gR z l v j es) (B:∀ e∈es,kH e=true) :ju l v (p5 z v es):=by
 cases h with
 | nil j=>exact .flat _ rfl
 | Z j q n cap H cs es t D p m u I w=>
  show ju l _ (.bu z es);have K:q+n*z<=cs.length:=by rw[D];have:=ck z u;omega
  refine .Z z j q n cap H cs es t p m F (fun i k e c c' g hk o=>?_);have C:i<es.length:=(aL.1 g).1;have J:k<z:=by rw[<-m e (cJ g)];exact (aL.1 hk).1
  have G:i*z+k<n*z:=by
   have:i*z+z<=es.length*z:=by rw[<-ej];exact ck _ C
   rw[p] at this;omega
  have h1:es.flatten[i*z+k]?=some c':=tR es m i k e c' g hk;rw[<-w,dQ G,gx] at h1;rw[h1] at o;cases o;exact .flat _ (yV (B e (cJ g)) k _ hk)
theorem gR.o3 (h:gR z l v j es) (B:∀ e∈es,am e=true) :fp (aZ l) v (p5 z v es):=by
 cases h with
 | nil j=>exact .same _ rfl
 | Z j q n cap H cs es t D p m u I w=>
  show fp (aZ l) _ (.bu z es);have K:q+n*z<=cs.length:=by rw[D];have:=ck z u;omega
  refine .Z z j q n cap H cs es (hJ.2 t) p m F (fun i k e c c' g hk o=>?_);have C:i<es.length:=(aL.1 g).1;have J:k<z:=by rw[<-m e (cJ g)];exact (aL.1 hk).1
  have G:i*z+k<n*z:=by
   have:i*z+z<=es.length*z:=by rw[<-ej];exact ck _ C
   rw[p] at this;omega
  have h1:es.flatten[i*z+k]?=some c':=tR es m i k e c' g hk;rw[<-w,dQ G,gx] at h1;rw[h1] at o;cases o;exact .same _ (r2 (B e (cJ g)) k _ hk)
theorem gR.rd (h:gR z l v j es) (B:∀ e∈es,am e=true) :Rd l v (p5 z v es):=by
 cases h with
 | nil j=>exact .same _ rfl
 | Z j q n cap H cs es t D p m u I w=>
  show Rd l _ (.bu z es);have K:q+n*z<=cs.length:=by rw[D];have:=ck z u;omega
  refine .Z z j q n cap H cs es t p m F (fun i k e c c' g hk o=>?_);have C:i<es.length:=(aL.1 g).1;have J:k<z:=by rw[<-m e (cJ g)];exact (aL.1 hk).1
  have G:i*z+k<n*z:=by
   have:i*z+z<=es.length*z:=by rw[<-ej];exact ck _ C
   rw[p] at this;omega
  have h1:es.flatten[i*z+k]?=some c':=tR es m i k e c' g hk;rw[<-w,dQ G,gx] at h1;rw[h1] at o;cases o;exact .same _ (r2 (B e (cJ g)) k _ hk)
theorem gR.gP {alZ:Type} {enc:alZ->ag} {xs:List alZ} (h:gR z l v j (xs.map enc)) (m:∀ x,am (enc x)=true) (s:b1 alZ) (o:bq v=s.isNone) (p:s.l=xs) :Rd l v (b4 z enc s):=by
 have h1:=h.rd (fun e g=>by obtain⟨x,_,rfl⟩:=cE.1 g;exact m x);subst p;unfold p5 at h1;rw[o] at h1;cases s with
 | none=>exact h1
 | some s=>exact h1
theorem gR.mZ {alZ:Type} {enc:alZ->ag} {xs:List alZ} (h:gR z l v j (xs.map enc)) (m:∀ x,am (enc x)=true) (s:b1 alZ) (o:bq v=s.isNone) (p:s.l=xs) :fp (aZ l) v (b4 z enc s):=by
 have h1:=h.o3 (fun e g=>by obtain⟨x,_,rfl⟩:=cE.1 g;exact m x);subst p;unfold p5 at h1;rw[o] at h1;cases s with
 | none=>exact h1
 | some s=>exact h1
end
theorem OO {P:bp} {t:aG} {xs g:ag} {r:Bool} (j:P.eqGuardType P.depth t=false) (h:dK P 10000 t (.af xs) (.af g)=some r) :ea P .eql t (.af xs) (.af g)=some (.bool r):=by simp only[ea,r8,j,rE,if_true,h];rfl
theorem OP {P:bp} {t:aG} {xs g:ag} {r:Bool} (j:P.eqGuardType P.depth t=false) (h:dK P 10000 t (.af xs) (.af g)=some r) :ea P .neq t (.af xs) (.af g)=some (.bool (!r)):=by simp only[ea,r8,j,rE,if_true,h];rfl
end Go.bh
namespace Go.bh
open Go Go.ChangeShapes Go.RowKit
theorem UU (k:Nat) :¬ Own aM.empty (fun _=>none) k:=by rintro⟨b,h,g,_,_⟩;simp[aM.empty,aM.f,live,cC.get] at g
theorem RB {q:Type} {enc:aG × aE->q} {P:bp} {w:aT} {base:Nat} {spare:Nat->Bool} {held:Bool} {fuel:Nat} {al:String} {g t e n:Nat} {cs:Array aE} {x:DataW q × List MemPlace} (b5:List Int)
  (K:P.globalNamed al=some g) (S:w.var? P al=some cs) (R:P.underlying t=some (.array n e)) (I:P.underlying e=some (.int .u32)) (D:P.cellsOf e=1) (H:DataW.trod enc P w base spare held fuel t cs.toList=some x)
  (m:x.1=.agg (b5.map fun k=>.lit (.int .u32 k))) :de w (fun _=>True) (.b6 (b5.map fun k=>.int .u32 k) 0) (.pointer (some ⟨g,0,none⟩)):=by
 obtain⟨U,Y,rfl,T,W,X,J⟩:=DataW.trod_array R H;rw[T] at m;simp only[DataW.agg.injEq] at m;have V:b5.length=n:=by have:=ch List.length m;simp at this;omega
 have G:∀ h k,b5[h]?=some k->w.cell? ⟨g,h,none⟩=some (.int .u32 k):=by
  intro h k j;have O:h<n:=by have:=(aL.1 j).1;omega
  have h1:=J h O;rw[D,oi] at h1;have v:h<U.length:=F;rw[bM v] at h1;obtain⟨p,z,B,_⟩:=DataW.trod_int I h1;have o:=ch (fun l=>l[h]?) m;simp only[b0,bM v,j,cA,bc] at o;rw[B] at o;have Q:p=k:=by simpa using o
  subst Q;have C:=World.var?_cell K S h;rw[C];have u:(cs.toList.drop h)[0]?=some (Value.int .u32 p):=by
   have:((cs.toList.drop h).take 1)[0]?=some (Value.int .u32 p):=by rw[z];rfl
   rw[List.getElem?_take] at this;simpa using this
  rw[gx] at u;simpa using u
 refine .b6 _ 0 g 0 (fun h=>.int .u32 (b5.getD h 0)) (fun h j=>?_) (fun h c j=>?_)
 ·rw[ce] at j;refine⟨?_,rfl,trivial,UU g⟩;rw[hI,G h b5[h] (bM j),gw,bM j];rfl
 ·rw[b0] at j;cases hk:b5[h]? with
  | none=>rw[hk] at j;cases j
  | some k=>
   rw[hk] at j;cases j;rw[gw,hk];exact .int _ _
theorem Me {j:Type} {enc:aG × aE->j} {P:bp} {w:aT} {base:Nat} {spare:Nat->Bool} {held:Bool}:∀ {ts:List aG} {vs:List aE} {g:List (DataW j)} {ps:List MemPlace},
  DataW.TrodAll enc P w base spare held ts vs g ps->g.length=ts.length
 | [],vs,g,ps,h=>by obtain⟨rfl,rfl,rfl⟩:=trodAll_nil h;rfl
 | t::ts,vs,g,ps,h=>by
  obtain⟨p,q,d,o,a,b,rfl,rfl,rfl,h1,m⟩:=trodAll_cons h;simp[Me m]
end Go.bh
namespace Go.bh
open Go
def db (l:List Nat) :ag:=l.map fun n=>.int .u8 (.ofNat n)
def jg (n:Int) :U:=.int .i64 n
def fL (l:ag) :List (ag):=l.map fun c=>[c]
end Go.bh
namespace Go.bh
open Go Go.Proofs Go.Shelf Go.Sort Go.RowKit
def uA:U->Bool | .bool _=>true | .int _ _=>true | .str _=>true | _=>false
def valOf:U->aE | .bool b=>.bool b | .int k n=>.int k n | .str s=>.string ⟨s.toArray⟩ | _=>.bool false
theorem YW {w:aT} {R:Nat->Prop} {h:aM} {muZ:b3} {c:U} {v:aE} (g:uA c=true) (m:aB w R h muZ c v) :v=valOf c:=by
 cases m with
 | bool b=>rfl
 | int k n=>rfl
 | str j=>obtain⟨⟨l⟩⟩:=j;rfl
 | bad=>cases g
 | _=>cases g
theorem JW {w:aT} {R:Nat->Prop} {h:aM} {muZ:b3} {c:U} (g:uA c=true) :aB w R h muZ c (valOf c):=by
 cases c with
 | bool b=>exact .bool b
 | int k n=>exact .int k n
 | str s=>exact (.str ⟨s.toArray⟩:aB w R h muZ (.str (ByteArray.mk s.toArray).data.toList) _)
 | _=>cases g
theorem Fa (c:U) :(valOf c).oneCell'=true:=by cases c<;>rfl
theorem Pp {w W:aT} {b o:Nat} (h:W.heap[b]?=w.heap[b]?) :W.cell? ⟨b,o,none⟩=w.cell? ⟨b,o,none⟩:=by simp[World.cell?,h]
theorem Pq {w:aT} {b o:Nat} {v:aE} (h:w.cell? ⟨b,o,none⟩=some v) :b<w.heap.size:=by apply Decidable.byContradiction;intro g;simp only[World.cell?] at h;rw[qj F] at h;cases h
theorem YV {w W:aT} {A:Nat->Prop} (V:∀ k,A k->k<w.heap.size->W.heap[k]?=w.heap[k]?) {c:U} {v:aE} (j:de w A c v) :de W A c v:=by
 unfold de at j ⊢;generalize ak:aM.empty=P at j ⊢;generalize u:(fun _=>none:b3)=Q at j ⊢;have O:∀ {b z:Nat} {v:aE},Cell w A P Q b z v->Cell W A P Q b z v:=fun {b z v} k=>⟨(Pp (V b k.ro (Pq k.here))).trans k.here,k.one,k.ro,k.free⟩
 induction j with
 | bool b=>exact .bool b
 | int k n=>exact .int k n
 | str R=>exact .str R
 | iA=>exact .iA
 | ad=>exact .ad
 | gY=>exact .gY
 | ic=>exact .ic
 | hS=>exact .hS
 | af cs J p h1 j m=>exact .af cs J p h1 m
 | aX cs J p j m=>exact .aX cs J p m
 | ptr b g t cs C B h=>subst u;cases h
 | jj b g t a F=>exact .jj b g t a F
 | b6 cs g D z I o j m=>exact .b6 cs g D z I (fun H G=>O (o H G)) m
 | Z q b g len cap t K cs C B h p al o=>subst u;cases h
 | ff q b g len cap t K a p o F=>exact .ff q b g len cap t K a p o F
 | gp q b g t a cs C B h=>subst u;cases h
 | bu q S D g cap I p ae o j m=>exact .bu q S D g cap I p ae (fun i H Y G=>O (o i H Y G)) m
 | eH q a cap=>exact .eH q a cap
 | fn f first e3 T cs X o h1 aj ag ah=>exact .fn f first e3 T cs X o ag ah
 | mp b C B h=>subst u;cases h
 | it b C B h=>subst u;cases h
 | fW ai c v j m=>exact .fW ai c v m
 | fh l=>exact .fh l
 | bad v=>exact .bad v
theorem OV {W w' : aT} (h:ew W w') :∃ q os,w'=grow (W.drewN q) os:=by
 refine⟨w'.drawn - W.drawn,w'.heap.extract W.heap.size,?_⟩;have v:=h.drawn;have w:=h.size;obtain⟨g,C,Cc,z,B⟩:=w';obtain⟨heap,tape,j,os,out⟩:=W;have m:z=os:=h.os;have o:C=tape:=h.tape;have p:B=out:=h.output;subst m o p;have t:g=heap++g.extract heap.size:=by
  apply Array.ext_getElem?;intro k;rw[Array.getElem?_append];split
  ·rename_i hk;exact h.block k hk
  ·rename_i hk;rw[Array.getElem?_extract];have G:heap.size<=g.size:=w;by_cases D:k<g.size
   ·rw[ak F,show heap.size+(k - heap.size)=k by omega]
   ·rw[ai F,qj F]
 have u:Cc=j+(Cc - j):=by
  have:j<=Cc:=v;omega
 unfold grow World.drewN;simp only;rw[<-t,<-u]
end Go.bh

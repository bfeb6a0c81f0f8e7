/-
  The canonical machine: the laws by which 'simp' walks.
-/
import Derived.Test.YtdjbnhgdhambnaaGreatDoorUd
import GoSem.ClaimChange
import GoSem.ClaimWide
import Derived.ProofKit
import Derived.OpenShut
import Derived.Shelf.SlSortCmp.InsertionK
import Derived.Sort.LotA
set_option maxHeartbeats 16000000
set_option maxRecDepth 100000
set_option linter.unusedVariables false
set_option linter.unusedSimpArgs false
set_option linter.unnecessarySimpa false
namespace Go.bl
open Go
section
variable {P:bq} {G:Nat->U}
@[simp ↓] theorem acL (sgZ:aS) (l:ad) (K:fG) :run P G .skip sgZ l K=K .normal sgZ l:=id rfl
@[simp ↓] theorem acJ (sgZ:aS) (l:ad) (K:fG) :run P G .ret sgZ l K=K .ret sgZ l:=id rfl
@[simp ↓] theorem acG (i:Nat) (sgZ:aS) (l:ad) (K:fG) :run P G (.exit i) sgZ l K=K (.exit i) sgZ l:=id rfl
@[simp ↓] theorem acI (s:List da) (sgZ:aS) (l:ad) (K:fG) :run P G (.jH s) sgZ l K=iE P G s sgZ l (K .normal):=id rfl
@[simp ↓] theorem acF (s:List da) (sgZ:aS) (l:ad) (K:fG) :run P G (.vR s) sgZ l K=jI P G s sgZ l [] (K .normal):=id rfl
@[simp ↓] theorem acK (a b:fF) (sgZ:aS) (l:ad) (K:fG) :run P G (.seq a b) sgZ l K=run P G a sgZ l (mJ (fun sgZ l=>run P G b sgZ l K) K):=id rfl
@[simp ↓] theorem acE (c:aY) (x y:fF) (sgZ:aS) (l:ad) (K:fG) :run P G (.cond c x y) sgZ l K=wn (dA G sgZ c) (c:=⟨run P G x sgZ l K,run P G y sgZ l K⟩):=id rfl
@[simp ↓] theorem acD (i:Nat) (c:fF) (sgZ:aS) (l:ad) (K:fG) :run P G (.block i c) sgZ l K=run P G c sgZ l (qK i K):=id rfl
@[simp ↓] theorem acH (c:fF) (sgZ:aS) (l:ad) (K:fG) :run P G (.loop c) sgZ l K=xT (run P G c) sgZ l (c:=⟨K⟩):=id rfl
@[simp ↓] theorem aaN (k:aS->ad->Prop) (K:fG) (sgZ:aS) (l:ad) :mJ k K .normal sgZ l=k sgZ l:=id rfl
@[simp ↓] theorem aaM (k:aS->ad->Prop) (K:fG) (i:Nat) (sgZ:aS) (l:ad) :mJ k K (.exit i) sgZ l=K (.exit i) sgZ l:=id rfl
@[simp ↓] theorem aaO (k:aS->ad->Prop) (K:fG) (sgZ:aS) (l:ad) :mJ k K .ret sgZ l=K .ret sgZ l:=id rfl
@[simp ↓] theorem aay (i:Nat) (K:fG) (sgZ:aS) (l:ad) :qK i K .normal sgZ l=K .normal sgZ l:=id rfl
@[simp ↓] theorem aaz (i:Nat) (K:fG) (sgZ:aS) (l:ad) :qK i K .ret sgZ l=K .ret sgZ l:=id rfl
def tT (p:Prop) [Decidable p] [c:vm] :Prop:=if p then c.p else c.q
@[simp ↓] theorem aax (i j:Nat) (K:fG) (sgZ:aS) (l:ad) :qK i K (.exit j) sgZ l=tT (j=i) (c:=⟨K .normal sgZ l,K (.exit j) sgZ l⟩):=by
 unfold qK tT;by_cases h:j=i
 ·simp only[pI h,ak h]
 ·simp only[ix h,aj h]
@[simp ↓] theorem aaE (i:Nat) (x y:Prop) :tT (i=i) (c:=⟨x,y⟩)=x:=by simp[tT]
@[simp] theorem aaD (x y:Prop) :tT False (c:=⟨x,y⟩)=y:=by simp[tT]
@[simp ↓] theorem aaB (g:List dy) (K:U->ad->Prop) (sgZ:aS) (l:ad) :tS P G g K .normal sgZ l=mI P G K sgZ l g []:=id rfl
@[simp ↓] theorem aaC (g:List dy) (K:U->ad->Prop) (sgZ:aS) (l:ad) :tS P G g K .ret sgZ l=mI P G K sgZ l g []:=id rfl
@[simp ↓] theorem aaL (K:U->ad->Prop) (sgZ:aS) (l:ad) (g:ag) :mI P G K sgZ l [] g=K (sL g) l:=id rfl
@[simp ↓] theorem aaK (K:U->ad->Prop) (sgZ:aS) (l:ad) (m:dy) (r:List dy) (g:ag) :mI P G K sgZ l (m::r) g=W (bT P (dA G sgZ) l m) (c:=⟨fun x=>mI P G K sgZ l r (g++[x.1])⟩):=id rfl
@[simp] theorem acW (v:U) :sL [v]=v:=id rfl
@[simp] theorem acX (v w:U) (r:ag) :sL (v::w::r)=.a1 (v::w::r):=id rfl
@[simp ↓] theorem acC (sgZ:aS) (l:ad) (K:aS->ad->Prop) :iE P G [] sgZ l K=K sgZ l:=id rfl
@[simp ↓] theorem acB (i:Nat) (g:Option Tmp) (m:dy) (c:List Nat) (k:Bool) (r:List da) (sgZ:aS) (l:ad) (K:aS->ad->Prop) :
  iE P G (⟨i,g,none,.fy m,c,k⟩::r) sgZ l K=W (bT P (dA G sgZ) l m) (c:=⟨fun x=>ep m x.1 x.2 fun v l'=>iE P G r (gF sgZ g v) l' K⟩):=id rfl
@[simp ↓] theorem acy (i:Nat) (g:Option Tmp) (f:cj) (args:List aY) (c:List Nat) (k:Bool) (r:List da) (sgZ:aS) (l:ad) (K:aS->ad->Prop) :
  iE P G (⟨i,g,none,.lc f args,c,k⟩::r) sgZ l K=fS P G f (args.map (dA G sgZ)) l (c:=⟨fun v l'=>iE P G r (gF sgZ g v) l' K⟩):=id rfl
@[simp ↓] theorem acz (i:Nat) (g:Option Tmp) (x:aY) (args:List aY) (c:List Nat) (k:Bool) (r:List da) (sgZ:aS) (l:ad) (K:aS->ad->Prop) :
  iE P G (⟨i,g,none,.lT x args,c,k⟩::r) sgZ l K=vE P G (dA G sgZ x) (args.map (dA G sgZ)) l (c:=⟨fun v l'=>iE P G r (gF sgZ g v) l' K⟩):=id rfl
@[simp ↓] theorem acA (i:Nat) (g:Option Tmp) (d:Tmp) (w:Bool) (b:rB) (c:List Nat) (k:Bool) (r:List da) (sgZ:aS) (l:ad) (K:aS->ad->Prop) :
  iE P G (⟨i,g,some (some d,w),b,c,k⟩::r) sgZ l K=pB (sgZ d) w (c:=⟨iE P G (⟨i,g,none,b,c,k⟩::r) sgZ l K,iE P G r (gF sgZ g fC) l K⟩):=id rfl
@[simp ↓] theorem acx (sgZ:aS) (l:ad) (seen:il) (K:aS->ad->Prop) :jI P G [] sgZ l seen K=K sgZ l:=id rfl
@[simp ↓] theorem acw (i:Nat) (g:Option Tmp) (m:dy) (c:List Nat) (k:Bool) (r:List da) (sgZ:aS) (l:ad) (seen:il) (K:aS->ad->Prop) :
  jI P G (⟨i,g,none,.fy m,c,k⟩::r) sgZ l seen K=W (bT P (dA G sgZ) l m) (c:=⟨fun x=>ep m x.1 x.2 fun v l'=>pm c seen l'/\jI P G r (gF sgZ g v) l' (pR k i (kX P G (.fy m) sgZ v l l') seen) K⟩):=id rfl
@[simp ↓] theorem acu (i:Nat) (g:Option Tmp) (f:cj) (args:List aY) (c:List Nat) (k:Bool) (r:List da) (sgZ:aS) (l:ad) (seen:il) (K:aS->ad->Prop) :
  jI P G (⟨i,g,none,.lc f args,c,k⟩::r) sgZ l seen K=fS P G f (args.map (dA G sgZ)) l (c:=⟨fun v l'=>pm c seen l'/\jI P G r (gF sgZ g v) l' (pR k i (fun _=>True) seen) K⟩):=id rfl
@[simp ↓] theorem acv (i:Nat) (g:Option Tmp) (d:Tmp) (w:Bool) (b:rB) (c:List Nat) (k:Bool) (r:List da) (sgZ:aS) (l:ad) (seen:il) (K:aS->ad->Prop) :
  jI P G (⟨i,g,some (some d,w),b,c,k⟩::r) sgZ l seen K=pB (sgZ d) w (c:=⟨jI P G (⟨i,g,none,b,c,k⟩::r) sgZ l seen K,jI P G r (gF sgZ g fC) l seen K⟩):=id rfl
@[simp] theorem ZG (g:List Nat) (l:ad) :pm g [] l=True:=id rfl
@[simp] theorem ZF (g:List Nat) (e:Nat × (ad->Prop)) (r:il) (l:ad) :pm g (e::r) l=((g.contains e.1=true->e.2 l)/\pm g r l):=id rfl
@[simp] theorem acN (i:Nat) (p:ad->Prop) (s:il) :pR true i p s=(i,p) ::s:=id rfl
@[simp] theorem acM (i:Nat) (p:ad->Prop) (s:il) :pR false i p s=s:=id rfl
@[simp] theorem acS (m:dy) (sgZ:aS) (v:U) (l l' l1:ad) :kX P G (.fy m) sgZ v l l' l1=(match m.ln with | true=>l1[l.length]?=l'[l.length]? | false=>bT P (dA G sgZ) l1 m=some (v,l1)):=id rfl
@[simp ↓] theorem abj (x:aY) (v:U) (l:ad) (K:U->ad->Prop) :ep (.dW x) v l K=K v l:=id rfl
@[simp ↓] theorem abm (c a b:aY) (v:U) (l:ad) (K:U->ad->Prop) :ep (.pick c a b) v l K=K v l:=id rfl
@[simp ↓] theorem aaP (z:ag) (v:U) (l:ad) (K:U->ad->Prop) :ep (.alloc z) v l K=K v l:=id rfl
@[simp ↓] theorem aaU (x:aY) (v:U) (l:ad) (K:U->ad->Prop) :ep (.box x) v l K=K v l:=id rfl
@[simp ↓] theorem aaT (z:ag) (ps:List (Nat × Nat × aY)) (v:U) (l:ad) (K:U->ad->Prop) :ep (.x7 z ps) v l K=K v l:=id rfl
@[simp ↓] theorem aaV (z:Nat) (zero:ag) (n:Nat) (ps:List (Nat × aY)) (v:U) (l:ad) (K:U->ad->Prop) :ep (.qs z zero n ps) v l K=K v l:=id rfl
@[simp ↓] theorem aa8 (a:aY) (v:U) (l:ad) (K:U->ad->Prop) :ep (.ld1 a) v l K=K v l:=id rfl
@[simp ↓] theorem aa9 (n:Nat) (a:aY) (v:U) (l:ad) (K:U->ad->Prop) :ep (.j6 n a) v l K=K v l:=id rfl
@[simp ↓] theorem abp (n:Nat) (a x:aY) (v:U) (l:ad) (K:U->ad->Prop) :ep (.st n a x) v l K=K v l:=id rfl
@[simp ↓] theorem abk (x:aY) (v:U) (l:ad) (K:U->ad->Prop) :ep (.zg x) v l K=K v l:=id rfl
@[simp ↓] theorem aaS (o:BinOp) (t:aF) (x y:aY) (v:U) (l:ad) (K:U->ad->Prop) :ep (.bin o t x y) v l K=K v l:=id rfl
@[simp ↓] theorem abq (o:UnOp) (x:aY) (v:U) (l:ad) (K:U->ad->Prop) :ep (.un o x) v l K=K v l:=id rfl
@[simp ↓] theorem aaY (k:cV) (x:aY) (v:U) (l:ad) (K:U->ad->Prop) :ep (.vG k x) v l K=K v l:=id rfl
@[simp ↓] theorem aaX (x:aY) (v:U) (l:ad) (K:U->ad->Prop) :ep (.tA x) v l K=K v l:=id rfl
@[simp ↓] theorem aa1 (x:aY) (v:U) (l:ad) (K:U->ad->Prop) :ep (.yr x) v l K=K v l:=id rfl
@[simp ↓] theorem abf (f:cj) (a b:List aY) (v:U) (l:ad) (K:U->ad->Prop) :ep (.wC f a b) v l K=K v l:=id rfl
@[simp ↓] theorem abh (z b:Nat) (zero:ag) (x y:aY) (v:U) (l:ad) (K:U->ad->Prop) :ep (.sf z b zero x y) v l K=K v l:=id rfl
@[simp ↓] theorem abo (m:h6) (x:aY) (h g j:Option aY) (v:U) (l:ad) (K:U->ad->Prop) :ep (.slice m x h g j) v l K=K v l:=id rfl
@[simp ↓] theorem aa3 (n:Nat) (x:aY) (v:U) (l:ad) (K:U->ad->Prop) :ep (.nu n x) v l K=K v l:=id rfl
@[simp ↓] theorem aa4 (n m:Nat) (x:aY) (v:U) (l:ad) (K:U->ad->Prop) :ep (.yG n m x) v l K=K v l:=id rfl
@[simp ↓] theorem aa5 (g:h6) (x y:aY) (v:U) (l:ad) (K:U->ad->Prop) :ep (.r7 g x y) v l K=K v l:=id rfl
@[simp ↓] theorem aa6 (n z:Nat) (x y:aY) (v:U) (l:ad) (K:U->ad->Prop) :ep (.yT n z x y) v l K=K v l:=id rfl
@[simp ↓] theorem aa7 (x y:aY) (v:U) (l:ad) (K:U->ad->Prop) :ep (.yV x y) v l K=K v l:=id rfl
@[simp ↓] theorem aa2 (x:aY) (n:Nat) (v:U) (l:ad) (K:U->ad->Prop) :ep (.ext x n) v l K=K v l:=id rfl
@[simp ↓] theorem abb (g:h6) (x:aY) (v:U) (l:ad) (K:U->ad->Prop) :ep (.len g x) v l K=K v l:=id rfl
@[simp ↓] theorem aaW (g:h6) (x:aY) (v:U) (l:ad) (K:U->ad->Prop) :ep (.cap g x) v l K=K v l:=id rfl
@[simp ↓] theorem aaR (z b:Nat) (zero:ag) (x y:aY) (v:U) (l:ad) (K:U->ad->Prop) :ep (.tk z b zero x y) v l K=K v l:=id rfl
@[simp ↓] theorem aaZ (zero:ag) (x:aY) (v:U) (l:ad) (K:U->ad->Prop) :ep (.tC zero x) v l K=K v l:=id rfl
@[simp ↓] theorem abe (x y:aY) (v:U) (l:ad) (K:U->ad->Prop) :ep (.max x y) v l K=K v l:=id rfl
@[simp ↓] theorem aaQ (z b:Nat) (x y:aY) (v:U) (l:ad) (K:U->ad->Prop) :ep (.app z b x y) v l K=bP v l (c:=⟨K⟩):=id rfl
theorem bP.bm {v:U} {l:ad} {K:U->ad->Prop} (h:K v l) :bP v l (c:=⟨K⟩):=.inl h
@[simp] theorem aau (a:aY) :(dy.ld1 a).ln=false:=id rfl
@[simp] theorem aav (n:Nat) (a:aY) :(dy.j6 n a).ln=false:=id rfl
@[simp] theorem aat (k:cV) (a:aY) :(dy.vG k a).ln=false:=id rfl
@[simp] theorem aar (z:ag) :(dy.alloc z).ln=true:=id rfl
@[simp] theorem aas (z:Nat) (zero:ag) (n:Nat) (ps:List (Nat × aY)) :(dy.qs z zero n ps).ln=true:=id rfl
@[simp] theorem acj (l l' : ad) (x:Option U) (v:U) :(dt l x=some (v,l'))=(x=some v/\l'=l):=propext e8
@[simp ↓] theorem Y5 {alZ:Type} (x:alZ) (k:alZ->Prop) :W (some x) (c:=⟨k⟩)=k x:=id rfl
@[simp ↓] theorem Y4 (l:ad) (o:Option U) (k:U × ad->Prop) :W (dt l o) (c:=⟨k⟩)=W o (c:=⟨fun v=>k (v,l)⟩):=by unfold W dt;cases o<;>rfl
@[simp ↓] theorem Y3 {alZ g:Type} (o:Option alZ) (f:alZ->g) (k:g->Prop) :W (o.map f) (c:=⟨k⟩)=W o (c:=⟨fun v=>k (f v)⟩):=by unfold W;cases o<;>rfl
@[simp ↓] theorem Y2 {alZ:Type} (p:Prop) [Decidable p] (x:alZ) (k:alZ->Prop) :W (if p then some x else none) (c:=⟨k⟩)=(p/\k x):=by unfold W;by_cases h:p<;>simp[h]
@[simp ↓] theorem aaA (b:Bool) (p q:Prop) :wn (.bool b) (c:=⟨p,q⟩)=oI b (c:=⟨p,q⟩):=id rfl
@[simp ↓] theorem aaJ (p q:Prop) :oI true (c:=⟨p,q⟩)=p:=id rfl
@[simp ↓] theorem aaI (p q:Prop) :oI false (c:=⟨p,q⟩)=q:=id rfl
@[simp ↓] theorem aaG (b:Bool) (p q:Prop) :pB (.bool b) true (c:=⟨p,q⟩)=oI b (c:=⟨p,q⟩):=by cases b<;>rfl
@[simp ↓] theorem aaF (b:Bool) (p q:Prop) :pB (.bool b) false (c:=⟨p,q⟩)=oI b (c:=⟨q,p⟩):=by cases b<;>rfl
@[simp ↓] theorem aaH (w:Bool) (p q:Prop) :pB fC w (c:=⟨p,q⟩)=q:=id rfl
theorem fh {b:Bool} {p q:Prop} (h1:b=true->p) (g:b=false->q) :oI b (c:=⟨p,q⟩):=by cases b;exact g rfl;exact h1 rfl
@[simp ↓] theorem acl (sgZ:aS) (d:Tmp) (v:U) :gF sgZ (some d) v=bt sgZ d v:=id rfl
@[simp ↓] theorem ack (sgZ:aS) (v:U) :gF sgZ none v=sgZ:=id rfl
@[simp] theorem Z2 {alZ:Type} (s:Nat->alZ) (d:Nat) (v:alZ) (t:Nat) :bt s d v t=if t=d then v else s t:=id rfl
@[simp] theorem Y6 (args:ag) (t:Nat) :ju args t=args.getD t fC:=id rfl
@[simp] theorem ZY (sgZ:aS) (t:Tmp) :dA G sgZ (.tmp t)=sgZ t:=id rfl
@[simp] theorem ZR (sgZ:aS) (f:cj) :dA G sgZ (.func f)=.fn f [] []:=id rfl
@[simp] theorem ZS (sgZ:aS) (g:Nat) :dA G sgZ (.global g)=G g:=id rfl
@[simp] theorem ZT (sgZ:aS) (k:cV) (n:Int) :dA G sgZ (.const (.int k n))=.int k n:=id rfl
@[simp] theorem ZQ (sgZ:aS) (b:Bool) :dA G sgZ (.const (.bool b))=.bool b:=id rfl
@[simp] theorem ZX (sgZ:aS) (s:ByteArray) :dA G sgZ (.const (.string s))=.str s.data.toList:=id rfl
@[simp] theorem ZW (sgZ:aS) :dA G sgZ (.const (.slice none 0 0))=.ae:=id rfl
@[simp] theorem ZV (sgZ:aS) :dA G sgZ (.const (.map none))=.g0:=id rfl
@[simp] theorem ZU (sgZ:aS) :dA G sgZ (.const .nilFunc)=.ib:=id rfl
variable (cm:aY->U) (l:ad)
@[simp ↓] theorem abY (x:aY) :bT P cm l (.dW x)=some (cm x,l):=id rfl
@[simp ↓] theorem ab1 (c a b:aY) :bT P cm l (.pick c a b)=dt l (zz (cm c) (cm a) (cm b)):=id rfl
@[simp ↓] theorem abx (z:ag) :bT P cm l (.alloc z)=some (.ptr l.length 0 z.length,l++[.cells z.length z]):=id rfl
@[simp ↓] theorem abC (x:aY) :bT P cm l (.box x)=(cm x).cells.map fun cs=>(.ptr l.length 0 cs.length,l++[.cells cs.length cs]):=id rfl
@[simp ↓] theorem abB (zero:ag) (ps:List (Nat × Nat × aY)) :bT P cm l (.x7 zero ps)=dt l ((nm zero (ps.map fun p=>(p.1,p.2.1,cm p.2.2))).map .af):=id rfl
@[simp ↓] theorem abD (z:Nat) (zero:ag) (len:Nat) (ps:List (Nat × aY)) :bT P cm l (.qs z zero len ps)=(ey (fun i=>some (i*z,z)) (c3 zero len) (ps.map fun p=>(p.1,cm p.2))).map fun cs=>(.Z z l.length 0 len len (len*z),l++[.cells (len*z) cs]):=id rfl
@[simp ↓] theorem abQ (a:aY) :bT P cm l (.ld1 a)=dt l ((fN l (cm a)).bind fun x=>x.1[x.2]?):=id rfl
@[simp ↓] theorem abR (n:Nat) (a:aY) :bT P cm l (.j6 n a)=dt l ((fN l (cm a)).bind fun x=>sn n x.1 x.2):=id rfl
@[simp ↓] theorem ab4 (n:Nat) (a x:aY) :bT P cm l (.st n a x)=(jM n l (cm a) (cm x)).map fun l'=>(fC,l'):=id rfl
@[simp ↓] theorem abZ (x:aY) :bT P cm l (.zg x)=dt l (zh (cm x)):=id rfl
@[simp ↓] theorem abA (o:BinOp) (t:aF) (x y:aY) :bT P cm l (.bin o t x y)=dt l (eb P o t (cm x) (cm y)):=id rfl
@[simp ↓] theorem ab5 (o:UnOp) (x:aY) :bT P cm l (.un o x)=dt l (rf o (cm x)):=id rfl
@[simp ↓] theorem abG (k:cV) (x:aY) :bT P cm l (.vG k x)=dt l (vH k (cm x)):=id rfl
@[simp ↓] theorem abF (x:aY) :bT P cm l (.tA x)=dt l (pj l (cm x)):=id rfl
@[simp ↓] theorem abJ (x:aY) :bT P cm l (.yr x)=dt l (rS (cm x)):=id rfl
@[simp ↓] theorem abV (f:cj) (a b:List aY) :bT P cm l (.wC f a b)=some (.fn f (a.map cm) (b.map cm),l):=id rfl
@[simp ↓] theorem abW (z by_:Nat) (zero:ag) (a c:aY) :bT P cm l (.sf z by_ zero a c)=mO z by_ zero l (cm a) (cm c):=id rfl
@[simp ↓] theorem ab3 (m:h6) (x:aY) (h g j:Option aY) :bT P cm l (.slice m x h g j)=dt l (dw m (cm x) (h.map cm) (g.map cm) (j.map cm)):=id rfl
@[simp ↓] theorem abL (off:Nat) (x:aY) :bT P cm l (.nu off x)=dt l (lf (cm x) off):=id rfl
@[simp ↓] theorem abM (n off:Nat) (x:aY) :bT P cm l (.yG n off x)=dt l (yH n off (cm x)):=id rfl
@[simp ↓] theorem abN (g:h6) (x i:aY) :bT P cm l (.r7 g x i)=dt l (bO g (cm x) (cm i)):=id rfl
@[simp ↓] theorem abO (n z:Nat) (x i:aY) :bT P cm l (.yT n z x i)=dt l (yU n z (cm x) (cm i)):=id rfl
@[simp ↓] theorem abP (x i:aY) :bT P cm l (.yV x i)=dt l (tP (cm x) (cm i)):=id rfl
@[simp ↓] theorem abK (x:aY) (i:Nat) :bT P cm l (.ext x i)=dt l (yz (cm x) i):=id rfl
@[simp ↓] theorem abS (g:h6) (x:aY) :bT P cm l (.len g x)=dt l (bz g (cm x)):=id rfl
@[simp ↓] theorem abE (g:h6) (x:aY) :bT P cm l (.cap g x)=dt l (rM g (cm x)):=id rfl
@[simp ↓] theorem aby (z by_:Nat) (s x:aY) :bT P cm l (.app z by_ s x)=ea l z by_ (cm s) (cm x):=id rfl
@[simp ↓] theorem abz (z by_:Nat) (zero:ag) (s x:aY) :bT P cm l (.tk z by_ zero s x)=og l z by_ zero (cm s) (cm x):=id rfl
@[simp ↓] theorem abH (zero:ag) (x:aY) :bT P cm l (.tC zero x)=(pn zero l (cm x)).map fun l'=>(.a1 [],l'):=id rfl
@[simp ↓] theorem abU (x y:aY) :bT P cm l (.max x y)=dt l (oL (cm x) (cm y)):=id rfl
@[simp] theorem acg (t:Bool) (a b:U) :zz (.bool t) a b=some (if t=true then a else b):=id rfl
@[simp] theorem Zy (cs:ag) :(U.af cs).cells=some cs:=id rfl
@[simp] theorem ZB (k:cV) (n:Int) :(U.int k n).cells=some [.int k n]:=id rfl
@[simp] theorem Zz (b:Bool) :(U.bool b).cells=some [.bool b]:=id rfl
@[simp] theorem ZE (s:List UInt8) :(U.str s).cells=some [.str s]:=id rfl
@[simp] theorem ZC:U.ae.cells=some [.ae]:=id rfl
@[simp] theorem ZD (z b o n c s:Nat) :(U.Z z b o n c s).cells=some [.Z z b o n c s]:=id rfl
@[simp] theorem Zw (b off sz k:Nat) :lf (.ptr b off sz) k=some (.ptr b (off+k) sz):=id rfl
@[simp] theorem Zx (cs:ag) (off k:Nat) :lf (.b7 cs off) k=some (.b7 cs (off+k)):=id rfl
@[simp] theorem ab7 (b o s:Nat) :zh (.ptr b o s)=some (.ptr b o s):=id rfl
def DF (x:Option ao) (off sz:Nat) :Option (ag × Nat):=match x with
 | some (.cells n cs)=>if n=sz then some (cs,off) else none
 | _=>none
@[simp] theorem aco (b off sz:Nat) :fN l (.ptr b off sz)=DF l[b]? off sz:=by unfold fN DF;rfl
@[simp] theorem acn (n:Nat) (cs:ag) (off sz:Nat) :DF (some (.cells n cs)) off sz=if n=sz then some (cs,off) else none:=id rfl
@[simp] theorem acp (cs:ag) (off:Nat) :fN l (.b7 cs off)=some (cs,off):=id rfl
def aC (n:Nat) (l:ad) (b off sz:Nat) (vs:ag) (x:Option ao) :Option ad:=match x with
 | some (.cells g cs)=>if g=sz/\vs.length=n/\off+n<=g then some (l.set b (.cells g (aw cs off vs))) else none
 | _=>none
@[simp] theorem acU (n b off sz:Nat) (v:U) :jM n l (.ptr b off sz) v=v.cells.bind fun vs=>aC n l b off sz vs l[b]?:=by unfold jM aC;cases v.cells<;>rfl
@[simp] theorem acT (n b off sz:Nat) (vs:ag) (m:Nat) (cs:ag) :aC n l b off sz vs (some (.cells m cs))=if m=sz/\vs.length=n/\off+n<=m then some (l.set b (.cells m (aw cs off vs))) else none:=id rfl
@[simp] theorem ace (n:Nat) (cs:ag) (off:Nat) :sn n cs off=if off+n<=cs.length then some (.af ((cs.drop off).take n)) else none:=id rfl
@[simp] theorem acR (a:U) (cs vs:ag) (off:Nat) :aw (a::cs) (off+1) vs=a::aw cs off vs:=by simp only[aw,List.take_succ_cons,iK,show off+1+vs.length=(off+vs.length)+1 by omega,List.drop_succ_cons]
@[simp] theorem Xc (a v:U) (cs vs:ag) :aw (a::cs) 0 (v::vs)=v::aw cs 0 vs:=by simp[aw]
@[simp] theorem Xe (cs:ag) :aw cs 0 []=cs:=by simp[aw]
@[simp] theorem acQ (vs:ag) :aw [] 0 vs=vs:=by simp[aw]
@[simp] theorem Zj (zero:ag) :nm zero []=some zero:=id rfl
theorem Ov (zero:ag) (off size:Nat) (v:U) (r:List (Nat × Nat × U)) :nm zero ((off,size,v) ::r)=v.cells.bind fun vs=>if vs.length=size/\off+size<=zero.length then nm (aw zero off vs) r else none:=by rw[nm];cases v.cells<;>rfl
attribute [simp] Ov
@[simp] theorem Z1 (g:Nat->Option (Nat × Nat)) (zero:ag) :ey g zero []=some zero:=id rfl
@[simp] theorem Z0 (g:Nat->Option (Nat × Nat)) (zero:ag) (i:Nat) (v:U) (r:List (Nat × U)) :ey g zero ((i,v) ::r)=(g i).bind fun q=>v.cells.bind fun vs=>if vs.length=q.2/\q.1+q.2<=zero.length then ey g (aw zero q.1 vs) r else none:=by
 rw[ey];cases g i with
 | none=>rfl
 | some q=>cases v.cells<;>rfl
@[simp] theorem acr (zero:ag) :c3 zero 0=[]:=id rfl
@[simp] theorem acs (zero:ag) (n:Nat) :c3 zero (n+1)=zero++c3 zero n:=id rfl
@[simp] theorem Zc (o:BinOp) (t:aF) (k:cV) (a:Int) (k' : cV) (b:Int) :eb P o t (.int k a) (.int k' b)=cx o k a k' b:=id rfl
@[simp] theorem Zh (o:BinOp) (t:aF) (a b:List UInt8) :eb P o t (.str a) (.str b)=tl o a b:=id rfl
@[simp] theorem Ze (k:cV) (a b:Int) :cx .lss k a k b=some (.bool (decide (a<b))):=by simp[cx]
@[simp] theorem Zd (k:cV) (a b:Int) :cx .leq k a k b=some (.bool (decide (a<=b))):=by simp[cx]
@[simp] theorem Zb (k:cV) (a b:Int) :cx .gtr k a k b=some (.bool (decide (b<a))):=by simp[cx]
@[simp] theorem Za (k:cV) (a b:Int) :cx .geq k a k b=some (.bool (decide (b<=a))):=by simp[cx]
@[simp] theorem Y9 (k:cV) (a b:Int) :cx .eql k a k b=some (.bool (decide (a=b))):=by
 have:(a == b)=decide (a=b):=by by_cases h:a=b<;>simp[h]
 simp[cx,this]
@[simp] theorem Zg (k:cV) (a b:Int) :cx .neq k a k b=some (.bool (!decide (a=b))):=by
 have:(a != b)=!decide (a=b):=by by_cases h:a=b<;>simp[h]
 simp[cx,this]
@[simp] theorem Y8 (k:cV) (a b:Int) :cx .add k a k b=some (.int k (k.wrap (a+b))):=by simp[cx]
@[simp] theorem Zi (k:cV) (a b:Int) :cx .sub k a k b=some (.int k (k.wrap (a - b))):=by simp[cx]
@[simp] theorem Zf (k:cV) (a b:Int) :cx .mul k a k b=some (.int k (k.wrap (a*b))):=by simp[cx]
@[simp] theorem ac4 (b:Bool) :rf .not (.bool b)=some (.bool (!b)):=id rfl
@[simp] theorem ac3 (k:cV) (n:Int) :rf .neg (.int k n)=some (.int k (k.wrap (0 - n))):=id rfl
@[simp] theorem ZH (k k' : cV) (n:Int) :vH k (.int k' n)=some (.int k (k.wrap n)):=id rfl
@[simp] theorem aan (z g:Nat) (es:List (ag)) (k:cV) (i:Int) :bO (.Z z) (.bu g es) (.int k i)=if z=g/\0<=i then (es[i.toNat]?).map fun cs=>.b7 cs 0 else none:=id rfl
@[simp] theorem aao (z g b off len cap sz:Nat) (k:cV) (i:Int) :bO (.Z z) (.Z g b off len cap sz) (.int k i)=if z=g/\0<=i/\i<len then some (.ptr b (off+i.toNat*z) sz) else none:=id rfl
@[simp] theorem aam (n z:Nat) (x:U) (k:cV) (i:Int) :bO (.arr n z) x (.int k i)=if 0<=i/\i<n then lf x (i.toNat*z) else none:=id rfl
@[simp] theorem abt (z:Nat) :bz (.Z z) .ae=some (.int .i64 0):=id rfl
@[simp] theorem abv (z g b o n c s:Nat) :bz (.Z z) (.Z g b o n c s)=some (.int .i64 n):=id rfl
@[simp] theorem abu (z g:Nat) (es:List (ag)) :bz (.Z z) (.bu g es)=some (.int .i64 es.length):=id rfl
@[simp] theorem abw (s:List UInt8) :bz .str (.str s)=some (.int .i64 s.length):=id rfl
@[simp] theorem ZZ (vs:ag) (i:Nat) :yz (.a1 vs) i=vs[i]?:=id rfl
end
section
variable {P:bq} {G:Nat->U}
inductive Rd (l:ad) :U->U->Prop
 | same (c:U) (h:c.ar=true) :Rd l c c
 | af (cs o:ag) (u:o.length=cs.length) (h:∀ (j:Nat) (c g:U),cs[j]?=some c->o[j]?=some g->Rd l c g) :Rd l (.af cs) (.af o)
 | a1 (cs o:ag) (u:o.length=cs.length) (h:∀ (j:Nat) (c g:U),cs[j]?=some c->o[j]?=some g->Rd l c g) :Rd l (.a1 cs) (.a1 o)
 | Z (m b p len cap t:Nat) (cs:ag) (q:List (ag)) (v:l[b]?=some (.cells t cs)) (u:q.length=len) (z:∀ e∈q,e.length=m)
   (w:p+len*m<=cs.length)
   (h:∀ (i j:Nat) (e:ag) (c g:U),q[i]?=some e->e[j]?=some g->cs[p+(i*m+j)]?=some c->Rd l c g) :Rd l (.Z m b p len cap t) (.bu m q)
 | sG (m b p cap t:Nat) :Rd l (.Z m b p 0 cap t) (.bu m [])
theorem VP {w:aT} {R:Nat->Prop} {B:Nat} {l:ad} {muZ:b3} (rel:bC R B w (aZ l) muZ) :∀ {c c' : U},Rd l c c'->∀ {v:aD},aA w R (aZ l) muZ c v->dg w R c' v:=by
 intro c c' aq
 induction aq with
 | same c h=>
  intro v m;exact (dg.up (nq m h) fun k _ hk=>⟨hk.1,fun ⟨b,j,h1,o,D⟩=>by cases o⟩:aA w R aM.empty (fun _=>none) _ v)
 | af cs P q h I=>
  intro v m;cases m with
  | af _ W ao h1 m=>
   refine .af P W F h1 (fun g c' v p V=>?_);have t:g<cs.length:=by rw[<-q];exact (aK.1 p).1
   exact I g cs[g] c' (bK t) p (m g cs[g] v (bK t) V)
 | a1 cs P q h I=>
  intro v m;cases m with
  | a1 _ W ao m=>
   refine .a1 P W F (fun g c' v p V=>?_);have t:g<cs.length:=by rw[<-q];exact (aK.1 p).1
   exact I g cs[g] c' (bK t) p (m g cs[g] v (bK t) V)
 | sG z b C cap ai=>
  intro v m;cases m with
  | Z _ _ _ _ _ _ cap' cs j Q O q ap K=>exact .eI z _ cap'
  | fc _ _ _ _ _ _ cap' a q K u=>exact .eI z _ cap'
  | gu _ _ _ _ a cs j Q O=>exact .eI z a 0
 | Z z b C len cap ai cs J Q q ah az h I=>
  intro v m;have G:(aZ l).f b=.cells ai cs:=hK.2 Q;cases m with
  | gu _ _ _ _ a X j S aC=>
   obtain rfl:=hp.1 q;exact .eI z a 0
  | fc _ _ _ _ _ _ cap' a q K u=>
   exfalso;rcases u with u | ⟨n,X,u,t⟩
   ·rw[G] at u;cases u
   ·rw[G] at u;cases u;omega
  | Z _ _ _ _ _ _ cap' X j S O aB ap K=>
   rw[G] at S;cases S;have hblk:=rel.blk b j O;rw[G] at hblk;obtain⟨ax,av,arr,aE,au,ar,aw,ay,al⟩:=hblk;have ak:len<=cap':=by rcases K with ⟨_,h⟩ | ⟨_,h,_⟩<;>omega
   have aj:R j.r:=rel.up _ (rel.base b j (by rw[G];rfl) O);subst q;have ag:∀ i g,i<J.length->g<z->∃ c v,cs[C+(i*z+g)]?=some c/\arr[j.s+(C+(i*z+g))]?=some v/\v.oneCell'=true/\aA w R (aZ l) muZ c v:=by
    intro i g H p;have t:C+(i*z+g)<cs.length:=by
     have:i*z+z<=J.length*z:=by rw[<-ek];exact ck _ H
     omega
    obtain⟨v,h1,o,D⟩:=al _ _ (bK t);exact⟨_,v,bK t,h1,o,D⟩
   refine .bu z J j.r (j.s+C) cap' (fun i g=>(arr[j.s+(C+(i*z+g))]?).getD undef) ak ah (fun i g H p=>?_) (fun i e T g c' p=>?_)
   ·obtain⟨c,v,h1,o,D,Y⟩:=ag i g H p;refine⟨?_,?_,aj,fun ⟨b,j,h1,o,D⟩=>by cases o⟩
    ·simp only[World.cell?,ar,o,g6,rA];rw[show j.s+C+(i*z+g)=j.s+(C+(i*z+g)) by omega,o];rfl
    ·rw[o];exact D
   ·have H:i<J.length:=(aK.1 T).1;have am:g<z:=by rw[<-ah e (cJ T)];exact (aK.1 p).1
    obtain⟨c,v,h1,o,D,Y⟩:=ag i g H am;simp only[o,g6];exact I i g e c c' T p h1 Y
theorem uo (u:P.follows .mixedOrders=true) (o:∀ g,(G g).ar=true) {f:cj} {args:ag} {r:U} (h:fS P G f args [] (c:=⟨fun j l=>Rd l j r⟩)) :i9 P G f args r:=by obtain⟨j,D,h1,C,m⟩:=h;intro w A F q t z;refine (EC (A:=A) u o h1 q t z).mono ?_;rintro e w' ⟨B,muZ',rfl,p,rel,v⟩;exact⟨B,rfl,p,VP rel m v⟩
theorem au {f:cj} {args:ag} {r:U} {l:ad} {K:U->ad->Prop} (j:i9 P G f args r) (g:aq args=true) (h:K r l) :fS P G f args l (c:=⟨K⟩):=
 ⟨r,l,.pure j g,aN _,h⟩
theorem Sh (q:P.follows .mixedOrders=true) (m:∀ g,(G g).ar=true) {f:cj} {args:ag} (h:fS P G f args [] (c:=⟨fun r _=>r=.bool true⟩))
  {w:aT} {A:Nat->Prop} {vs:Array aD} (o:∀ g,dg w A (G g) (.pointer (some ⟨g,0,none⟩))) (p:vs.size=args.length)
  (t:∀ (j:Nat) (c:U) (v:aD),args[j]?=some c->vs[j]?=some v->dg w A c v) :
  Calls P f vs w fun e w'=>e=.returned (.bool true)/\RowKit.Below w.heap.size w w':=by obtain⟨B,z,h1,u,rfl⟩:=h;exact XG q m h1 o p t
end
section
variable {P:bq}
inductive c4 (P:bq) :List aF->ag->Prop
 | nil:c4 P [] []
 | bool {g:aF} {b:Bool} {j:List aF} {cs:ag} (m:P.underlying g=some .bool) (h:c4 P j cs) :c4 P (g::j) (.bool b::cs)
 | int {g:aF} {k:cV} {n:Int} {j:List aF} {cs:ag} (m:P.underlying g=some (.int k)) (h1:k.min<=n) (q:n<=k.max) (h:c4 P j cs) :c4 P (g::j) (.int k n::cs)
 | str {g:aF} {s:List UInt8} {j:List aF} {cs:ag} (m:P.underlying g=some .string) (v:s.length<=maxLen) (h:c4 P j cs) :c4 P (g::j) (.str s::cs)
 | ae {g e:aF} {j:List aF} {cs:ag} (m:P.underlying g=some (.slice e)) (h:c4 P j cs) :c4 P (g::j) (.ae::cs)
 | Z {g e:aF} {o:List (ag)} {j:List aF} {cs:ag} (m:P.underlying g=some (.slice e)) (u:o.length<=maxLen) (w:∀ r∈o,r.length=P.cellsOf e) (t:∀ r∈o,c4 P [e] r) (h:c4 P j cs) :c4 P (g::j) (.bu (P.cellsOf e) o::cs)
 | struct {g:aF} {p:Array Field} {j:List aF} {cs:ag} (m:P.underlying g=some (.struct p)) (h:c4 P (p.toList.map (·.type)++j) cs) :c4 P (g::j) cs
 | array {g e:aF} {n:Nat} {j:List aF} {cs:ag} (m:P.underlying g=some (.array n e)) (h:c4 P (List.replicate n e++j) cs) :c4 P (g::j) cs
def qz (P:bq) :List Field->Nat->Option Nat
 | [],g=>some g
 | f::r,g=>if f.offset=g then qz P r (g+P.cellsOf f.type) else none
def pN (P:bq) :Nat->aF->Bool
 | 0,_=>false
 | d+1,g=>match P.underlying g with
  | some .bool | some (.int _) | some .string=>true
  | some (.slice e)=>decide (0<P.cellsOf e)&&pN P d e
  | some (.struct h)=>decide (qz P h.toList 0=some (P.cellsOf g))&&h.toList.all fun f=>pN P d f.type
  | some (.array n e)=>decide (n*P.cellsOf e=P.cellsOf g)&&pN P d e
  | _=>false
structure mz (P:bq) (w:aT) (A:Nat->Prop) (ts:List aF) (vs:List aD) (cs:ag) :Prop where
 len:cs.length=vs.length
 ty:∀ g cs',c4 P g cs'->c4 P (ts++g) (cs++cs')
 kZ:∀ (j:Nat) (c:U) (v:aD),cs[j]?=some c->vs[j]?=some v->dg w A c v/\v.oneCell'=true
theorem mz.nil {w:aT} {A:Nat->Prop}:mz P w A [] [] []:=⟨rfl,fun _ _ h=>h,fun g c j h=>by simp at h⟩
theorem mz.app {w:aT} {A:Nat->Prop} {ts o:List aF} {vs q:List aD} {cs cs' : ag} (a:mz P w A ts vs cs) (b:mz P w A o q cs') :mz P w A (ts++o) (vs++q) (cs++cs'):=by
 refine⟨by simp[a.len,b.len],fun u t h=>by rw[hl,hl];exact a.ty _ _ (b.ty _ _ h),fun m c p j g=>?_⟩;by_cases h:m<cs.length
 ·rw[aU h] at j;rw[aU (by rw[<-a.len];exact h)] at g;exact a.kZ m c p j g
 ·rw[eu F] at j;rw[eu (by rw[<-a.len];omega)] at g;rw[<-a.len] at g;exact b.kZ _ c p j g
theorem y6 {alZ j:Type} {f:alZ->Option j}:∀ {l:List alZ} {r:List j},l.mapM f=some r->∀ (p:Nat) (a:alZ),l[p]?=some a->∃ x,r[p]?=some x/\f a=some x
 | [],r,h,p,a,g=>by simp at g
 | a0::l,r,h,p,a,g=>by
  rw[o5] at h;simp only[Option.bind_eq_bind,bind_some,tc,bc] at h;obtain⟨b,h1,t,m,rfl⟩:=h;cases p with
  | zero=>simp only[hn,bc] at g;subst g;exact⟨b,rfl,h1⟩
  | succ p=>obtain⟨x,o,q⟩:=y6 m p a (by simpa using g);exact⟨x,by simpa using o,q⟩
theorem wP {w:aT} {A:Nat->Prop} {c:U} {v:aD} (h:dg w A c v) (h1:v.oneCell'=true) :∀ (j:Nat) (c' : U) (g:aD),[c][j]?=some c'->[v][j]?=some g->dg w A c' g/\g.oneCell'=true:=by
 intro j c' g m o;cases j with
 | zero=>simp only[hn,bc] at m o;subst m o;exact⟨h,h1⟩
 | succ j=>simp at m
theorem XH {g:Type} {enc:aF × aD->g} {w:aT} {base:Nat} {spare:Nat->Bool} {held:Bool} {fuel:Nat} {t:aF} {vs:List aD} {x:DataW g × List MemPlace}
  (j:P.underlying t=some .bool) (h:DataW.trod enc P w base spare held (fuel+1) t vs=some x) :∃ b,vs=[.bool b]:=by
 unfold DataW.trod at h;rw[j] at h;split at h
 case h_1 b _=>exact⟨b,rfl⟩
 all_goals first | (cases h;done) | (rename_i heq;cases heq;done) | (rename_i heq _;cases heq;done) | (rename_i heq _ _;cases heq;done) | (rename_i heq _ _ _;cases heq;done) | (simp_all;done)
theorem trod_int {j:Type} {enc:aF × aD->j} {w:aT} {base:Nat} {spare:Nat->Bool} {held:Bool} {fuel:Nat} {t:aF} {k:cV} {vs:List aD} {x:DataW j × List MemPlace}
  (o:P.underlying t=some (.int k)) (h:DataW.trod enc P w base spare held (fuel+1) t vs=some x) :∃ n,vs=[.int k n]/\k.min<=n/\n<=k.max:=by
 unfold DataW.trod at h;rw[o] at h;split at h<;>simp only[reduceCtorEq,bc,TypeDesc.int.injEq] at *<;>try (exfalso;simp_all;done)
 rename_i q p n heq;subst heq;split at h
 ·rename_i m;obtain⟨rfl,g⟩:=m;simp only[Lit.wf,bU,bI] at g;exact⟨n,rfl,g.1,g.2⟩
 ·cases h
theorem XJ {g:Type} {enc:aF × aD->g} {w:aT} {base:Nat} {spare:Nat->Bool} {held:Bool} {fuel:Nat} {t:aF} {vs:List aD} {x:DataW g × List MemPlace}
  (m:P.underlying t=some .string) (h:DataW.trod enc P w base spare held (fuel+1) t vs=some x) :∃ s,vs=[.string s]/\s.size<=maxLen:=by
 unfold DataW.trod at h;rw[m] at h;split at h<;>simp only[reduceCtorEq,bc] at *<;>try (exfalso;simp_all;done)
 split at h
 ·rename_i s _ j;exact⟨s,rfl,j⟩
 ·cases h
theorem XI {g:Type} {enc:aF × aD->g} {w:aT} {base:Nat} {spare:Nat->Bool} {held:Bool} {fuel:Nat} {t e:aF} {vs:List aD} {x:DataW g × List MemPlace}
  (m:P.underlying t=some (.slice e)) (h:DataW.trod enc P w base spare held (fuel+1) t vs=some x) :
  vs=[.slice none 0 0]\/∃ a len cap,vs=[.slice (some a) len cap]/\len<=cap/\cap<=maxLen/\∃ BS,(List.range len).mapM (fun i=>(w.cells? base (a.add (i*P.cellsOf e)) (P.cellsOf e)).bind (DataW.trod enc P w base spare held fuel e))=some BS:=by
 unfold DataW.trod at h;rw[m] at h;split at h<;>simp only[reduceCtorEq,bc,TypeDesc.slice.injEq] at *<;>try (exfalso;simp_all;done)
 ·exact .inl trivial
 ·rename_i o a len cap heq;subst heq;split at h
  ·rename_i j;rw[bind_some] at h;obtain⟨BS,h1,_⟩:=h;exact .inr ⟨a,len,cap,rfl,j.2.1,j.2.2,BS,h1⟩
  ·cases h
theorem XK {g:Type} {enc:aF × aD->g} {w:aT} {base:Nat} {spare:Nat->Bool} {held:Bool} {fuel:Nat} {t:aF} {fs:Array Field} {vs:List aD} {x:DataW g × List MemPlace}
  (m:P.underlying t=some (.struct fs)) (h:DataW.trod enc P w base spare held (fuel+1) t vs=some x) :
  vs.length=P.cellsOf t/\∃ xs,(fs.toList.mapM fun f=>DataW.trod enc P w base spare held fuel f.type ((vs.drop f.offset).take (P.cellsOf f.type)))=some xs:=by
 unfold DataW.trod at h;rw[m] at h;split at h<;>simp only[reduceCtorEq,bc,TypeDesc.struct.injEq] at *<;>try (exfalso;simp_all;done)
 rename_i o heq;subst heq;split at h
 ·rename_i j;rw[map_some] at h;obtain⟨xs,h1,_⟩:=h;exact⟨j,xs,h1⟩
 ·cases h
theorem trod_array {g:Type} {enc:aF × aD->g} {w:aT} {base:Nat} {spare:Nat->Bool} {held:Bool} {fuel:Nat} {t e:aF} {n:Nat} {vs:List aD} {x:DataW g × List MemPlace}
  (m:P.underlying t=some (.array n e)) (h:DataW.trod enc P w base spare held (fuel+1) t vs=some x) :
  vs.length=P.cellsOf t/\∃ xs,((List.range n).mapM fun i=>DataW.trod enc P w base spare held fuel e ((vs.drop (i*P.cellsOf e)).take (P.cellsOf e)))=some xs:=by
 unfold DataW.trod at h;rw[m] at h;split at h<;>simp only[reduceCtorEq,bc,TypeDesc.array.injEq] at *<;>try (exfalso;simp_all;done)
 rename_i p o heq;obtain⟨rfl,rfl⟩:=heq;split at h
 ·rename_i j;rw[map_some] at h;obtain⟨xs,h1,_⟩:=h;exact⟨j,xs,h1⟩
 ·cases h
theorem N1 (a:Addr) (x j:Nat) :a.add (x+j)=(a.add x).add j:=by
 unfold Addr.add;by_cases h:x=0
 ·subst h;simp
 ·by_cases g:j=0
  ·subst g;simp
  ·rw[aj F,aj h,aj g];simp only[i5]
theorem add_plain (b o n:Nat) :(Addr.mk b o none).add n=⟨b,o+n,none⟩:=by
 unfold Addr.add;by_cases g:n=0
 ·subst g;simp
 ·rw[aj g]
theorem LS {ai:Type} {enc:aF × aD->ai} {w:aT} {A:Nat->Prop} (av:∀ k,A k) {base:Nat} {spare:Nat->Bool} {held:Bool}:∀ (fuel:Nat) (D:Nat) (t:aF) (vs:List aD) (d:DataW ai) (ps:List MemPlace),
  pN P D t=true->DataW.trod enc P w base spare held fuel t vs=some (d,ps)->∃ cs,mz P w A [t] vs cs
 | 0,_,_,_,_,_,_,h=>by simp[DataW.trod] at h
 | fuel+1,0,t,vs,d,ps,o,h=>by cases o
 | fuel+1,D+1,t,vs,d,ps,o,h=>by
  have ap:=fun t vs d ps o h=>LS av (enc:=enc) (w:=w) (base:=base) (spare:=spare) (held:=held) fuel D t vs d ps o h
  unfold pN at o;split at o
  ·rename_i j;obtain⟨b,rfl⟩:=XH j h;exact⟨[.bool b],⟨rfl,fun T K h=>.bool j h,wP (.bool b) rfl⟩⟩
  ·rename_i k j;obtain⟨n,rfl,h1,u⟩:=trod_int j h;exact⟨[.int k n],⟨rfl,fun T K h=>.int j h1 u h,wP (.int k n) rfl⟩⟩
  ·rename_i j;obtain⟨s,rfl,h1⟩:=XJ j h;exact⟨[.str s.data.toList],⟨rfl,fun T K h=>.str j (show s.data.toList.length<=maxLen from h1) h,wP (.str s) rfl⟩⟩
  ·rename_i e j;simp only[bU,bI] at o;rcases XI j h with rfl | ⟨a,len,cap,rfl,a2,a0,aZ,aG⟩
   ·exact⟨[.ae],⟨rfl,fun T K h=>.ae j h,wP .ae rfl⟩⟩
   ·have ao:∀ i,i<len->∃ C row,w.cells? base (a.add (i*P.cellsOf e)) (P.cellsOf e)=some C/\mz P w A [e] C row:=fun i g=>by
     obtain⟨x,_,S⟩:=y6 aG i i (by rw[ho g]);rw[bind_some] at S;obtain⟨C,h1,u⟩:=S;obtain⟨row,Y⟩:=ap e C x.1 x.2 o.2 u;exact⟨C,row,h1,Y⟩
    have aE:∃ (C:Nat->List aD) (rows:Nat->ag),∀ i,i<len->w.cells? base (a.add (i*P.cellsOf e)) (P.cellsOf e)=some (C i)/\mz P w A [e] (C i) (rows i):=by
     refine⟨fun i=>if g:i<len then (ao i g).choose else [],fun i=>if g:i<len then (ao i g).choose_spec.choose else [],fun i g=>?_⟩;simp only[dif_pos g];exact (ao i g).choose_spec.choose_spec
    obtain⟨C,rows,J⟩:=aE;have O:∀ i,i<len->(C i).length=P.cellsOf e/\∀ m,m<P.cellsOf e->∃ v,(C i)[m]?=some v/\w.cell? (a.add (i*P.cellsOf e+m))=some v:=fun i g=>by
     have h1:=(J i g).1;unfold World.cells? at h1;split at h1
     ·refine⟨by rw[CQ h1];simp,fun m Q=>?_⟩;obtain⟨v,u,Y⟩:=y6 h1 m m (by rw[ho Q]);refine⟨v,u,?_⟩;rw[<-Y,N1]
     ·cases h1
    let I:=(List.range len).map rows
    have am:∀ (i:Nat) (r:ag),I[i]?=some r->i<len/\r=rows i:=fun i r z=>by
     simp only[I,b1] at z;by_cases g:i<len
     ·rw[ho g] at z;simp only[cz,bc] at z;exact⟨g,z.symm⟩
     ·rw[dY (by simp;omega)] at z;cases z
    have W:I.length=len:=by simp[I]
    have ay:∀ r∈I,r.length=P.cellsOf e:=fun r z=>by
     obtain⟨i,g⟩:=xJ z;obtain⟨h1,rfl⟩:=am i r g;rw[(J i h1).2.len,(O i h1).1]
    have aS:∀ r∈I,c4 P [e] r:=fun r z=>by
     obtain⟨i,g⟩:=xJ z;obtain⟨h1,rfl⟩:=am i r g;have:=(J i h1).2.ty [] [] .nil;simpa using this
    refine⟨[.bu (P.cellsOf e) I],⟨rfl,fun T K h=>.Z j F ay aS h,wP ?_ rfl⟩⟩;by_cases aC:len=0
    ·subst aC;exact .eI _ _ _
    ·obtain⟨a4,_,X⟩:=(O 0 F).2 0 o.1;have ax:a.spot=none:=by
      unfold World.cell? at X;split at X
      ·split at X
       ·cases X
       ·rename_i ah;rw[show 0*P.cellsOf e+0=0 by omega] at ah;simp only[Addr.add,if_true] at ah;cases aR:a.spot with
        | none=>rfl
        | some x=>rw[aR] at ah;simp at ah
      ·cases X
     obtain⟨aB,aX,a3⟩:=a;simp only at ax;subst ax;have az:=aA.bu (w:=w) (R:=A) (h:=aM.empty) (muZ:=fun _=>none) (P.cellsOf e) I aB aX cap (fun i m=>((C i)[m]?).getD undef) F ay
      (fun i m g Q=>by
       rw[W] at g;obtain⟨v,h1,u⟩:=(O i g).2 m Q;obtain⟨c,q⟩:∃ c,(rows i)[m]?=some c:=by
        have:m<(rows i).length:=by rw[(J i g).2.len,(O i g).1];exact Q
        exact⟨_,bK this⟩
       refine⟨?_,?_,av _,fun ⟨b,G,h1,u,Y⟩=>by cases u⟩
       ·rw[h1,g6,<-add_plain];exact u
       ·rw[h1,g6];exact ((J i g).2.kZ m c v q h1).2)
      (fun i r z m c q=>by
       obtain⟨g,rfl⟩:=am i r z;have Q:m<P.cellsOf e:=by rw[<-(O i g).1,<-(J i g).2.len];exact (aK.1 q).1
       obtain⟨v,h1,u⟩:=(O i g).2 m Q;rw[h1,g6];exact ((J i g).2.kZ m c v q h1).1)
     rw[W] at az;exact az
  ·rename_i p j;simp only[bU,bI,gc] at o;obtain⟨W,U,S⟩:=XK j h;have al:∀ (p:List Field) (B:Nat) (U:List (DataW ai × List MemPlace)),qz P p B=some vs.length->B<=vs.length->(∀ f∈p,pN P D f.type=true)->
     (p.mapM fun f=>DataW.trod enc P w base spare held fuel f.type ((vs.drop f.offset).take (P.cellsOf f.type)))=some U->∃ cs,mz P w A (p.map (·.type)) (vs.drop B) cs:=by
    intro p
    induction p with
    | nil=>intro B U q aP _ _;simp only[qz,bc] at q;rw[q,AQ];exact⟨[],.nil⟩
    | cons f p aU=>
     intro B U q aP aw ad;simp only[qz] at q;split at q
     ·rename_i aH;rw[o5] at ad;simp only[Option.bind_eq_bind,bind_some,tc,bc] at ad;obtain⟨x,h1,aY,u,_⟩:=ad;have aO:∀ (p:List Field) (B n:Nat),qz P p B=some n->B<=n:=by
       intro p
       induction p with
       | nil=>intro B n h;simp only[qz,bc] at h;omega
       | cons au gs aV=>
        intro B n h;simp only[qz] at h;split at h
        ·have:=aV _ _ h;omega
        ·cases h
      have aL:=aO _ _ _ q;obtain⟨aj,aq⟩:=ap f.type _ x.1 x.2 (aw f V) h1;obtain⟨ak,ar⟩:=aU _ aY q aL (fun au aI=>aw au (by simp[aI])) u;refine⟨aj++ak,?_⟩;have:=aq.app ar;rw[aH,show List.drop (B+P.cellsOf f.type) vs=List.drop (P.cellsOf f.type) (List.drop B vs) by rw[xG],i4] at this;exact this
     ·cases q
   obtain⟨cs,H⟩:=al p.toList 0 U (by rw[W];exact o.1) (fR _) o.2 S;rw[lG] at H;exact⟨cs,⟨H.len,fun T K h=>.struct j (H.ty _ _ h),H.kZ⟩⟩
  ·rename_i n e j;simp only[bU,bI] at o;obtain⟨W,U,S⟩:=trod_array j h;have aQ:∀ i,i<n->∃ c,mz P w A [e] ((vs.drop (i*P.cellsOf e)).take (P.cellsOf e)) c:=fun i g=>by
    obtain⟨x,_,h1⟩:=y6 S i i (by rw[ho g]);exact ap e _ x.1 x.2 o.2 h1
   have al:∀ G,G<=n->∃ cs,mz P w A (List.replicate G e) (vs.drop ((n - G)*P.cellsOf e)) cs:=by
    intro G
    induction G with
    | zero=>intro _;rw[vd,k3 F];exact⟨[],.nil⟩
    | succ G aW=>
     intro ad;obtain⟨aj,aq⟩:=aQ (n - (G+1)) F;obtain⟨ak,ar⟩:=aW F;refine⟨aj++ak,?_⟩;have:=aq.app ar;have aJ:(n - G)*P.cellsOf e=(n - (G+1))*P.cellsOf e+P.cellsOf e:=by rw[<-ek];congr 1;omega
     rw[aJ,<-xG,i4] at this;exact this
   obtain⟨cs,H⟩:=al n (aN _);rw[s9,ta,lG] at H;exact⟨cs,⟨H.len,fun T K h=>.array j (H.ty _ _ h),H.kZ⟩⟩
  ·cases o
def pg (P:bq) (t:aF) (c:U) :Prop:=match dE P t with
 | some true=>∃ cs,c=.af cs/\c4 P [t] cs
 | _=>c4 P [t] [c]
inductive jV (P:bq) :List aF->ag->Prop
 | nil:jV P [] []
 | cons {g:aF} {c:U} {h:List aF} {cs:ag}:pg P g c->jV P h cs->jV P (g::h) (c::cs)
theorem FW {I:Type} {enc:aF × aD->I} {w:aT} {A:Nat->Prop} (Q:∀ k,A k) {base J:Nat} {spare:Nat->Bool} {held:Bool} {D:Nat}:∀ {ts:List aF} {vs:List aD} {o:List (DataW I)} {ps:List MemPlace},
  (∀ t∈ts,pN P D t=true)->(∀ (j:Nat) t v,ts[j]?=some t->vs[j]?=some v->Value.okWide P w .any J t v)->DataW.TrodAll enc P w base spare held ts vs o ps->
  ∃ cs,jV P ts cs/\cs.length=vs.length/\∀ (j:Nat) (c:U) (v:aD),cs[j]?=some c->vs[j]?=some v->dg w A c v
 | [],[],_,_,_,_,_=>⟨[],.nil,rfl,fun j c v h=>by simp at h⟩
 | [],_::_,o,_,_,_,h=>by cases o<;>cases h
 | _::_,[],o,_,_,_,h=>by cases o<;>cases h
 | _::_,_::_,[],_,_,_,h=>by cases h
 | t::ts,v::vs,d::o,ps,H,T,h=>by
  obtain⟨ap,q,⟨Y,u⟩,ak,_⟩:=h;obtain⟨cs,h1,ad,ag⟩:=FW Q (fun t u=>H t (by simp[u])) (fun j t v u p=>T (j+1) t v (by simpa using u) (by simpa using p)) ak;obtain⟨jY,m⟩:=LS Q Y D t v.cells.toList d ap (H t V) u;have W:c4 P [t] jY:=by simpa using m.ty [] [] .nil
  have p:=T 0 t v rfl rfl;have O:∀ c,pg P t c->dg w A c v->∃ cs,jV P (t::ts) cs/\cs.length=(v::vs).length/\∀ (j:Nat) (c:U) (i1:aD),cs[j]?=some c->(v::vs)[j]?=some i1->dg w A c i1:=fun c g ah=>
   ⟨c::cs,.cons g h1,by simp[ad],fun j X i1 F G=>by
    cases j with
    | zero=>simp only[hn,bc] at F G;subst F G;exact ah
    | succ j=>exact ag j X i1 (by simpa using F) (by simpa using G)⟩
  unfold Value.okWide at p;have agg:dE P t=(P.underlying t).map fun d=>match d with | .struct _ | .array _ _=>true | _=>false:=rfl
  cases z:P.underlying t with
  | none=>
   exfalso;have:=H t V;cases D with
   | zero=>cases this
   | succ D=>unfold pN at this;rw[z] at this;cases this
  | some K=>
   rw[z] at p agg;have al:(∃ cs,v=.agg cs)->dE P t=some true->∃ cs,jV P (t::ts) cs/\cs.length=(v::vs).length/\∀ (j:Nat) (c:U) (i1:aD),cs[j]?=some c->(v::vs)[j]?=some i1->dg w A c i1:=by
    rintro⟨xs,rfl⟩ C;refine O (.af jY) (by unfold pg;rw[C];exact⟨jY,rfl,W⟩) (.af jY xs (by have:=m.len;simp only[Value.cells,rm] at this;exact this.symm) (fun j x B=>?_) (fun j c x g B=>?_))
    ·have ai:j<jY.length:=by rw[m.len];simp only[Value.cells,rm];exact (ij.1 B).1
     exact (m.kZ j jY[j] x (bK ai) (by simpa [Value.cells] using B)).2
    ·exact (m.kZ j c x g (by simpa [Value.cells] using B)).1
   have am:(∀ xs,v≠.agg xs)->dE P t=some false->∃ cs,jV P (t::ts) cs/\cs.length=(v::vs).length/\∀ (j:Nat) (c:U) (i1:aD),cs[j]?=some c->(v::vs)[j]?=some i1->dg w A c i1:=by
    intro aj C;have R:v.cells.toList=[v]:=by cases v<;>first | rfl | exact bW rfl (aj _)
    have S:=m.len;rw[R] at S;obtain⟨c,rfl⟩:∃ c,jY=[c]:=List.length_eq_one_iff.1 S;refine O c (by unfold pg;rw[C];exact W) (m.kZ 0 c v rfl (by rw[R];rfl)).1
   have ao:Cell.okWide P w .any J t v->∀ xs,v≠.agg xs:=by
    rintro g xs rfl;unfold Cell.okWide at g;rw[z] at g;cases K<;>simp[Cell.ok,z] at g
   cases K<;>simp only[cz] at agg<;>first
    | exact al (by obtain⟨cs,h,_⟩:=p;exact⟨cs,h⟩) agg
    | exact am (ao p) agg
end
abbrev bX (alZ:Type):=Option (List alZ)
def bX.l {alZ:Type} (s:bX alZ) :List alZ:=s.getD []
@[simp] theorem bX.abr {alZ:Type}:bX.l (none:bX alZ)=[]:=rfl
@[simp] theorem bX.qL {alZ:Type} (l:List alZ) :bX.l (some l)=l:=rfl
def b4 {alZ:Type} (z:Nat) (enc:alZ->ag) :bX alZ->U
 | none=>.ae
 | some l=>.bu z (l.map enc)
section
variable {alZ:Type} {z:Nat} {enc:alZ->ag}
@[simp] theorem b6 (s:bX alZ) :bz (.Z z) (b4 z enc s)=some (.int .i64 s.l.length):=by cases s<;>simp[b4,bX.l]
@[simp] theorem oD (s:bX alZ) (k:cV) (i:Int) :bO (.Z z) (b4 z enc s) (.int k i)=if 0<=i then (s.l[i.toNat]?).map fun x=>.b7 (enc x) 0 else none:=by
 cases s with
 | none=>by_cases h:0<=i<;>simp[b4,bX.l,bO,h]
 | some l=>by_cases h:0<=i<;>simp[b4,bX.l,h,Function.comp_def]
theorem c5 {s:bX alZ} {k:Nat} {y:alZ} (h:s.l[k]?=some y) :bO (.Z z) (b4 z enc s) (.int .i64 (k:Int))=some (.b7 (enc y) 0):=by rw[oD];simp[h]
@[simp] theorem ZA (s:bX alZ) :(b4 z enc s).cells=some [b4 z enc s]:=by cases s<;>rfl
theorem ot (h:∀ x,aq (enc x)=true) (s:bX alZ) :(b4 z enc s).ar=true:=by
 cases s with
 | none=>rfl
 | some l=>
  simp only[b4,U.ar]
  induction l with
  | nil=>rfl
  | cons x l g=>simp only[di,rO,h,g,k1]
end
theorem wrap_i64 {n:Int} (h1:-9223372036854775808<=n) (m:n<9223372036854775808) :IntKind.i64.wrap n=n:=by
 have g:(2 ^ IntKind.i64.bits:Int)=18446744073709551616:=by decide
 have h:(2 ^ (IntKind.i64.bits - 1) :Int)=9223372036854775808:=by decide
 have j:IntKind.i64.signed=true:=rfl;simp only[IntKind.wrap,g,h,j,lF,bI];split<;>omega
theorem aP {alZ:Type} {l:List alZ} {k:Nat} (h:k<l.length) :∃ x,l[k]?=some x/\x∈l:=⟨l[k],bK h,E8 h⟩
section
variable {P:bq} {G:Nat->U}
theorem vz {t e:aF} (g:P.underlying t=some (.slice e)) {alZ:Type} (z:Nat) (enc:alZ->ag) (s:bX alZ) :eb P .eql t (b4 z enc s) .ae=some (.bool s.isNone):=by cases s<;>simp[b4,eb,rV,dL,g]
theorem Qh {e:aF} {k:cV} (p:P.underlying e=some (.int k)) (m:dE P e=some false) {D:Nat} (x y:List Int) :∀ (n i:Nat),i+n=x.length->i+n=y.length->
  dL.oy P (dL P (D+1)) e 1 (x.map (.int k)) (y.map (.int k)) n i=some (decide (x.drop i=y.drop i)):=by
 intro n
 induction n with
 | zero=>intro i q u;rw[k3 F,k3 F];simp[dL.oy]
 | succ n w=>
  intro i q u;have t:x[i]?=some x[i]:=bK F;have v:y[i]?=some y[i]:=bK F;unfold dL.oy;simp only[Dk m,n3,b1,t,v,cz];have o:dL P (D+1) e (.int k x[i]) (.int k y[i])=some (decide (x[i]=y[i])):=by
   unfold dL;rw[p];simp only[if_true];by_cases h:x[i]=y[i]<;>simp[h]
  rw[o];have g:x.drop i=x[i] ::x.drop (i+1):=k2 F;have j:y.drop i=y[i] ::y.drop (i+1):=k2 F;by_cases h:x[i]=y[i]
  ·simp only[h,n5];rw[w (i+1) F F];refine ci some (decide_eq_decide.2 ?_);rw[g,j,h];simp only[List.cons.injEq,true_and]
  ·simp only[h,vf];refine ci some (ct ?_).symm;rw[g,j];simp only[List.cons.injEq,h,false_and,xR]
theorem Qn {t e:aF} {k:cV} {n:Nat} (j:P.underlying t=some (.array n e)) (m:P.underlying e=some (.int k)) (g:dE P e=some false) (h:b9 P e=some 1) {x y:List Int} (o:x.length=n) (p:y.length=n) {D:Nat} :
  dL P (D+2) t (.af (x.map (.int k))) (.af (y.map (.int k)))=some (decide (x=y)):=by unfold dL;rw[j];simp only[h];rw[Qh m g x y n 0 F F];simp
theorem rY {z:Nat} {es:List (ag)} (g:∀ e∈es,e.length=z) :es.flatten.length=es.length*z:=by
 induction es with
 | nil=>simp
 | cons e es j=>rw[hG,cF,g e V,j fun e h=>g e (by simp[h]),dN,ek,rx]
theorem ll {z:Nat} {es:List (ag)} (m:∀ e∈es,e.length=z) {i j:Nat} {e:ag} (g:es[i]?=some e) (p:j<z) :es.flatten[i*z+j]?=e[j]?:=by
 induction es generalizing i with
 | nil=>simp at g
 | cons x es o=>
  have h:x.length=z:=m x V;cases i with
  | zero=>
   simp only[hn,bc] at g;subst g;rw[hG,ta,hJ,aU F]
  | succ i=>
   simp only[jr] at g;rw[hG,eu (by rw[h,ek];omega),h,show (i+1)*z+j - z=i*z+j by rw[ek];omega];exact o (fun e g=>m e (by simp[g])) g
theorem QL {z:Nat} {es:List (ag)} (g:∀ e∈es,e.length=z) (i:Nat) :es.flatten.drop (i*z)=(es.drop i).flatten:=by
 induction es generalizing i with
 | nil=>simp
 | cons x es m=>
  have j:x.length=z:=g x V;cases i with
  | zero=>simp
  | succ i=>
   rw[hG,show (i+1)*z=x.length+i*z by rw[ek,j,rx],List.drop_length_add_append,List.drop_succ_cons];exact m (fun e h=>g e (by simp[h])) i
theorem B7 {z:Nat} {es:List (ag)} (h:∀ e∈es,e.length=z) {i:Nat} {e:ag} (g:es[i]?=some e) :(es.flatten.drop (i*z)).take z=e:=by
 rw[QL h];have j:i<es.length:=(aK.1 g).1;have:es.drop i=e::es.drop (i+1):=by rw[k2 j];congr 1;rw[bK j] at g;exact cd g
 rw[this,hG,ik (by rw[h e (cJ g)];exact aN _),aH (by rw[h e (cJ g)];exact aN _)]
theorem pt {z:Nat} {es:List (ag)} (o:∀ e∈es,e.length=z) {i j:Nat} {e vs:ag} (g:es[i]?=some e) (u:j+vs.length<=z) :aw es.flatten (i*z+j) vs=(es.set i (aw e j vs)).flatten:=by
 have h:i<es.length:=(aK.1 g).1;have v:e.length=z:=o e (cJ g);have p:es.drop i=e::es.drop (i+1):=by rw[k2 h];congr 1;rw[bK h] at g;exact cd g
 have q:(es.set i (aw e j vs)).flatten=(es.take i).flatten++(aw e j vs++(es.drop (i+1)).flatten):=by
  rw[rv,ak h,jq,hG]
 have t:es.flatten=(es.take i).flatten++(e++(es.drop (i+1)).flatten):=by
  conv=>lhs;rw[<-i4 i es]
  rw[p,jq,hG]
 have m:(es.take i).flatten.length=i*z:=by
  rw[rY (z:=z) fun e g=>o e (gA g),cL,i7 F]
 rw[q,t];simp only[aw];rw[o7,aH F,m,show i*z+j - i*z=j by omega,ik F,
  u4,k3 F,m,show i*z+j+vs.length - i*z=j+vs.length by omega,h0,nY F]
 simp only[hl]
theorem cE {sgZ:aS} {i:Nat} {v:U} (h:sgZ i=v) :bt sgZ i v=sgZ:=by funext g;simp only[bt];split<;>simp_all
theorem kh {sgZ:aS} {g:Nat} {j:U} {h:Nat} {L8:U} (h1:sgZ g=j) (m:sgZ h=L8) :∃ s:aS,sgZ=bt (bt (s) g j) h L8:=⟨sgZ,by rw[cE h1,cE m]⟩
theorem gJ {sgZ:aS} {g:Nat} {m:U} {h:Nat} {o:U} {j:Nat} {v3:U} (h1:sgZ g=m) (p:sgZ h=o) (q:sgZ j=v3) :∃ s:aS,sgZ=bt (bt (bt (s) g m) h o) j v3:=⟨sgZ,by rw[cE h1,cE p,cE q]⟩
theorem eO {sgZ:aS} {g:Nat} {o:U} {h:Nat} {p:U} {j:Nat} {q:U} {m:Nat} {v4:U} (h1:sgZ g=o) (t:sgZ h=p) (u:sgZ j=q) (v:sgZ m=v4) :∃ s:aS,sgZ=bt (bt (bt (bt (s) g o) h p) j q) m v4:=⟨sgZ,by rw[cE h1,cE t,cE u,cE v]⟩
theorem gv {sgZ:aS} {g:Nat} {p:U} {h:Nat} {q:U} {j:Nat} {t:U} {m:Nat} {u:U} {o:Nat} {v5:U} (h1:sgZ g=p) (v:sgZ h=q) (w:sgZ j=t) (z:sgZ m=u) (B:sgZ o=v5) :∃ s:aS,sgZ=bt (bt (bt (bt (bt (s) g p) h q) j t) m u) o v5:=⟨sgZ,by rw[cE h1,cE v,cE w,cE z,cE B]⟩
theorem m0 {sgZ:aS} {g:Nat} {p:U} {h:Nat} {q:U} {j:Nat} {t:U} {m:Nat} {u:U} {o:Nat} {v:U} {i6:Nat} {jp:U} (h1:sgZ g=p) (w:sgZ h=q) (z:sgZ j=t) (B:sgZ m=u) (C:sgZ o=v) (D:sgZ i6=jp) :∃ s:aS,sgZ=bt (bt (bt (bt (bt (bt (s) g p) h q) j t) m u) o v) i6 jp:=⟨sgZ,by rw[cE h1,cE w,cE z,cE B,cE C,cE D]⟩
theorem xt {sgZ:aS} {g:Nat} {q:U} {h:Nat} {t:U} {j:Nat} {u:U} {m:Nat} {v:U} {o:Nat} {w:U} {i6:Nat} {z:U} {p:Nat} {L9:U} (h1:sgZ g=q) (B:sgZ h=t) (C:sgZ j=u) (D:sgZ m=v) (F:sgZ o=w) (G:sgZ i6=z) (H:sgZ p=L9) :∃ s:aS,sgZ=bt (bt (bt (bt (bt (bt (bt (s) g q) h t) j u) m v) o w) i6 z) p L9:=⟨sgZ,by rw[cE h1,cE B,cE C,cE D,cE F,cE G,cE H]⟩
theorem Au {sgZ:aS} {g:Nat} {t:U} {h:Nat} {u:U} {j:Nat} {v:U} {m:Nat} {w:U} {o:Nat} {z:U} {i6:Nat} {B:U} {p:Nat} {C:U} {q:Nat} {Ma:U} (h1:sgZ g=t) (D:sgZ h=u) (F:sgZ j=v) (G:sgZ m=w) (H:sgZ o=z) (I:sgZ i6=B) (J:sgZ p=C) (K:sgZ q=Ma) :∃ s:aS,sgZ=bt (bt (bt (bt (bt (bt (bt (bt (s) g t) h u) j v) m w) o z) i6 B) p C) q Ma:=⟨sgZ,by rw[cE h1,cE D,cE F,cE G,cE H,cE I,cE J,cE K]⟩
theorem L4 {sgZ:aS} {g:Nat} {u:U} {h:Nat} {v:U} {j:Nat} {w:U} {m:Nat} {z:U} {o:Nat} {B:U} {i6:Nat} {C:U} {p:Nat} {D:U} {q:Nat} {F:U} {t:Nat} {v9:U} (h1:sgZ g=u) (G:sgZ h=v) (H:sgZ j=w) (I:sgZ m=z) (J:sgZ o=B) (K:sgZ i6=C) (O:sgZ p=D) (P:sgZ q=F) (Q:sgZ t=v9) :∃ s:aS,sgZ=bt (bt (bt (bt (bt (bt (bt (bt (bt (s) g u) h v) j w) m z) o B) i6 C) p D) q F) t v9:=⟨sgZ,by rw[cE h1,cE G,cE H,cE I,cE J,cE K,cE O,cE P,cE Q]⟩
theorem L2 {sgZ:aS} {g:Nat} {v:U} {j:Nat} {w:U} {m:Nat} {z:U} {o:Nat} {B:U} {p:Nat} {C:U} {i6:Nat} {D:U} {q:Nat} {F:U} {t:Nat} {G:U} {u:Nat} {H:U} {h:Nat} {L5:U} (h1:sgZ g=v) (J:sgZ j=w) (K:sgZ m=z) (O:sgZ o=B) (P:sgZ p=C) (Q:sgZ i6=D) (R:sgZ q=F) (S:sgZ t=G) (T:sgZ u=H) (I:sgZ h=L5) :∃ s:aS,sgZ=bt (bt (bt (bt (bt (bt (bt (bt (bt (bt (s) g v) j w) m z) o B) p C) i6 D) q F) t G) u H) h L5:=⟨sgZ,by rw[cE h1,cE J,cE K,cE O,cE P,cE Q,cE R,cE S,cE T,cE I]⟩
theorem L3 {sgZ:aS} {g:Nat} {w:U} {m:Nat} {B:U} {o:Nat} {C:U} {p:Nat} {D:U} {q:Nat} {F:U} {i6:Nat} {G:U} {t:Nat} {H:U} {u:Nat} {I:U} {v:Nat} {J:U} {h:Nat} {z:U} {j:Nat} {L6:U} (h1:sgZ g=w) (P:sgZ m=B) (Q:sgZ o=C) (R:sgZ p=D) (S:sgZ q=F) (T:sgZ i6=G) (V:sgZ t=H) (W:sgZ u=I) (X:sgZ v=J) (K:sgZ h=z) (O:sgZ j=L6) :∃ s:aS,sgZ=bt (bt (bt (bt (bt (bt (bt (bt (bt (bt (bt (s) g w) m B) o C) p D) q F) i6 G) t H) u I) v J) h z) j L6:=⟨sgZ,by rw[cE h1,cE P,cE Q,cE R,cE S,cE T,cE V,cE W,cE X,cE K,cE O]⟩
theorem X7 {sgZ:aS} {g:Nat} {z:U} {o:Nat} {D:U} {p:Nat} {F:U} {q:Nat} {G:U} {t:Nat} {H:U} {i6:Nat} {I:U} {u:Nat} {J:U} {v:Nat} {K:U} {w:Nat} {O:U} {h:Nat} {B:U} {j:Nat} {C:U} {m:Nat} {L7:U} (h1:sgZ g=z) (S:sgZ o=D) (T:sgZ p=F) (V:sgZ q=G) (W:sgZ t=H) (X:sgZ i6=I) (Y:sgZ u=J) (ad:sgZ v=K) (ag:sgZ w=O) (P:sgZ h=B) (Q:sgZ j=C) (R:sgZ m=L7) :∃ s:aS,sgZ=bt (bt (bt (bt (bt (bt (bt (bt (bt (bt (bt (bt (s) g z) o D) p F) q G) t H) i6 I) u J) v K) w O) h B) j C) m L7:=⟨sgZ,by rw[cE h1,cE S,cE T,cE V,cE W,cE X,cE Y,cE ad,cE ag,cE P,cE Q,cE R]⟩
section
variable {alZ:Type}
@[simp] theorem qA (l:ad) (z:Nat) (enc:alZ->ag) (s:bX alZ) :cr l z (b4 z enc s)=some ((s.l.map enc).flatten,s.l.length):=by cases s<;>simp[b4,cr]
end
theorem uB {l:ad} {b:Nat} {c:ao} (h:l[b]?=some c) :l.set b c=l:=by
 apply g3;intro j;rw[n0];by_cases g:b=j
 ·subst g;rw[ak rfl,ak (aX h)];exact h.symm
 ·rw[aj g]
theorem Ob {l:ad} {z by_ b:Nat} {es xs:List (ag)} {x:U} (g:l[b]?=some (.cells (es.length*z) es.flatten)) (j:cr l z x=some (xs.flatten,xs.length)) (m:∀ e∈es,e.length=z) (o:z≠0) (p:by_≠0)
  (h:(es.length+xs.length)*by_<=dk) :
  ea l z by_ (.Z z b 0 es.length es.length (es.length*z)) x=some (.Z z b 0 (es++xs).length (es++xs).length ((es++xs).length*z),l.set b (.cells ((es++xs).length*z) (es++xs).flatten)):=by
 unfold ea;rw[j];show hr l z by_ _ xs.flatten xs.length=_;unfold hr;cases xs with
 | nil=>simp[uB g]
 | cons y q=>
  rw[aj V,aj F];simp only[g];rw[ak ⟨trivial,trivial,h⟩,aj V,aj F,ak trivial,aH (by rw[rY m];exact aN _)];simp only[cF,jq]
theorem FS {l:ad} {z by_ b n m sz:Nat} {es xs:List (ag)} {x:U} (h:l[b]?=some (.cells sz es.flatten)) (u:cr l z x=some (xs.flatten,m)) (p:es.length=n) (o:xs.length=m) (t:sz=n*z) (v:∀ e∈es,e.length=z) (g:z≠0) (j:by_≠0)
  (q:(n+m)*by_<=dk) :
  ea l z by_ (.Z z b 0 n n sz) x=some (.Z z b 0 (n+m) (n+m) ((n+m)*z),l.set b (.cells ((n+m)*z) (es++xs).flatten)):=by subst p o t;rw[Ob h u v g j q];simp only[cF]
theorem Oa {l:ad} {z by_:Nat} {xs:List (ag)} {x:U} (j:cr l z x=some (xs.flatten,xs.length)) (m:z≠0) (o:by_≠0) (g:xs≠[]) (h:xs.length*by_<=dk) :
  ea l z by_ .ae x=some (.Z z l.length 0 xs.length xs.length (xs.length*z),l++[.cells (xs.length*z) xs.flatten]):=by unfold ea;rw[j];show hr l z by_ _ xs.flatten xs.length=_;unfold hr;rw[aj (by simp[g]),aj F];simp only;rw[ak h]
theorem cy {cs vs:ag} (h:vs.length=cs.length) :aw cs 0 vs=vs:=by simp only[aw,m9,h0,hJ];rw[k3 F,eK]
theorem Gd (len cap:Nat) (k:cV) (i:Int) :e5 len cap (some (.int k i)) none none=if 0<=i/\i<=len then some (i.toNat,len,cap) else none:=by
 unfold e5 gW;by_cases h:0<=i/\i<=len
 ·simp only[ak h]
 ·simp only[aj h]
theorem ya (len cap:Nat) (k:cV) (i:Int) :e5 len cap none (some (.int k i)) none=if 0<=i/\i<=cap then some (0,i.toNat,cap) else none:=by
 unfold e5 gW;by_cases h:0<=i/\i<=cap
 ·simp only[ak h]
 ·simp only[aj h]
theorem OC (len cap:Nat) (k k' : cV) (i j:Int) :e5 len cap (some (.int k i)) (some (.int k' j)) none=if 0<=i/\i<=j/\j<=cap then some (i.toNat,j.toNat,cap) else none:=by
 unfold e5 gW;by_cases h:0<=j/\j<=cap
 ·simp only[ak h];by_cases g:0<=i/\i<=((j.toNat:Nat) :Int)
  ·simp only[ak g];rw[ak F]
  ·simp only[aj g];rw[aj F]
 ·simp only[aj h];rw[aj F]
theorem K6 {alZ:Type} {z:Nat} {enc:alZ->ag} {l:List alZ} {k:cV} {i:Int} (h1:0<=i) (g:i<=l.length) :dw (.Z z) (b4 z enc (some l)) (some (.int k i)) none none=some (b4 z enc (some (l.drop i.toNat))):=by have h:i.toNat<=l.length:=F;simp only[dw,b4,if_true,Gd,cg];rw[ak ⟨h1,g⟩];simp only[cz,bc,U.bu.injEq,true_and];rw[aH V,n1]
theorem Ef {alZ:Type} {z:Nat} {enc:alZ->ag} {l:List alZ} {k:cV} {i:Int} (h1:0<=i) (g:i<=l.length) :dw (.Z z) (b4 z enc (some l)) none (some (.int k i)) none=some (b4 z enc (some (l.take i.toNat))):=by simp only[dw,b4,if_true,ya,cg];rw[ak ⟨h1,g⟩];simp only[cz,bc,U.bu.injEq,true_and,lG,vd];rw[i3]
theorem W0 {alZ:Type} {z:Nat} {enc:alZ->ag} {l:List alZ} {k k' : cV} {i j:Int} (g:0<=i) (h1:i<=j) (h:j<=l.length) :dw (.Z z) (b4 z enc (some l)) (some (.int k i)) (some (.int k' j)) none=some (b4 z enc (some ((l.drop i.toNat).take (j.toNat - i.toNat)))):=by simp only[dw,b4,if_true,OC,cg];rw[ak ⟨g,h1,h⟩];simp only[cz,bc,U.bu.injEq,true_and];rw[i3,n1]
end
section
variable {P:bq}
def Lw (P:bq) (t:aF) :Option (List aF):=match P.underlying t with
 | some (.struct g)=>some (g.toList.map (·.type))
 | _=>none
theorem sN {cs:ag} (h:c4 P [] cs) :cs=[]:=by cases h;rfl
theorem nS {t:aF} {k:cV} {ts:List aF} {cs:ag} (m:P.underlying t=some (.int k)) (h:c4 P (t::ts) cs) :∃ n cs',cs=.int k n::cs'/\k.min<=n/\n<=k.max/\c4 P ts cs':=by
 cases h
 case int o n cs' h1 j g h=>
  rw[m] at g;cases g;exact⟨_,_,rfl,h1,j,h⟩
 all_goals (exfalso;simp_all;done)
theorem XY {t:aF} {ts:List aF} {cs:ag} (g:P.underlying t=some .bool) (h:c4 P (t::ts) cs) :∃ b cs',cs=.bool b::cs'/\c4 P ts cs':=by
 cases h
 case bool b cs' j h=>exact⟨_,_,rfl,h⟩
 all_goals (exfalso;simp_all;done)
theorem nT {t:aF} {fs ts:List aF} {cs:ag} (g:Lw P t=some fs) (h:c4 P (t::ts) cs) :c4 P (fs++ts) cs:=by
 unfold Lw at g;cases h
 case struct m j h=>rw[j] at g;cases g;exact h
 all_goals (exfalso;simp_all;done)
theorem XX {t e:aF} {n:Nat} {ts:List aF} {cs:ag} (j:P.underlying t=some (.array n e)) (h:c4 P (t::ts) cs) :c4 P (List.replicate n e++ts) cs:=by
 cases h
 case array m o g h=>rw[j] at g;cases g;exact h
 all_goals (exfalso;simp_all;done)
theorem X2 {t e:aF} {ts:List aF} {cs:ag} (p:P.underlying t=some (.slice e)) (h:c4 P (t::ts) cs) :
  ∃ cs',c4 P ts cs'/\(cs=.ae::cs'\/∃ es,cs=.bu (P.cellsOf e) es::cs'/\es.length<=maxLen/\∀ r∈es,c4 P [e] r):=by
 cases h
 case ae j cs' g h=>exact⟨_,h,.inl rfl⟩
 case Z j es cs' o q m g h=>rw[p] at g;cases g;exact⟨_,h,.inr ⟨es,rfl,o,m⟩⟩
 all_goals (exfalso;simp_all;done)
theorem KJ {alZ:Type} {enc:alZ->ag} {Q:alZ->Prop}:∀ (es:List (ag)),(∀ r∈es,∃ x,r=enc x/\Q x)->∃ xs:List alZ,es=xs.map enc/\∀ x∈xs,Q x
 | [],_=>⟨[],rfl,fun x g=>by cases g⟩
 | r::es,h=>by
  obtain⟨x,rfl,g⟩:=h r V;obtain⟨xs,rfl,o⟩:=KJ es (fun r m=>h r (by simp[m]));exact⟨x::xs,rfl,fun y j=>by
   rcases kn.1 j with rfl | j
   ·exact g
   ·exact o y j⟩
theorem xq {alZ:Type} {t e:aF} {z:Nat} {enc:alZ->ag} {Q:alZ->Prop} {ts:List aF} {cs:ag} (q:P.underlying t=some (.slice e)) (w:P.cellsOf e=z) (j:∀ r,c4 P [e] r->∃ x,r=enc x/\Q x) (h:c4 P (t::ts) cs) :
  ∃ (s:bX alZ) (cs' : ag),cs=b4 z enc s::cs'/\s.l.length<=maxLen/\(∀ x∈s.l,Q x)/\c4 P ts cs':=by
 obtain⟨cs',h1,rfl | ⟨g,rfl,m,o⟩⟩:=X2 q h
 ·exact⟨none,cs',rfl,fR _,fun x u=>(by cases u),h1⟩
 ·obtain⟨B,rfl,v⟩:=KJ (enc:=enc) (Q:=Q) g (fun r p=>j r (o r p));refine⟨some B,cs',?_,by simpa using m,v,h1⟩;rw[w];rfl
theorem XU {t:aF} {c:U} (g:dE P t=some true) (h:pg P t c) :∃ cs,c=.af cs/\c4 P [t] cs:=by unfold pg at h;rw[g] at h;exact h
theorem XV {t:aF} {c:U} (g:dE P t=some false) (h:pg P t c) :c4 P [t] [c]:=by unfold pg at h;rw[g] at h;exact h
theorem LX {t:aF} {ts:List aF} {cs:ag} (h:jV P (t::ts) cs) :∃ c cs',cs=c::cs'/\pg P t c/\jV P ts cs':=by
 cases h with
 | cons h1 g=>exact⟨_,_,rfl,h1,g⟩
theorem XS {cs:ag} (h:jV P [] cs) :cs=[]:=by cases h;rfl
end
end Go.bl
namespace Go.bl
open Go Go.ChangeShapes Go.RowKit
theorem LQ {m:Type} {enc:aF × aD->m} {P:bq} (q:laidOutB P=true) {W o:aT} (p:Below W.heap.size W o) :∀ {ts:List aF} {vs:List aD} {g:List (DataW m)} {ps:List MemPlace},
  (∀ t∈ts,P.readableRec t=true/\t<P.types.size)->DataW.TrodAll enc P W 0 (fun _=>true) true ts vs g ps->DataW.TrodAll enc P o 0 (fun b=>decide (b<W.heap.size)) true ts vs g ps
 | [],vs,g,ps,_,h=>by
  obtain⟨rfl,rfl,rfl⟩:=trodAll_nil h;exact trodAll_mk0
 | t::ts,vs,g,ps,j,h=>by
  have v:=h.lt;obtain⟨C,D,d,B,a,b,rfl,rfl,rfl,h1,u⟩:=trodAll_cons h;exact⟨a,b,Below.trod q (j t V).1 (j t V).2 h1 p (fun x z=>v x (by simp[z])),LQ q p (fun t w=>j t (by simp[w])) u,rfl⟩
theorem Si {P:bq} {G:Nat->U} (I:P.follows .mixedOrders=true) (w:∀ g,(G g).ar=true) {f:cj} {ts:List aF} (D:Nat) (K:∀ t∈ts,pN P D t=true) (F:laidOutB P=true)
  (O:∀ t∈ts,P.readableRec t=true/\t<P.types.size) (T:∀ cs,jV P ts cs->fS P G f cs [] (c:=⟨fun r _=>r=.bool true⟩))
  {o:Type} {enc:aF × aD->o} {W:aT} {u:Nat} {args:Array aD} {p:List (DataW o)} {ps:List MemPlace} (C:∀ g,dg W (fun _=>True) (G g) (.pointer (some ⟨g,0,none⟩)))
  (J:∀ (j:Nat) t v,ts[j]?=some t->args[j]?=some v->Value.okWide P W .any u t v) (h:DataW.TrodAll enc P W 0 (fun _=>true) true ts args.toList p ps) :
  Calls P f args W fun e w'=>e=.returned (.bool true)/\Below W.heap.size W w'/\DataW.TrodAll enc P w' 0 (fun b=>decide (b<W.heap.size)) true ts args.toList p ps:=by obtain⟨cs,R,H,S⟩:=FW (A:=fun _=>True) (fun _=>trivial) K (fun j t v Q m=>J j t v Q (by simpa using m)) h;exact (Sh I w (T cs R) C (by rw[H];simp) (fun j c v z m=>S j c v z (by simpa using m))).mono fun e w' ⟨B,q⟩=>⟨B,q,LQ F q O h⟩
end Go.bl
namespace Go.bl
open Go
section
variable (P:bq)
end
def FX (x:U) :Option Int:=match x with
 | .int k i=>match k with | .i64=>some i | _=>none
 | _=>none
def ip (z:Nat) (cs vs:ag) (i len:Nat) :ag:=cs.take (i*z)++vs++(cs.drop (i*z)).take ((len - i)*z)++cs.drop ((len+1)*z)
def H8 (z by_:Nat) (h:aM) (s:U) (i:Nat) (bv:Nat) (vs:ag) :Option (U × aM):=match s with
 | .ae=>if i=0/\by_<=dk then some (.Z z h.n 0 1 1 z,h.push (.cells z vs)) else none
 | .Z o b j len cap m=>match h.f b with
  | .cells g cs=>if g=cap*z/\m=cap*z/\o=z/\j=0/\bv≠b/\i<=len/\len<=cap/\(len+1)*by_<=dk then
    some (.Z z h.n 0 (len+1) (max cap (len+1)) (max cap (len+1)*z),(h.set b .dead).push (.cells (max cap (len+1)*z) (ip z cs vs i len))) else none
  | _=>none
 | _=>none
def tO (z by_:Nat) (args:ag) (h:aM) :Option (U × aM):=match args with
 | [s,x,y]=>match FX x,y with
  | some i,.Z u g p m j q=>match h.f g with
   | .cells o t=>if u=z/\p=0/\m=1/\j=1/\q=z/\o=z/\0<=i then H8 z by_ h s i.toNat g t else none
   | _=>none
  | _,_=>none
 | _=>none
class Fz (P:bq) (G:Nat->U) where
 get:cj->Option (Nat × Nat)
 ok:∀ f z by_,get f=some (z,by_)->∀ args h r h',tO z by_ args h=some (r,h')->jR P G f args h r h'
instance (priority:=10) j (P:bq) (G:Nat->U) :Fz P G:=⟨fun _=>none,fun f m g h=>by cases h⟩
section
variable (P:bq) (G:Nat->U)
end
abbrev cX (t:Nat) :aY:=.tmp t
abbrev U.i6 (n:Int) :U:=.int .i64 n
abbrev ao.q (sz:Nat) (cs:ag) :ao:=.cells sz cs
def bZ (n:Nat) (c:U) :ag:=List.replicate n c
abbrev jn (i d x:Nat) :da:=⟨i,some d,none,.fy (.dW (.tmp x)),[],false⟩
abbrev eD (i d:Nat) (m:dy) :da:=⟨i,some d,none,.fy m,[],false⟩
abbrev xe (i:Nat) (m:dy) :da:=⟨i,none,none,.fy m,[],false⟩
abbrev sc (i d:Nat) (f:cj) (args:List aY) :da:=⟨i,some d,none,.lc f args,[],false⟩
abbrev uC (i d j:Nat) (w:Bool) (m:dy) :da:=⟨i,some d,some (some j,w),.fy m,[],false⟩
@[simp] theorem acq (n:Nat) (c:U) :(bZ n c).length=n:=by simp[bZ]
def u {w:Nat} (a:BitVec w) :Int:=(a.toNat:Int)
@[simp] theorem qR {w:Nat} (a:BitVec w) :BitVec.ofInt w (u a)=a:=by unfold u;rw[nX,EX,BitVec.setWidth_eq]
@[simp] theorem hY {w:Nat} (a b:BitVec w) :(u a=u b)<->a=b:=⟨fun h=>e2 (by unfold u at h;exact Int.ofNat_inj.1 h),fun h=>by rw[h]⟩
@[simp] theorem acZ {w:Nat} (a b:BitVec w) :(u a<u b)<->a<b:=by unfold u;rw[Int.ofNat_lt];rfl
@[simp] theorem acY {w:Nat} (a b:BitVec w) :(u a<=u b)<->a<=b:=by unfold u;rw[Int.ofNat_le];rfl
@[simp] theorem ac0 {w:Nat} (a:BitVec w) :0<=u a:=AN _
@[simp] theorem ac1 {w:Nat} (a:BitVec w) :(u a).toNat=a.toNat:=fm _
@[simp] theorem ab9 {w:Nat} (a b:Int) :BitVec.ofInt w (a - b)=BitVec.ofInt w a - BitVec.ofInt w b:=by rw[Int.sub_eq_add_neg,BitVec.ofInt_add,BitVec.ofInt_neg,BitVec.sub_eq_add_neg]
attribute [simp] BitVec.ofInt_add BitVec.ofInt_mul
theorem uh {w:Nat} (v:Nat) (a:BitVec w) :BitVec.ofInt v (u a)=a.setWidth v:=by unfold u;rw[nX,EX]
section
abbrev a7 (a:BitVec 8) :U:=.int .u8 (u a)
@[simp] theorem YT (n:Int) :IntKind.u8.wrap n=u (BitVec.ofInt 8 n):=by
 have g:(2 ^ IntKind.u8.bits:Int)=256:=by decide
 have h:IntKind.u8.signed=false:=rfl;simp only[IntKind.wrap,g,h,rp,kj,if_false,u,AJ];have:(2 ^ 8:Nat)=256:=by decide
 rw[this];omega
theorem Zo (a:BitVec 8) (k' : cV) (n:Nat) :cx .shl .u8 (u a) k' (n:Int)=some (.int .u8 (u (a <<< n))):=by
 have g:¬((n:Int)<0):=F;show (if (n:Int)<0 then none else some (U.int .u8 (IntKind.u8.wrap ((a.toNat:Int)*2 ^ min (n:Int).toNat 8))))=_;rw[aj g];congr 2;rw[YT,fm];unfold u;congr 1;have:((a.toNat:Int)*2 ^ min n 8)=((a.toNat*2 ^ min n 8:Nat) :Int):=by rw[Int.natCast_mul,u2];rfl
 rw[this,nX,fQ,sZ,n4];rcases fE n 8 with h | h
 ·rw[i7 (kp h)]
 ·rw[va h];have h1:a.toNat*2 ^ 8 % 2 ^ 8=0:=Fp _ _;obtain⟨j,rfl⟩:=Fm h;rw[h1,rz,Fo,Fq]
theorem Zr (a:BitVec 8) (k' : cV) (n:Nat) :cx .shr .u8 (u a) k' (n:Int)=some (.int .u8 (u (a >>> n))):=by
 have g:¬((n:Int)<0):=F;show (if (n:Int)<0 then none else some (U.int .u8 ((a.toNat:Int).fdiv (2 ^ min (n:Int).toNat 8))))=_;rw[aj g];congr 2;rw[fm];unfold u;have:((2:Int) ^ min n 8)=((2 ^ min n 8:Nat) :Int):=by rw[u2];rfl
 rw[this,AM _ (AN _),<-E3,lE,hI];congr 1;rcases fE n 8 with h | h
 ·rw[i7 (kp h)]
 ·rw[va h,qb a.isLt,qb (nb a.isLt (Fr F h))]
end
section
abbrev yu (a:BitVec 16) :U:=.int .u16 (u a)
end
section
abbrev bh (a:BitVec 32) :U:=.int .u32 (u a)
@[simp] theorem uT (n:Int) :IntKind.u32.wrap n=u (BitVec.ofInt 32 n):=by
 have g:(2 ^ IntKind.u32.bits:Int)=4294967296:=by decide
 have h:IntKind.u32.signed=false:=rfl;simp only[IntKind.wrap,g,h,rp,kj,if_false,u,AJ];have:(2 ^ 32:Nat)=4294967296:=by decide
 rw[this];omega
@[simp] theorem ac5 (a:Int) :rf .xor (.int .u32 a)=some (.int .u32 (u (~~~(BitVec.ofInt 32 a)))):=by
 show some (U.int .u32 (IntKind.u32.wrap (u (BitVec.ofInt 32 (4294967295:Int) ^^^ BitVec.ofInt 32 a))))=_;rw[uT,qR];have:BitVec.ofInt 32 (4294967295:Int)=BitVec.allOnes 32:=by decide
 rw[this,BitVec.allOnes_xor]
theorem OE (a:BitVec 32) (k' : cV) (n:Nat) :cx .shl .u32 (u a) k' (n:Int)=some (.int .u32 (u (a <<< n))):=by
 have g:¬((n:Int)<0):=F;show (if (n:Int)<0 then none else some (U.int .u32 (IntKind.u32.wrap ((a.toNat:Int)*2 ^ min (n:Int).toNat 32))))=_;rw[aj g];congr 2;rw[uT,fm];unfold u;congr 1;have:((a.toNat:Int)*2 ^ min n 32)=((a.toNat*2 ^ min n 32:Nat) :Int):=by rw[Int.natCast_mul,u2];rfl
 rw[this,nX,fQ,sZ,n4];rcases fE n 32 with h | h
 ·rw[i7 (kp h)]
 ·rw[va h];have h1:a.toNat*2 ^ 32 % 2 ^ 32=0:=Fp _ _;obtain⟨j,rfl⟩:=Fm h;rw[h1,rz,Fo,Fq]
theorem OG (a:BitVec 32) (k' : cV) (n:Nat) :cx .shr .u32 (u a) k' (n:Int)=some (.int .u32 (u (a >>> n))):=by
 have g:¬((n:Int)<0):=F;show (if (n:Int)<0 then none else some (U.int .u32 ((a.toNat:Int).fdiv (2 ^ min (n:Int).toNat 32))))=_;rw[aj g];congr 2;rw[fm];unfold u;have:((2:Int) ^ min n 32)=((2 ^ min n 32:Nat) :Int):=by rw[u2];rfl
 rw[this,AM _ (AN _),<-E3,lE,hI];congr 1;rcases fE n 32 with h | h
 ·rw[i7 (kp h)]
 ·rw[va h,qb a.isLt,qb (nb a.isLt (Fr F h))]
@[simp] theorem Zm (a:BitVec 32) (k' : cV) (n:Int) (h:0<=n) :cx .shl .u32 (u a) k' n=some (.int .u32 (u (a <<< n.toNat))):=by obtain⟨g,rfl⟩:=m6 h;exact OE a k' g
@[simp] theorem Zp (a:BitVec 32) (k' : cV) (n:Int) (h:0<=n) :cx .shr .u32 (u a) k' n=some (.int .u32 (u (a >>> n.toNat))):=by obtain⟨g,rfl⟩:=m6 h;exact OG a k' g
@[simp] theorem OD (a b:BitVec 32) (h:b≠0#32) :cx .rem .u32 (u a) .u32 (u b)=some (.int .u32 (u (a % b))):=by
 have g:(b.toNat:Int)≠0:=fun e=>h (e2 (by simpa using e))
 show (if IntKind.u32=IntKind.u32/\(b.toNat:Int)≠0 then some (U.int .u32 ((a.toNat:Int).tmod b.toNat)) else none)=_;rw[ak ⟨rfl,g⟩];unfold u;rw[m5];rfl
@[simp] theorem Zt (a b:Int) :cx .xor .u32 a .u32 b=some (.int .u32 (u (BitVec.ofInt 32 a ^^^ BitVec.ofInt 32 b))):=by show some (U.int .u32 (IntKind.u32.wrap (u (BitVec.ofInt 32 a ^^^ BitVec.ofInt 32 b))))=_;rw[uT,qR]
@[simp] theorem Zk (a b:Int) :cx .or .u32 a .u32 b=some (.int .u32 (u (BitVec.ofInt 32 a ||| BitVec.ofInt 32 b))):=by show some (U.int .u32 (IntKind.u32.wrap (u (BitVec.ofInt 32 a ||| BitVec.ofInt 32 b))))=_;rw[uT,qR]
@[simp] theorem Y7 (a b:Int) :cx .and .u32 a .u32 b=some (.int .u32 (u (BitVec.ofInt 32 a &&& BitVec.ofInt 32 b))):=by show some (U.int .u32 (IntKind.u32.wrap (u (BitVec.ofInt 32 a &&& BitVec.ofInt 32 b))))=_;rw[uT,qR]
end
section
abbrev c7 (a:BitVec 64) :U:=.int .u64 (u a)
@[simp] theorem uU (n:Int) :IntKind.u64.wrap n=u (BitVec.ofInt 64 n):=by
 have g:(2 ^ IntKind.u64.bits:Int)=18446744073709551616:=by decide
 have h:IntKind.u64.signed=false:=rfl;simp only[IntKind.wrap,g,h,rp,kj,if_false,u,AJ];have:(2 ^ 64:Nat)=18446744073709551616:=by decide
 rw[this];omega
theorem Gf (a:BitVec 64) (k' : cV) (n:Nat) :cx .shl .u64 (u a) k' (n:Int)=some (.int .u64 (u (a <<< n))):=by
 have g:¬((n:Int)<0):=F;show (if (n:Int)<0 then none else some (U.int .u64 (IntKind.u64.wrap ((a.toNat:Int)*2 ^ min (n:Int).toNat 64))))=_;rw[aj g];congr 2;rw[uU,fm];unfold u;congr 1;have:((a.toNat:Int)*2 ^ min n 64)=((a.toNat*2 ^ min n 64:Nat) :Int):=by rw[Int.natCast_mul,u2];rfl
 rw[this,nX,fQ,sZ,n4];rcases fE n 64 with h | h
 ·rw[i7 (kp h)]
 ·rw[va h];have h1:a.toNat*2 ^ 64 % 2 ^ 64=0:=Fp _ _;obtain⟨j,rfl⟩:=Fm h;rw[h1,rz,Fo,Fq]
theorem qr (a:BitVec 64) (k' : cV) (n:Nat) :cx .shr .u64 (u a) k' (n:Int)=some (.int .u64 (u (a >>> n))):=by
 have g:¬((n:Int)<0):=F;show (if (n:Int)<0 then none else some (U.int .u64 ((a.toNat:Int).fdiv (2 ^ min (n:Int).toNat 64))))=_;rw[aj g];congr 2;rw[fm];unfold u;have:((2:Int) ^ min n 64)=((2 ^ min n 64:Nat) :Int):=by rw[u2];rfl
 rw[this,AM _ (AN _),<-E3,lE,hI];congr 1;rcases fE n 64 with h | h
 ·rw[i7 (kp h)]
 ·rw[va h,qb a.isLt,qb (nb a.isLt (Fr F h))]
@[simp] theorem Zn (a:BitVec 64) (k' : cV) (n:Int) (h:0<=n) :cx .shl .u64 (u a) k' n=some (.int .u64 (u (a <<< n.toNat))):=by obtain⟨g,rfl⟩:=m6 h;exact Gf a k' g
@[simp] theorem Zq (a:BitVec 64) (k' : cV) (n:Int) (h:0<=n) :cx .shr .u64 (u a) k' n=some (.int .u64 (u (a >>> n.toNat))):=by obtain⟨g,rfl⟩:=m6 h;exact qr a k' g
@[simp] theorem tq (a b:BitVec 64) (h:b≠0#64) :cx .rem .u64 (u a) .u64 (u b)=some (.int .u64 (u (a % b))):=by
 have g:(b.toNat:Int)≠0:=fun e=>h (e2 (by simpa using e))
 show (if IntKind.u64=IntKind.u64/\(b.toNat:Int)≠0 then some (U.int .u64 ((a.toNat:Int).tmod b.toNat)) else none)=_;rw[ak ⟨rfl,g⟩];unfold u;rw[m5];rfl
@[simp] theorem Zu (a b:Int) :cx .xor .u64 a .u64 b=some (.int .u64 (u (BitVec.ofInt 64 a ^^^ BitVec.ofInt 64 b))):=by show some (U.int .u64 (IntKind.u64.wrap (u (BitVec.ofInt 64 a ^^^ BitVec.ofInt 64 b))))=_;rw[uU,qR]
@[simp] theorem Zl (a b:Int) :cx .or .u64 a .u64 b=some (.int .u64 (u (BitVec.ofInt 64 a ||| BitVec.ofInt 64 b))):=by show some (U.int .u64 (IntKind.u64.wrap (u (BitVec.ofInt 64 a ||| BitVec.ofInt 64 b))))=_;rw[uU,qR]
@[simp] theorem F3 (a b:Int) :cx .and .u64 a .u64 b=some (.int .u64 (u (BitVec.ofInt 64 a &&& BitVec.ofInt 64 b))):=by show some (U.int .u64 (IntKind.u64.wrap (u (BitVec.ofInt 64 a &&& BitVec.ofInt 64 b))))=_;rw[uU,qR]
end
@[simp] theorem ZN (a:BitVec 8) :BitVec.ofInt 32 (u a)=a.setWidth 32:=uh 32 a
@[simp] theorem ZO (a:BitVec 8) :BitVec.ofInt 64 (u a)=a.setWidth 64:=uh 64 a
@[simp] theorem ZK (a:BitVec 32) :BitVec.ofInt 8 (u a)=a.setWidth 8:=uh 8 a
@[simp] theorem ZJ (a:BitVec 32) :BitVec.ofInt 64 (u a)=a.setWidth 64:=uh 64 a
@[simp] theorem ZM (a:BitVec 64) :BitVec.ofInt 8 (u a)=a.setWidth 8:=uh 8 a
@[simp] theorem ZL (a:BitVec 64) :BitVec.ofInt 32 (u a)=a.setWidth 32:=uh 32 a
@[simp] theorem ac2 {w:Nat}:u (0#w)=0:=by simp[u]
theorem By (k:Nat) (c:Int) (j:0<c) (hk:k<9223372036854775808) :cx .quo .i64 (k:Int) .i64 c=some (.int .i64 ((k / c.toNat:Nat) :Int)):=by obtain⟨g,rfl⟩:=m6 (Int.le_of_lt j);have m:(g:Int)≠0:=F;show (if IntKind.i64=IntKind.i64/\(g:Int)≠0 then some (U.int .i64 (IntKind.i64.wrap ((k:Int).tdiv g))) else none)=_;rw[ak ⟨rfl,m⟩,fm];have:((k:Int).tdiv g)=((k / g:Nat) :Int):=rfl;have h:=Fk k g;rw[this];generalize k / g=q at h;rw[wrap_i64 F F]
theorem tp (k:Nat) (c:Int) (h:0<c) :cx .rem .i64 (k:Int) .i64 c=some (.int .i64 ((k % c.toNat:Nat) :Int)):=by obtain⟨g,rfl⟩:=m6 (Int.le_of_lt h);have j:(g:Int)≠0:=F;show (if IntKind.i64=IntKind.i64/\(g:Int)≠0 then some (U.int .i64 ((k:Int).tmod g)) else none)=_;rw[ak ⟨rfl,j⟩,fm];rfl
theorem Ku (k:cV) (w n:Nat) :bZ n (.int k 0)=(List.replicate n (0#w)).map fun x=>.int k (u x):=by simp[bZ]
theorem mh {alZ:Type} (f:alZ->U) (l:List alZ) (i:Nat) (x:alZ) (h:i<l.length) :aw (l.map f) i [f x]=(l.set i x).map f:=by unfold aw;rw[rv,ak h];simp
theorem mg {cs vs:ag} (h:vs.length=cs.length) :aw cs 0 vs=vs:=by unfold aw;rw[hJ,m9,h0,h,AQ,eK]
theorem aR {l:ad} {c c' : U} (h:c=c') (g:c'.ar=true) :Rd l c c':=by subst h;exact .same _ g
theorem aL {l:ad} {c c' : U} (h:c=c':=by exact rfl) (g:c'.ar=true:=by exact rfl) :Rd l c c':=aR h g
theorem al {alZ:Sort _} (a:alZ) :∃ x,x=a:=⟨a,rfl⟩
theorem cf {k:Nat} (h:k<4611686018427387904) :IntKind.i64.wrap ((k:Int)+1)=((k+1:Nat) :Int):=by rw[IntKind.wrap_i64];omega
theorem tK {alZ:Type} {z:Nat}:∀ (es:List (List alZ)),(∀ e∈es,e.length=z)->∀ (i j:Nat) (e:List alZ) (c:alZ),es[i]?=some e->e[j]?=some c->es.flatten[i*z+j]?=some c:=by
 intro es o
 induction es with
 | nil=>intro i j e c g;simp at g
 | cons x es p=>
  intro i j e c g h;have m:x.length=z:=o x V;cases i with
  | zero=>
   simp only[hn,bc] at g;subst g;rw[hG,ta,hJ,aU (aK.1 h).1];exact h
  | succ i=>
   simp only[jr] at g;rw[hG,eu (by rw[m,ek];omega),m,show (i+1)*z+j - z=i*z+j by rw[ek];omega];exact p (fun e g=>o e (by simp[g])) i j e c g h
inductive pd (l:ad) :ag->ag->Prop
 | nil:pd l [] []
 | cons {c g cs h}:fp (aZ l) c g->pd l cs h->pd l (c::cs) (g::h)
theorem pd.len {l:ad}:∀ {a b:ag},pd l a b->b.length=a.length
 | _,_,.nil=>rfl
 | _,_,.cons _ h=>by simp[h.len]
theorem pd.get {l:ad}:∀ {a b:ag},pd l a b->∀ (j:Nat) (c c' : U),a[j]?=some c->b[j]?=some c'->fp (aZ l) c c'
 | _,_,.nil,j,c,c',h,_=>by simp at h
 | _,_,.cons h1 g,j,c,c',h,h'=>by
  cases j with
  | zero=>simp at h h';subst h h';exact h1
  | succ j=>exact g.get j c c' (by simpa using h) (by simpa using h')
theorem iC {P:bq} {G:Nat->U} {f:cj} {args g:ag} {r:U} {l:ad} {K:U->ad->Prop} (o:i9 P G f g r) (j:pd l args g) (m:r.flat=true) (h:K r l) :fS P G f args l (c:=⟨K⟩):=
 ⟨r,l,.JP o j.len j.get m,aN _,h⟩
theorem JR {P:bq} {G:Nat->U} {f:cj} {args g:ag} {r:U} {l:ad} {K:U->ad->Prop} (m:nh P G f g r) (j:pd l args g) (h:K r l) :fS P G f args l (c:=⟨K⟩):=
 ⟨r,l,.JQ m j.len j.get,aN _,h⟩
inductive js (l:ad) :U->U->Prop
 | flat (c:U) (h:c.flat=true) :js l c c
 | af (cs o:ag) (u:o.length=cs.length) (h:∀ (m:Nat) (c j:U),cs[m]?=some c->o[m]?=some j->js l c j) :js l (.af cs) (.af o)
 | a1 (cs o:ag) (u:o.length=cs.length) (h:∀ (m:Nat) (c j:U),cs[m]?=some c->o[m]?=some j->js l c j) :js l (.a1 cs) (.a1 o)
 | Z (g b p len cap t:Nat) (cs:ag) (q:List (ag)) (v:l[b]?=some (.cells t cs)) (u:q.length=len) (z:∀ e∈q,e.length=g)
   (w:p+len*g<=cs.length)
   (h:∀ (i m:Nat) (e:ag) (c j:U),q[i]?=some e->e[m]?=some j->cs[p+(i*g+m)]?=some c->js l c j) :js l (.Z g b p len cap t) (.bu g q)
 | sG (g b p cap t:Nat) :js l (.Z g b p 0 cap t) (.bu g [])
 | eI (g:Nat) :js l (.bu g []) (.bu g [])
theorem VM {w:aT} {R:Nat->Prop} {B:Nat} {l:ad} {muZ:b3} (rel:bC R B w (aZ l) muZ) :∀ {c c' : U},js l c c'->∀ {v:aD},aA w R (aZ l) muZ c v->dg w (fun k=>B<=k) c' v:=by
 intro c c' au
 induction au with
 | flat c h=>intro v j;exact Hw j h
 | af cs Q q h K=>
  intro v j;cases j with
  | af _ W aq h1 j=>
   refine .af Q W F h1 (fun g c' v o V=>?_);have t:g<cs.length:=by rw[<-q];exact (aK.1 o).1
   exact K g cs[g] c' (bK t) o (j g cs[g] v (bK t) V)
 | a1 cs Q q h K=>
  intro v j;cases j with
  | a1 _ W aq j=>
   refine .a1 Q W F (fun g c' v o V=>?_);have t:g<cs.length:=by rw[<-q];exact (aK.1 o).1
   exact K g cs[g] c' (bK t) o (j g cs[g] v (bK t) V)
 | sG z b C cap aj=>
  intro v j;cases j with
  | Z _ _ _ _ _ _ cap' cs m S P q ar O=>exact .eI z _ cap'
  | fc _ _ _ _ _ _ cap' a q O u=>exact .eI z _ cap'
  | gu _ _ _ _ a cs m S P=>exact .eI z a 0
 | eI z=>
  intro v j;generalize I:([] :List (ag))=D at j;generalize al:U.bu z D=aw at j;cases j<;>cases al
  ·subst I;exact .eI z _ _
  ·exact .eI z _ _
 | Z z b C len cap aj cs D S q ai aE h K=>
  intro v j;have H:(aZ l).f b=.cells aj cs:=hK.2 S;cases j with
  | gu _ _ _ _ a X m T aG=>
   obtain rfl:=hp.1 q;exact .eI z a 0
  | fc _ _ _ _ _ _ cap' a q O u=>
   exfalso;rcases u with u | ⟨n,X,u,t⟩
   ·rw[H] at u;cases u
   ·rw[H] at u;cases u;omega
  | Z _ _ _ _ _ _ cap' X m T P aF ar O=>
   rw[H] at T;cases T;have hblk:=rel.blk b m P;rw[H] at hblk;obtain⟨aB,ay,arr,aH,ax,av,az,aC,ao⟩:=hblk;have am:len<=cap':=by rcases O with ⟨_,h⟩ | ⟨_,h,_⟩<;>omega
   have ak:B<=m.r:=rel.base b m (by rw[H];rfl) P;subst q;have ah:∀ i g,i<D.length->g<z->∃ c v,cs[C+(i*z+g)]?=some c/\arr[m.s+(C+(i*z+g))]?=some v/\v.oneCell'=true/\aA w R (aZ l) muZ c v:=by
    intro i g J o;have t:C+(i*z+g)<cs.length:=by
     have:i*z+z<=D.length*z:=by rw[<-ek];exact ck _ J
     omega
    obtain⟨v,h1,p,G⟩:=ao _ _ (bK t);exact⟨_,v,bK t,h1,p,G⟩
   refine .bu z D m.r (m.s+C) cap' (fun i g=>(arr[m.s+(C+(i*z+g))]?).getD undef) am ai (fun i g J o=>?_) (fun i e I g c' o=>?_)
   ·obtain⟨c,v,h1,p,G,Y⟩:=ah i g J o;refine⟨?_,?_,ak,fun ⟨b,m,h1,p,G⟩=>by cases p⟩
    ·simp only[World.cell?,av,p,g6,rA];rw[show m.s+C+(i*z+g)=m.s+(C+(i*z+g)) by omega,p];rfl
    ·rw[p];exact G
   ·have J:i<D.length:=(aK.1 I).1;have ap:g<z:=by rw[<-ai e (cJ I)];exact (aK.1 o).1
    obtain⟨c,v,h1,p,G,Y⟩:=ah i g J ap;simp only[p,g6];exact K i g e c c' I o h1 Y
theorem wY {P:bq} {G:Nat->U} (u:P.follows .mixedOrders=true) (o:∀ g,(G g).ar=true) {f:cj} {args:ag} {r:U} (h:fS P G f args [] (c:=⟨fun j l=>js l j r⟩)) :nh P G f args r:=by obtain⟨j,D,h1,C,m⟩:=h;intro w A F q t z;refine (EC (A:=A) u o h1 q t z).mono ?_;rintro e w' ⟨B,muZ',rfl,p,rel,v⟩;exact⟨B,rfl,p,VM rel m v⟩
theorem Kj {l:ad} {z b n cap sz:Nat} {es:List (ag)} {rest:ag} (t:l[b]?=some (.cells sz (es.flatten++rest))) (q:es.length=n) (j:∀ e∈es,e.length=z) (u:∀ e∈es,kE e=true) :js l (.Z z b 0 n cap sz) (.bu z es):=by
 have p:=hw (z:=z) (es:=es) (fun e g=>j e g);refine .Z z b 0 n cap sz _ es t q j (by rw[cF,p,q];omega) (fun i h e c c' g m o=>?_);have v:i<es.length:=(aK.1 g).1;have B:h<z:=by rw[<-j e (cJ g)];exact (aK.1 m).1
 have w:i*z+h<es.flatten.length:=by
  rw[p];have:i*z+z<=es.length*z:=by rw[<-ek];exact ck _ v
  omega
 have h1:es.flatten[i*z+h]?=some c':=tK es j i h e c' g m;rw[hJ,aU w,h1] at o;cases o;exact .flat _ (yE (u e (cJ g)) h _ m)
theorem Kg {l:ad} {c:U} (h:c.ar=true) :fp (aZ l) c c:=.same c h
@[simp] theorem aaw (n z:Nat) (cs:ag) (k:cV) (i:Int) :yU n z (.af cs) (.int k i)=if 0<=i/\i<n then cs[i.toNat*z]? else none:=id rfl
@[simp] theorem tR (s:List UInt8) (k:cV) (i:Int) :tP (.str s) (.int k i)=if 0<=i then (s[i.toNat]?).map hs else none:=id rfl
theorem WN {alZ:Type} {l:List alZ} {i:Nat} {x:alZ} (h:l[i]?=some x) :l.set i x=l:=by obtain⟨g,rfl⟩:=aK.1 h;exact A1 g
theorem jw {alZ:Type} (f:alZ->U) (g:∀ x,(f x).ar=true) :∀ l:List alZ,aq (l.map f)=true
 | []=>rfl
 | x::l=>by simp only[di,aq,g,jw f g l,k1]
theorem GC {alZ:Type} (f:alZ->U) (g:∀ x,(f x).ar=true) (l:List alZ) :(U.af (l.map f)).ar=true:=by simp only[U.ar];exact jw f g l
theorem tJ {alZ:Type} (f:alZ->U) (g:∀ x,(f x).flat=true) :∀ l:List alZ,kE (l.map f)=true
 | []=>rfl
 | x::l=>by simp only[di,kE,g,tJ f g l,k1]
theorem Hv {alZ:Type} (f:alZ->U) (g:∀ x,(f x).flat=true) (l:List alZ) :(U.af (l.map f)).flat=true:=by simp only[U.flat];exact tJ f g l
@[simp] theorem Zv (z:Nat) :rM (.Z z) .ae=some (.int .i64 0):=id rfl
@[simp] theorem acP (z:Nat) (k:cV) :dw (.Z z) .ae none (some (.int k 0)) none=some .ae:=id rfl
theorem q7 (z b off len cap sz:Nat) (h g j:Option U) :dw (.Z z) (.Z z b off len cap sz) h g j=(e5 len cap h g j).map fun (l,o,m)=>if m=l then .Z z b (off+l*z) 0 0 sz else .Z z b (off+l*z) (o - l) (m - l) sz:=by simp[dw]
theorem zo {alZ:Type} {l:List alZ} {a:alZ} (h:l[0]?=some a) :∃ r,l=a::r:=by
 cases l with
 | nil=>simp at h
 | cons x l=>simp at h;subst h;exact⟨l,rfl⟩
theorem XQ {alZ:Type} {l:List alZ} {b:alZ} (h:l[1]?=some b) :∃ a r,l=a::b::r:=by
 cases l with
 | nil=>simp at h
 | cons x l=>obtain⟨r,rfl⟩:=zo (l:=l) (by simpa using h);exact⟨x,r,rfl⟩
theorem ut (zero:ag) (n:Nat) :(c3 zero n).length=n*zero.length:=by
 induction n with
 | zero=>simp[c3]
 | succ n g=>simp[c3,g,ek,rx]
theorem w8 (zero:ag) (n:Nat) :c3 zero n=(List.replicate n zero).flatten:=by
 induction n with
 | zero=>rfl
 | succ n g=>rw[c3,g,k4,hG]
inductive aE (z:Nat) (l:ad) :U->Nat->List (ag)->Prop
 | nil (g:Nat) :aE z l .ae g []
 | Z (g n cap j:Nat) (cs:ag) (h:List (ag)) (m:l[g]?=some (.cells j cs)) (t:cs.length=j) (u:h.length=n) (v:∀ e∈h,e.length=z) (o:n<=cap) (p:cap*z<=j)
   (q:cs.take (n*z)=h.flatten) :aE z l (.Z z g 0 n cap j) g h
def bo:U->Bool | .ae=>true | _=>false
theorem gm {v:U}:bo v=true<->v=.ae:=by cases v<;>simp[bo]
theorem qG {alZ:Type} {v g:U} {xs:List alZ} (h:g=.ae<->v=.ae/\xs=[]) :bo g=(bo v&&xs.isEmpty):=by rw[xE,gm,h,bU,gm,xK]
def pP (z:Nat) (v:U) (es:List (ag)) :U:=match bo v with | true=>.ae | false=>.bu z es
section
variable {z:Nat} {l l' : ad} {v:U} {j:Nat} {es:List (ag)}
theorem aE.lt (h:aE z l v j es) :v=.ae\/j<l.length:=by
 cases h with
 | nil j=>exact .inl rfl
 | Z j n cap m cs es g=>exact .inr (aX g)
theorem aE.row (h:aE z l v j es) :∀ e∈es,e.length=z:=by
 cases h with
 | nil j=>intro e g;cases g
 | Z j n cap t cs es o p q m=>exact m
theorem aE.cells (h:aE z l v j es) :v.cells=some [v]:=by cases h<;>rfl
theorem aE.len (h:aE z l v j es) :bz (.Z z) v=some (.int .i64 es.length):=by
 cases h with
 | nil j=>rfl
 | Z j n cap p cs es m o g=>subst g;rfl
theorem aE.frame (h:aE z l v j es) (q:j<l.length->l'[j]?=l[j]?) :aE z l' v j es:=by
 cases h with
 | nil j=>exact .nil j
 | Z j n cap B cs es g t u w m o p=>exact .Z j n cap B cs es (by rw[q (aX g)];exact g) t u w m o p
theorem aE.cl (h:aE z l v j es) (g:v=.ae\/l'[j]?=l[j]?) :aE z l' v j es:=by
 cases h with
 | nil j=>exact .nil j
 | Z j n cap B cs es m t u w o p q=>
  rcases g with g | g
  ·cases g
  ·exact .Z j n cap B cs es (by rw[g];exact m) t u w o p q
theorem aE.more (h:aE z l v j es) (x:ad) :aE z (l++x) v j es:=h.frame fun g=>aU g
theorem aE.contents (h:aE z l v j es) :cr l z v=some (es.flatten,es.length):=by
 cases h with
 | nil j=>rfl
 | Z j n cap w cs es g t o u p q m=>subst o;simp only[cr,g,and_self,if_true,lG,m]
theorem aE.Ki (h:aE z l v j es) (o:∀ e∈es,kE e=true) :js l v (pP z v es):=by
 cases h with
 | nil j=>exact .flat _ rfl
 | Z j n cap B cs es g w p q t u m=>
  show js l _ (.bu z es);refine Kj (rest:=cs.drop (n*z)) ?_ p q o;rw[g,<-m,i4]
theorem aE.oR (h:aE z l v j es) (B:∀ e∈es,aq e=true) :fp (aZ l) v (pP z v es):=by
 cases h with
 | nil j=>exact .same _ rfl
 | Z j n cap H cs es q D p m t u w=>
  show fp (aZ l) _ (.bu z es);have J:n*z<=cs.length:=by rw[D];exact dC (ck _ t) u
  refine .Z z j 0 n cap H cs es (hK.2 q) p m F (fun i k e c c' g hk o=>?_);have C:i<es.length:=(aK.1 g).1;have I:k<z:=by rw[<-m e (cJ g)];exact (aK.1 hk).1
  have G:i*z+k<n*z:=by
   have:i*z+z<=es.length*z:=by rw[<-ek];exact ck _ C
   rw[p] at this;omega
  have h1:es.flatten[i*z+k]?=some c':=tK es m i k e c' g hk;rw[<-w,dS G] at h1;rw[hJ,h1] at o;cases o;exact .same _ (rP (B e (cJ g)) k _ hk)
theorem zP {l:ad} {z b n cap sz:Nat} {es:List (ag)} {rest:ag} (t:l[b]?=some (.cells sz (es.flatten++rest))) (q:es.length=n) (h:∀ e∈es,e.length=z) (u:∀ e∈es,aq e=true) :fp (aZ l) (.Z z b 0 n cap sz) (.bu z es):=by
 have p:=hw (z:=z) (es:=es) (fun e g=>h e g);refine .Z z b 0 n cap sz _ es (hK.2 t) q h (by rw[cF,p,q];omega) (fun i j e c c' g m o=>?_);have v:i<es.length:=(aK.1 g).1;have B:j<z:=by rw[<-h e (cJ g)];exact (aK.1 m).1
 have w:i*z+j<es.flatten.length:=by
  rw[p];have:i*z+z<=es.length*z:=by rw[<-ek];exact ck _ v
  omega
 have h1:es.flatten[i*z+j]?=some c':=tK es h i j e c' g m;rw[hJ,aU w,h1] at o;cases o;exact .same _ (rP (u e (cJ g)) j _ m)
theorem FR (h:aE z l v j es) {by_ m:Nat} {xs:List (ag)} (t:xs.length=m) (Q:∀ e∈xs,e.length=z) (ah:z≠0) (ai:by_≠0) (P:(es.length+m)*by_<=dk) :
  ∃ J I l',hr l z by_ v xs.flatten m=some (J,l')/\aE z l' J I (es++xs)/\l.length<=l'.length/\(∀ b,b<l.length->b≠j->l'[b]?=l[b]?)/\(I=j\/l.length<=I)/\(J=.ae<->v=.ae/\xs=[]):=by
 by_cases u:m=0
 ·have H:xs=[]:=hp.1 F;subst H;refine⟨v,j,l,?_,by simpa using h,aN _,fun _ _ _=>rfl,.inl rfl,V⟩;unfold hr;rw[ak u];cases h<;>rfl
 have g:xs.flatten.length=m*z:=by rw[hw Q,t]
 have w:∀ e∈es++xs,e.length=z:=fun e U=>by
  rcases fx.1 U with h1 | h1
  ·exact h.row e h1
  ·exact Q e h1
 have Y:xs≠[]:=fun H=>u (by rw[<-t,H];rfl)
 cases h with
 | nil j=>
  refine⟨.Z z l.length 0 m m (m*z),l.length,l++[.cells (m*z) xs.flatten],?_,?_,V,fun b q _=>aU q,.inr (aN _),by simp[Y]⟩
  ·unfold hr;rw[aj u,aj F];simp only;rw[ak (by simpa using P)]
  ·refine .Z _ _ _ _ xs.flatten _ V g (by simpa using t) w (aN _) (aN _) ?_;rw[aH F];rfl
 | Z j n cap p cs es q al X ad S T K=>
  subst X;have am:es.length*z<=cap*z:=ck _ S;have G:(es++xs).length=es.length+m:=by simp[t]
  have D:(es++xs).flatten=es.flatten++xs.flatten:=V;have o:es.flatten.length=es.length*z:=hw ad;have R:hr l z by_ (.Z z j 0 es.length cap p) xs.flatten m =
    if es.length+m<=cap then some (.Z z j 0 (es.length+m) cap p,l.set j (.cells p (aw cs (es.length*z) xs.flatten)))
    else if cap*z<p then some (.Z z l.length 0 (es.length+m) (es.length+m) ((es.length+m)*z),l++[.cells ((es.length+m)*z) (es.flatten++xs.flatten)])
    else some (.Z z j 0 (es.length+m) (es.length+m) ((es.length+m)*z),l.set j (.cells ((es.length+m)*z) (es.flatten++xs.flatten))):=by
   unfold hr;rw[aj u,aj F];simp only[q];rw[ak ⟨trivial,trivial,P⟩];simp only[hJ,lG,K,if_true]
  rw[R];have O:=aX q;split
  ·rename_i h1;have W:(es.length+m)*z<=cap*z:=ck _ h1;rw[eP] at W;refine⟨_,j,_,rfl,?_,V,fun b B C=>by rw[bg (fun e=>C e.symm)],.inl rfl,V⟩;refine .Z j _ cap p (aw cs (es.length*z) xs.flatten) _ (by rw[bV O]) ?_ G w h1 T ?_
   ·rw[oV F];omega
   ·rw[D];unfold aw;rw[K,ik (by simp[o,g,eP]),aH (by simp[o,g,eP])]
  ·split
   ·refine⟨_,l.length,_,rfl,?_,V,fun b B _=>aU B,.inr (aN _),V⟩;refine .Z _ _ _ _ (es.flatten++xs.flatten) _ V (by simp[o,g,eP]) G w (aN _) (aN _) ?_;rw[D,aH (by simp[o,g,eP])]
   ·refine⟨_,j,_,rfl,?_,V,fun b B C=>by rw[bg (fun e=>C e.symm)],.inl rfl,V⟩;refine .Z j _ _ _ (es.flatten++xs.flatten) _ (by rw[bV O]) (by simp[o,g,eP]) G w (aN _) (aN _) ?_;rw[D,aH (by simp[o,g,eP])]
theorem lR (h:aE z l v j es) {by_:Nat} {x:U} {xs:List (ag)} (t:cr l z x=some (xs.flatten,xs.length)) (u:∀ e∈xs,e.length=z) (o:z≠0) (p:by_≠0) (q:(es.length+xs.length)*by_<=dk) :
  ∃ m g l',ea l z by_ v x=some (m,l')/\aE z l' m g (es++xs)/\l.length<=l'.length/\(∀ b,b<l.length->b≠j->l'[b]?=l[b]?)/\(g=j\/l.length<=g)/\(m=.ae<->v=.ae/\xs=[]):=by unfold ea;rw[t];exact FR h rfl u o p q
theorem N9 (h:aE z l v j es) {by_ n:Nat} {k:cV} {zero:ag} (B:zero.length=z) (q:z≠0) (u:by_≠0) (C:n<9223372036854775808) (p:(es.length+n)*by_<=dk) :
  ∃ o g l',og l z by_ zero v (.int k (n:Int))=some (o,l')/\aE z l' o g (es++List.replicate n zero)/\l.length<=l'.length/\(∀ b,b<l.length->b≠j->l'[b]?=l[b]?)/\(g=j\/l.length<=g)/\(o=.ae<->v=.ae/\n=0):=by have:=FR h (xs:=List.replicate n zero) (m:=n) V (fun e w=>by rw[(List.mem_replicate.1 w).2,B]) q u p;obtain⟨o,g,l',h1,t⟩:=this;refine⟨o,g,l',?_,by simpa [List.replicate_eq_nil_iff] using t⟩;unfold og;simp only[fm];rw[ak ⟨F,F,by have:=dC (ck by_ (Nat.le_add_left n es.length)) p;exact this⟩,w8];exact h1
theorem Od {l:ad} {z by_ n:Nat} {v u:U} {xs:ag} {pre rest:ad} {l' : ad} (p:v=.ae\/∃ j n cap sz,v=.Z z j 0 n cap sz/\pre.length<=j) (h:hr (pre++rest) z by_ v xs n=some (u,l')) :
  ∃ V1,l'=pre++V1:=by
 unfold hr at h;by_cases o:n=0
 ·rw[ak o] at h;rcases p with rfl | ⟨j,t,cap,sz,rfl,g⟩<;>(cases h;exact⟨_,rfl⟩)
 rw[aj o] at h;by_cases m:z=0\/by_=0
 ·rw[ak m] at h;cases h
 rw[aj m] at h;rcases p with rfl | ⟨j,t,cap,sz,rfl,g⟩
 ·simp only at h;split at h
  ·cases h;exact⟨_,by rw[hl]⟩
  ·cases h
 ·simp only at h;split at h
  ·split at h
   ·split at h
    ·cases h;exact⟨_,by rw[o6 _ _ g]⟩
    ·split at h
     ·cases h;exact⟨_,by rw[hl]⟩
     ·split at h
      ·cases h;exact⟨_,by rw[o6 _ _ g]⟩
      ·rename_i q;exact bW trivial q
   ·cases h
  ·cases h
theorem rK {z by_:Nat} {v:U} {j:Nat} {es:List (ag)} {pre rest:ad} (h:aE z (pre++rest) v j es) (t:v=.ae\/pre.length<=j) {x:U} {xs:List (ag)} (C:cr (pre++rest) z x=some (xs.flatten,xs.length)) (O:∀ e∈xs,e.length=z) (F:z≠0) (H:by_≠0)
  (J:(es.length+xs.length)*by_<=dk) :
  ∃ m o p,ea (pre++rest) z by_ v x=some (m,pre++p)/\aE z (pre++p) m o (es++xs)/\(m=.ae\/pre.length<=o)/\bo m=(bo v&&xs.isEmpty):=by
 have I:v=.ae\/∃ j n cap u,v=.Z z j 0 n cap u/\pre.length<=j:=by
  cases h with
  | nil j=>exact .inl rfl
  | Z j n cap u cs es=>exact .inr ⟨j,n,cap,u,rfl,t.resolve_left V⟩
 obtain⟨m,o,l',h1,q,P,Q,G,w⟩:=lR h C O F H J;have g:=h1;unfold ea at g;rw[C] at g;obtain⟨p,rfl⟩:=Od (l:=[]) I g;refine⟨m,o,p,h1,q,?_,qG w⟩;rcases G with h | h
 ·rcases t with B | t
  ·by_cases D:xs=[]
   ·exact .inl (w.2 ⟨B,D⟩)
   ·right;subst B;have K:xs.length≠0:=fun e=>D (hp.1 e)
    simp only at g;unfold hr at g;rw[aj K] at g;split at g
    ·cases g
    ·simp only at g;split at g
     ·obtain⟨rfl,_⟩:=ve (cd g);generalize es++xs=E at q;cases q;simp
     ·cases g
  ·right;omega
 ·right;rw[cF] at h;omega
theorem aE.view (h:aE z l v j es) (F:bo v=false) :∃ n cap sz cs,v=.Z z j 0 n cap sz/\l[j]?=some (.cells sz cs)/\cs.length=sz/\es.length=n/\n*z<=sz/\(∀ i e,es[i]?=some e->∀ m,m<z->cs[i*z+m]?=e[m]?)/\cs.take (n*z)=es.flatten:=by
 cases h with
 | nil j=>simp[bo] at F
 | Z j n cap sz cs es q B p G t u g=>
  refine⟨n,cap,sz,cs,rfl,q,B,p,dC (ck _ t) u,fun i e o m D=>?_,g⟩;have w:i<es.length:=(aK.1 o).1;have C:i*z+m<n*z:=by
   have:i*z+z<=es.length*z:=by rw[<-ek];exact ck _ w
   rw[p] at this;omega
  have h1:=ll G o D;rw[<-h1,<-g,dS C]
theorem aE.DG {alZ:Type} {enc:alZ->ag} {xs:List alZ} (h:aE z l v j (xs.map enc)) (m:∀ x,kE (enc x)=true) (s:bX alZ) (o:bo v=s.isNone) (p:s.l=xs) :js l v (b4 z enc s):=by
 have h1:=h.Ki (fun e g=>by obtain⟨x,_,rfl⟩:=cC.1 g;exact m x);subst p;unfold pP at h1;rw[o] at h1;cases s with
 | none=>exact h1
 | some s=>exact h1
theorem aE.nM {alZ:Type} {enc:alZ->ag} {xs:List alZ} (h:aE z l v j (xs.map enc)) (m:∀ x,aq (enc x)=true) (s:bX alZ) (o:bo v=s.isNone) (p:s.l=xs) :fp (aZ l) v (b4 z enc s):=by
 have h1:=h.oR (fun e g=>by obtain⟨x,_,rfl⟩:=cC.1 g;exact m x);subst p;unfold pP at h1;rw[o] at h1;cases s with
 | none=>exact h1
 | some s=>exact h1
end
inductive gS (z:Nat) (l:ad) :U->Nat->List (ag)->Prop
 | nil (g:Nat) :gS z l .ae g []
 | Z (g m n cap j:Nat) (cs:ag) (h:List (ag)) (o:l[g]?=some (.cells j cs)) (u:cs.length=j) (v:h.length=n) (w:∀ e∈h,e.length=z) (p:n<=cap) (q:m+cap*z<=j)
   (t:(cs.drop m).take (n*z)=h.flatten) :gS z l (.Z z g m n cap j) g h
section
variable {z:Nat} {l l' : ad} {v:U} {j:Nat} {es:List (ag)}
theorem aE.q (h:aE z l v j es) :gS z l v j es:=by
 cases h with
 | nil j=>exact .nil j
 | Z j n cap w cs es g p t u m B o=>exact .Z j 0 n cap w cs es g p t u m F (by simpa using o)
theorem gS.len (h:gS z l v j es) :bz (.Z z) v=some (.int .i64 es.length):=by
 cases h with
 | nil j=>rfl
 | Z j p n cap q cs es m o g=>subst g;rfl
theorem gS.oN (h:gS z l .ae j es) :es=[]:=by
 generalize g:U.ae=w at h;cases h with
 | nil j=>rfl
 | Z=>cases g
theorem gS.from (h:gS z l v j es) (I:bo v=false) {k:cV} {i:Nat} (O:i<=es.length) :∃ m,dw (.Z z) v (some (.int k (i:Int))) none none=some m/\gS z l m j (es.drop i)/\bo m=false:=by
 cases h with
 | nil j=>simp[bo] at I
 | Z j S n cap u cs es o q H t B K C=>
  subst H;have Q:i*z+(cap - i)*z=cap*z:=by rw[<-eP];congr 1;omega
  have R:i*z+(es.length - i)*z=es.length*z:=by rw[<-eP];congr 1;omega
  have P:es.length*z<=cap*z:=ck _ B;have J:∀ e∈es.drop i,e.length=z:=fun e g=>t e (u7 g)
  have G:(es.drop i).flatten=(es.flatten).drop (i*z):=by
   have h1:es.flatten=(es.take i).flatten++(es.drop i).flatten:=by rw[<-jq,i4]
   have w:(es.take i).flatten.length=i*z:=by
    rw[hw (z:=z) (fun e g=>t e (gA g)),cL];congr 1;omega
   rw[h1,<-w,E5]
  rw[q7,Gd,ak ⟨F,F⟩];simp only[fm,cz,bc,exists_eq_left'];by_cases p:cap=i
  ·rw[ak p];have D:es.drop i=[]:=p8 F;refine⟨?_,rfl⟩;rw[D];exact .Z j _ 0 0 u cs [] o q rfl V (aN _) F V
  ·rw[aj p];refine⟨.Z j _ _ _ u cs _ o q V J F F ?_,rfl⟩;rw[G,<-C,p9,xG];congr 1;omega
theorem gS.get (h:gS z l v j es) {k:cV} {i:Nat} {e:ag} (g:es[i]?=some e) :∃ p cs o,bO (.Z z) v (.int k (i:Int))=some p/\fN l p=some (cs,o)/\o+z<=cs.length/\(cs.drop o).take z=e:=by
 cases h with
 | nil j=>simp at g
 | Z j t n cap H cs es u O D q w J B=>
  subst D;have C:=(aK.1 g).1;have h1:i*z+z<=es.length*z:=by rw[<-ek];exact ck _ C
  have I:es.length*z<=cap*z:=ck _ w;refine⟨.ptr j (t+i*z) H,cs,t+i*z,?_,?_,F,?_⟩
  ·simp only[bO,fm];rw[ak ⟨trivial,F,F⟩]
  ·simp only[fN,u,if_true]
  ·have K:=q e (cJ g);apply g3;intro G;by_cases m:G<z
   ·rw[dS m,gy,<-ll q g m,<-B,dS F,gy];congr 1;omega
   ·rw[dY (by simp;omega),dY F]
theorem gS.Ki (h:gS z l v j es) (B:∀ e∈es,kE e=true) :js l v (pP z v es):=by
 cases h with
 | nil j=>exact .flat _ rfl
 | Z j q n cap H cs es t D p m u I w=>
  show js l _ (.bu z es);have K:q+n*z<=cs.length:=by rw[D];have:=ck z u;omega
  refine .Z z j q n cap H cs es t p m F (fun i k e c c' g hk o=>?_);have C:i<es.length:=(aK.1 g).1;have J:k<z:=by rw[<-m e (cJ g)];exact (aK.1 hk).1
  have G:i*z+k<n*z:=by
   have:i*z+z<=es.length*z:=by rw[<-ek];exact ck _ C
   rw[p] at this;omega
  have h1:es.flatten[i*z+k]?=some c':=tK es m i k e c' g hk;rw[<-w,dS G,gy] at h1;rw[h1] at o;cases o;exact .flat _ (yE (B e (cJ g)) k _ hk)
theorem gS.oR (h:gS z l v j es) (B:∀ e∈es,aq e=true) :fp (aZ l) v (pP z v es):=by
 cases h with
 | nil j=>exact .same _ rfl
 | Z j q n cap H cs es t D p m u I w=>
  show fp (aZ l) _ (.bu z es);have K:q+n*z<=cs.length:=by rw[D];have:=ck z u;omega
  refine .Z z j q n cap H cs es (hK.2 t) p m F (fun i k e c c' g hk o=>?_);have C:i<es.length:=(aK.1 g).1;have J:k<z:=by rw[<-m e (cJ g)];exact (aK.1 hk).1
  have G:i*z+k<n*z:=by
   have:i*z+z<=es.length*z:=by rw[<-ek];exact ck _ C
   rw[p] at this;omega
  have h1:es.flatten[i*z+k]?=some c':=tK es m i k e c' g hk;rw[<-w,dS G,gy] at h1;rw[h1] at o;cases o;exact .same _ (rP (B e (cJ g)) k _ hk)
theorem gS.rd (h:gS z l v j es) (B:∀ e∈es,aq e=true) :Rd l v (pP z v es):=by
 cases h with
 | nil j=>exact .same _ rfl
 | Z j q n cap H cs es t D p m u I w=>
  show Rd l _ (.bu z es);have K:q+n*z<=cs.length:=by rw[D];have:=ck z u;omega
  refine .Z z j q n cap H cs es t p m F (fun i k e c c' g hk o=>?_);have C:i<es.length:=(aK.1 g).1;have J:k<z:=by rw[<-m e (cJ g)];exact (aK.1 hk).1
  have G:i*z+k<n*z:=by
   have:i*z+z<=es.length*z:=by rw[<-ek];exact ck _ C
   rw[p] at this;omega
  have h1:es.flatten[i*z+k]?=some c':=tK es m i k e c' g hk;rw[<-w,dS G,gy] at h1;rw[h1] at o;cases o;exact .same _ (rP (B e (cJ g)) k _ hk)
theorem gS.gG {alZ:Type} {enc:alZ->ag} {xs:List alZ} (h:gS z l v j (xs.map enc)) (m:∀ x,aq (enc x)=true) (s:bX alZ) (o:bo v=s.isNone) (p:s.l=xs) :Rd l v (b4 z enc s):=by
 have h1:=h.rd (fun e g=>by obtain⟨x,_,rfl⟩:=cC.1 g;exact m x);subst p;unfold pP at h1;rw[o] at h1;cases s with
 | none=>exact h1
 | some s=>exact h1
theorem gS.nM {alZ:Type} {enc:alZ->ag} {xs:List alZ} (h:gS z l v j (xs.map enc)) (m:∀ x,aq (enc x)=true) (s:bX alZ) (o:bo v=s.isNone) (p:s.l=xs) :fp (aZ l) v (b4 z enc s):=by
 have h1:=h.oR (fun e g=>by obtain⟨x,_,rfl⟩:=cC.1 g;exact m x);subst p;unfold pP at h1;rw[o] at h1;cases s with
 | none=>exact h1
 | some s=>exact h1
end
theorem Ot {P:bq} {t:aF} {xs g:ag} {r:Bool} (j:P.eqGuardType P.depth t=false) (h:dL P 10000 t (.af xs) (.af g)=some r) :eb P .eql t (.af xs) (.af g)=some (.bool r):=by simp only[eb,rV,j,rq,if_true,h];rfl
theorem Ou {P:bq} {t:aF} {xs g:ag} {r:Bool} (j:P.eqGuardType P.depth t=false) (h:dL P 10000 t (.af xs) (.af g)=some r) :eb P .neq t (.af xs) (.af g)=some (.bool (!r)):=by simp only[eb,rV,j,rq,if_true,h];rfl
end Go.bl
namespace Go.bl
open Go Go.ChangeShapes Go.RowKit
theorem Um (k:Nat) :¬ Own aM.empty (fun _=>none) k:=by rintro⟨b,h,g,_,_⟩;simp[aM.empty,aM.f,live,cB.get] at g
theorem Rb {q:Type} {enc:aF × aD->q} {P:bq} {w:aT} {base:Nat} {spare:Nat->Bool} {held:Bool} {fuel:Nat} {al:String} {g t e n:Nat} {cs:Array aD} {x:DataW q × List MemPlace} (b5:List Int)
  (K:P.globalNamed al=some g) (S:w.var? P al=some cs) (R:P.underlying t=some (.array n e)) (I:P.underlying e=some (.int .u32)) (D:P.cellsOf e=1) (H:DataW.trod enc P w base spare held fuel t cs.toList=some x)
  (m:x.1=.agg (b5.map fun k=>.lit (.int .u32 k))) :dg w (fun _=>True) (.b7 (b5.map fun k=>.int .u32 k) 0) (.pointer (some ⟨g,0,none⟩)):=by
 obtain⟨U,Y,rfl,T,W,X,J⟩:=DataW.trod_array R H;rw[T] at m;simp only[DataW.agg.injEq] at m;have V:b5.length=n:=by have:=ci List.length m;simp at this;omega
 have G:∀ h k,b5[h]?=some k->w.cell? ⟨g,h,none⟩=some (.int .u32 k):=by
  intro h k j;have O:h<n:=by have:=(aK.1 j).1;omega
  have h1:=J h O;rw[D,n3] at h1;have v:h<U.length:=F;rw[bK v] at h1;obtain⟨p,z,B,_⟩:=DataW.trod_int I h1;have o:=ci (fun l=>l[h]?) m;simp only[b1,bK v,j,cz,bc] at o;rw[B] at o;have Q:p=k:=by simpa using o
  subst Q;have C:=World.var?_cell K S h;rw[C];have u:(cs.toList.drop h)[0]?=some (Value.int .u32 p):=by
   have:((cs.toList.drop h).take 1)[0]?=some (Value.int .u32 p):=by rw[z];rfl
   rw[List.getElem?_take] at this;simpa using this
  rw[gy] at u;simpa using u
 refine .b7 _ 0 g 0 (fun h=>.int .u32 (b5.getD h 0)) (fun h j=>?_) (fun h c j=>?_)
 ·rw[cg] at j;refine⟨?_,rfl,trivial,Um g⟩;rw[hJ,G h b5[h] (bK j),gx,bK j];rfl
 ·rw[b1] at j;cases hk:b5[h]? with
  | none=>rw[hk] at j;cases j
  | some k=>
   rw[hk] at j;cases j;rw[gx,hk];exact .int _ _
theorem LR {j:Type} {enc:aF × aD->j} {P:bq} {w:aT} {base:Nat} {spare:Nat->Bool} {held:Bool}:∀ {ts:List aF} {vs:List aD} {g:List (DataW j)} {ps:List MemPlace},
  DataW.TrodAll enc P w base spare held ts vs g ps->g.length=ts.length
 | [],vs,g,ps,h=>by obtain⟨rfl,rfl,rfl⟩:=trodAll_nil h;rfl
 | t::ts,vs,g,ps,h=>by
  obtain⟨p,q,d,o,a,b,rfl,rfl,rfl,h1,m⟩:=trodAll_cons h;simp[LR m]
end Go.bl
namespace Go.bl
open Go
def dd (l:List Nat) :ag:=l.map fun n=>.int .u8 (.ofNat n)
def iu (n:Int) :U:=.int .i64 n
def fL (l:ag) :List (ag):=l.map fun c=>[c]
end Go.bl
namespace Go.bl
open Go Go.Proofs Go.Shelf Go.Sort Go.RowKit
def um:U->Bool | .bool _=>true | .int _ _=>true | .str _=>true | _=>false
def valOf:U->aD | .bool b=>.bool b | .int k n=>.int k n | .str s=>.string ⟨s.toArray⟩ | _=>.bool false
theorem Yp {w:aT} {R:Nat->Prop} {h:aM} {muZ:b3} {c:U} {v:aD} (g:um c=true) (m:aA w R h muZ c v) :v=valOf c:=by
 cases m with
 | bool b=>rfl
 | int k n=>rfl
 | str j=>obtain⟨⟨l⟩⟩:=j;rfl
 | bad=>cases g
 | _=>cases g
theorem Jz {w:aT} {R:Nat->Prop} {h:aM} {muZ:b3} {c:U} (g:um c=true) :aA w R h muZ c (valOf c):=by
 cases c with
 | bool b=>exact .bool b
 | int k n=>exact .int k n
 | str s=>exact (.str ⟨s.toArray⟩:aA w R h muZ (.str (ByteArray.mk s.toArray).data.toList) _)
 | _=>cases g
theorem EO (c:U) :(valOf c).oneCell'=true:=by cases c<;>rfl
theorem O3 {w W:aT} {b o:Nat} (h:W.heap[b]?=w.heap[b]?) :W.cell? ⟨b,o,none⟩=w.cell? ⟨b,o,none⟩:=by simp[World.cell?,h]
theorem O4 {w:aT} {b o:Nat} {v:aD} (h:w.cell? ⟨b,o,none⟩=some v) :b<w.heap.size:=by apply Decidable.byContradiction;intro g;simp only[World.cell?] at h;rw[p4 F] at h;cases h
theorem Yo {w W:aT} {A:Nat->Prop} (V:∀ k,A k->k<w.heap.size->W.heap[k]?=w.heap[k]?) {c:U} {v:aD} (j:dg w A c v) :dg W A c v:=by
 unfold dg at j ⊢;generalize ak:aM.empty=P at j ⊢;generalize u:(fun _=>none:b3)=Q at j ⊢;have O:∀ {b z:Nat} {v:aD},Cell w A P Q b z v->Cell W A P Q b z v:=fun {b z v} k=>⟨(O3 (V b k.ro (O4 k.here))).trans k.here,k.one,k.ro,k.free⟩
 induction j with
 | bool b=>exact .bool b
 | int k n=>exact .int k n
 | str R=>exact .str R
 | iy=>exact .iy
 | ae=>exact .ae
 | g0=>exact .g0
 | ib=>exact .ib
 | hS=>exact .hS
 | af cs J p h1 j m=>exact .af cs J p h1 m
 | a1 cs J p j m=>exact .a1 cs J p m
 | ptr b g t cs C B h=>subst u;cases h
 | jk b g t a F=>exact .jk b g t a F
 | b7 cs g D z I o j m=>exact .b7 cs g D z I (fun H G=>O (o H G)) m
 | Z q b g len cap t K cs C B h p al o=>subst u;cases h
 | fc q b g len cap t K a p o F=>exact .fc q b g len cap t K a p o F
 | gu q b g t a cs C B h=>subst u;cases h
 | bu q S D g cap I p ad o j m=>exact .bu q S D g cap I p ad (fun i H Y G=>O (o i H Y G)) m
 | eI q a cap=>exact .eI q a cap
 | fn f first e6 T cs X o h1 aj ag ah=>exact .fn f first e6 T cs X o ag ah
 | mp b C B h=>subst u;cases h
 | it b C B h=>subst u;cases h
 | fX ai c v j m=>exact .fX ai c v m
 | ff l=>exact .ff l
 | bad v=>exact .bad v
theorem Oz {W w' : aT} (h:ew W w') :∃ q os,w'=grow (W.drewN q) os:=by
 refine⟨w'.drawn - W.drawn,w'.heap.extract W.heap.size,?_⟩;have v:=h.drawn;have w:=h.size;obtain⟨g,C,BO,z,B⟩:=w';obtain⟨heap,tape,j,os,out⟩:=W;have m:z=os:=h.os;have o:C=tape:=h.tape;have p:B=out:=h.output;subst m o p;have t:g=heap++g.extract heap.size:=by
  apply Array.ext_getElem?;intro k;rw[Array.getElem?_append];split
  ·rename_i hk;exact h.block k hk
  ·rename_i hk;rw[Array.getElem?_extract];have G:heap.size<=g.size:=w;by_cases D:k<g.size
   ·rw[ak F,show heap.size+(k - heap.size)=k by omega]
   ·rw[aj F,p4 F]
 have u:BO=j+(BO - j):=by
  have:j<=BO:=v;omega
 unfold grow World.drewN;simp only;rw[<-t,<-u]
end Go.bl

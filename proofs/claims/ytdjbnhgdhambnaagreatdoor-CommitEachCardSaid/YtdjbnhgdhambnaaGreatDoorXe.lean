/-
  The canonical machine: the laws by which 'simp' walks.
-/
import Derived.Test.YtdjbnhgdhambnaaGreatDoorXd
import GoSem.ClaimChange
import GoSem.ClaimWide
import Derived.ProofKit
import Derived.OpenShut
import Derived.Shelf.SlSortCmp.InsertionK
import Derived.Sort.LotA
set_option maxHeartbeats 16000000
set_option maxRecDepth 100000
set_option linter.unusedVariables false
set_option linter.unusedSimpArgs false
set_option linter.unnecessarySimpa false
namespace Go.bf
open Go
section
variable {P:bg} {G:Nat->U}
@[simp ↓] theorem ab0 (sgZ:aP) (l:ae) (K:fD) :run P G .skip sgZ l K=K .normal sgZ l:=id rfl
@[simp ↓] theorem abY (sgZ:aP) (l:ae) (K:fD) :run P G .ret sgZ l K=K .ret sgZ l:=id rfl
@[simp ↓] theorem abV (i:Nat) (sgZ:aP) (l:ae) (K:fD) :run P G (.exit i) sgZ l K=K (.exit i) sgZ l:=id rfl
@[simp ↓] theorem abX (s:List c0) (sgZ:aP) (l:ae) (K:fD) :run P G (.jh s) sgZ l K=ie P G s sgZ l (K .normal):=id rfl
@[simp ↓] theorem abU (s:List c0) (sgZ:aP) (l:ae) (K:fD) :run P G (.vC s) sgZ l K=ji P G s sgZ l [] (K .normal):=id rfl
@[simp ↓] theorem abZ (a b:fC) (sgZ:aP) (l:ae) (K:fD) :run P G (.seq a b) sgZ l K=run P G a sgZ l (mx (fun sgZ l=>run P G b sgZ l K) K):=id rfl
@[simp ↓] theorem abT (c:aT) (x y:fC) (sgZ:aP) (l:ae) (K:fD) :run P G (.cond c x y) sgZ l K=vW (di G sgZ c) (c:=⟨run P G x sgZ l K,run P G y sgZ l K⟩):=id rfl
@[simp ↓] theorem abS (i:Nat) (c:fC) (sgZ:aP) (l:ae) (K:fD) :run P G (.block i c) sgZ l K=run P G c sgZ l (qv i K):=id rfl
@[simp ↓] theorem abW (c:fC) (sgZ:aP) (l:ae) (K:fD) :run P G (.loop c) sgZ l K=xD (run P G c) sgZ l (c:=⟨K⟩):=id rfl
@[simp ↓] theorem Z2 (k:aP->ae->Prop) (K:fD) (sgZ:aP) (l:ae) :mx k K .normal sgZ l=k sgZ l:=id rfl
@[simp ↓] theorem Z1 (k:aP->ae->Prop) (K:fD) (i:Nat) (sgZ:aP) (l:ae) :mx k K (.exit i) sgZ l=K (.exit i) sgZ l:=id rfl
@[simp ↓] theorem Z3 (k:aP->ae->Prop) (K:fD) (sgZ:aP) (l:ae) :mx k K .ret sgZ l=K .ret sgZ l:=id rfl
@[simp ↓] theorem ZN (i:Nat) (K:fD) (sgZ:aP) (l:ae) :qv i K .normal sgZ l=K .normal sgZ l:=id rfl
@[simp ↓] theorem ZO (i:Nat) (K:fD) (sgZ:aP) (l:ae) :qv i K .ret sgZ l=K .ret sgZ l:=id rfl
def tK (p:Prop) [Decidable p] [c:va] :Prop:=if p then c.p else c.q
@[simp ↓] theorem ZM (i j:Nat) (K:fD) (sgZ:aP) (l:ae) :qv i K (.exit j) sgZ l=tK (j=i) (c:=⟨K .normal sgZ l,K (.exit j) sgZ l⟩):=by
 unfold qv tK;by_cases h:j=i
 ·simp only[pm h,aj h]
 ·simp only[h7 h,ak h]
@[simp ↓] theorem ZT (i:Nat) (x y:Prop) :tK (i=i) (c:=⟨x,y⟩)=x:=by simp[tK]
@[simp] theorem ZS (x y:Prop) :tK False (c:=⟨x,y⟩)=y:=by simp[tK]
@[simp ↓] theorem ZQ (g:List dm) (K:U->ae->Prop) (sgZ:aP) (l:ae) :tJ P G g K .normal sgZ l=mw P G K sgZ l g []:=id rfl
@[simp ↓] theorem ZR (g:List dm) (K:U->ae->Prop) (sgZ:aP) (l:ae) :tJ P G g K .ret sgZ l=mw P G K sgZ l g []:=id rfl
@[simp ↓] theorem Z0 (K:U->ae->Prop) (sgZ:aP) (l:ae) (g:ag) :mw P G K sgZ l [] g=K (su g) l:=id rfl
@[simp ↓] theorem ZZ (K:U->ae->Prop) (sgZ:aP) (l:ae) (m:dm) (r:List dm) (g:ag) :mw P G K sgZ l (m::r) g=W (bG P (di G sgZ) l m) (c:=⟨fun x=>mw P G K sgZ l r (g++[x.1])⟩):=id rfl
@[simp] theorem acd (v:U) :su [v]=v:=id rfl
@[simp] theorem ace (v w:U) (r:ag) :su (v::w::r)=.aZ (v::w::r):=id rfl
@[simp ↓] theorem abR (sgZ:aP) (l:ae) (K:aP->ae->Prop) :ie P G [] sgZ l K=K sgZ l:=id rfl
@[simp ↓] theorem abQ (i:Nat) (g:Option Tmp) (m:dm) (c:List Nat) (k:Bool) (r:List c0) (sgZ:aP) (l:ae) (K:aP->ae->Prop) :
  ie P G (⟨i,g,none,.fv m,c,k⟩::r) sgZ l K=W (bG P (di G sgZ) l m) (c:=⟨fun x=>eg m x.1 x.2 fun v l'=>ie P G r (gw sgZ g v) l' K⟩):=id rfl
@[simp ↓] theorem abN (i:Nat) (g:Option Tmp) (f:cb) (args:List aT) (c:List Nat) (k:Bool) (r:List c0) (sgZ:aP) (l:ae) (K:aP->ae->Prop) :
  ie P G (⟨i,g,none,.kL f args,c,k⟩::r) sgZ l K=fP P G f (args.map (di G sgZ)) l (c:=⟨fun v l'=>ie P G r (gw sgZ g v) l' K⟩):=id rfl
@[simp ↓] theorem abO (i:Nat) (g:Option Tmp) (x:aT) (args:List aT) (c:List Nat) (k:Bool) (r:List c0) (sgZ:aP) (l:ae) (K:aP->ae->Prop) :
  ie P G (⟨i,g,none,.lr x args,c,k⟩::r) sgZ l K=vq P G (di G sgZ x) (args.map (di G sgZ)) l (c:=⟨fun v l'=>ie P G r (gw sgZ g v) l' K⟩):=id rfl
@[simp ↓] theorem abP (i:Nat) (g:Option Tmp) (d:Tmp) (w:Bool) (b:ri) (c:List Nat) (k:Bool) (r:List c0) (sgZ:aP) (l:ae) (K:aP->ae->Prop) :
  ie P G (⟨i,g,some (some d,w),b,c,k⟩::r) sgZ l K=pe (sgZ d) w (c:=⟨ie P G (⟨i,g,none,b,c,k⟩::r) sgZ l K,ie P G r (gw sgZ g fz) l K⟩):=id rfl
@[simp ↓] theorem abM (sgZ:aP) (l:ae) (seen:hX) (K:aP->ae->Prop) :ji P G [] sgZ l seen K=K sgZ l:=id rfl
@[simp ↓] theorem abL (i:Nat) (g:Option Tmp) (m:dm) (c:List Nat) (k:Bool) (r:List c0) (sgZ:aP) (l:ae) (seen:hX) (K:aP->ae->Prop) :
  ji P G (⟨i,g,none,.fv m,c,k⟩::r) sgZ l seen K=W (bG P (di G sgZ) l m) (c:=⟨fun x=>eg m x.1 x.2 fun v l'=>oW c seen l'/\ji P G r (gw sgZ g v) l' (pB k i (kv P G (.fv m) sgZ v l l') seen) K⟩):=id rfl
@[simp ↓] theorem abJ (i:Nat) (g:Option Tmp) (f:cb) (args:List aT) (c:List Nat) (k:Bool) (r:List c0) (sgZ:aP) (l:ae) (seen:hX) (K:aP->ae->Prop) :
  ji P G (⟨i,g,none,.kL f args,c,k⟩::r) sgZ l seen K=fP P G f (args.map (di G sgZ)) l (c:=⟨fun v l'=>oW c seen l'/\ji P G r (gw sgZ g v) l' (pB k i (fun _=>True) seen) K⟩):=id rfl
@[simp ↓] theorem abK (i:Nat) (g:Option Tmp) (d:Tmp) (w:Bool) (b:ri) (c:List Nat) (k:Bool) (r:List c0) (sgZ:aP) (l:ae) (seen:hX) (K:aP->ae->Prop) :
  ji P G (⟨i,g,some (some d,w),b,c,k⟩::r) sgZ l seen K=pe (sgZ d) w (c:=⟨ji P G (⟨i,g,none,b,c,k⟩::r) sgZ l seen K,ji P G r (gw sgZ g fz) l seen K⟩):=id rfl
@[simp] theorem YZ (g:List Nat) (l:ae) :oW g [] l=True:=id rfl
@[simp] theorem YY (g:List Nat) (e:Nat × (ae->Prop)) (r:hX) (l:ae) :oW g (e::r) l=((g.contains e.1=true->e.2 l)/\oW g r l):=id rfl
@[simp] theorem ab2 (i:Nat) (p:ae->Prop) (s:hX) :pB true i p s=(i,p) ::s:=id rfl
@[simp] theorem ab1 (i:Nat) (p:ae->Prop) (s:hX) :pB false i p s=s:=id rfl
@[simp] theorem ab8 (m:dm) (sgZ:aP) (v:U) (l l' l1:ae) :kv P G (.fv m) sgZ v l l' l1=(match m.kU with | true=>l1[l.length]?=l'[l.length]? | false=>bG P (di G sgZ) l1 m=some (v,l1)):=id rfl
@[simp ↓] theorem aay (x:aT) (v:U) (l:ae) (K:U->ae->Prop) :eg (.dS x) v l K=K v l:=id rfl
@[simp ↓] theorem aaB (c a b:aT) (v:U) (l:ae) (K:U->ae->Prop) :eg (.pick c a b) v l K=K v l:=id rfl
@[simp ↓] theorem Z4 (z:ag) (v:U) (l:ae) (K:U->ae->Prop) :eg (.alloc z) v l K=K v l:=id rfl
@[simp ↓] theorem Z9 (x:aT) (v:U) (l:ae) (K:U->ae->Prop) :eg (.box x) v l K=K v l:=id rfl
@[simp ↓] theorem Z8 (z:ag) (ps:List (Nat × Nat × aT)) (v:U) (l:ae) (K:U->ae->Prop) :eg (.xO z ps) v l K=K v l:=id rfl
@[simp ↓] theorem aac (z:Nat) (zero:ag) (n:Nat) (ps:List (Nat × aT)) (v:U) (l:ae) (K:U->ae->Prop) :eg (.qc z zero n ps) v l K=K v l:=id rfl
@[simp ↓] theorem aap (a:aT) (v:U) (l:ae) (K:U->ae->Prop) :eg (.ld1 a) v l K=K v l:=id rfl
@[simp ↓] theorem aaq (n:Nat) (a:aT) (v:U) (l:ae) (K:U->ae->Prop) :eg (.jD n a) v l K=K v l:=id rfl
@[simp ↓] theorem aaE (n:Nat) (a x:aT) (v:U) (l:ae) (K:U->ae->Prop) :eg (.st n a x) v l K=K v l:=id rfl
@[simp ↓] theorem aaz (x:aT) (v:U) (l:ae) (K:U->ae->Prop) :eg (.yU x) v l K=K v l:=id rfl
@[simp ↓] theorem Z7 (o:BinOp) (t:aC) (x y:aT) (v:U) (l:ae) (K:U->ae->Prop) :eg (.bin o t x y) v l K=K v l:=id rfl
@[simp ↓] theorem aaF (o:UnOp) (x:aT) (v:U) (l:ae) (K:U->ae->Prop) :eg (.un o x) v l K=K v l:=id rfl
@[simp ↓] theorem aaf (k:cQ) (x:aT) (v:U) (l:ae) (K:U->ae->Prop) :eg (.vt k x) v l K=K v l:=id rfl
@[simp ↓] theorem aae (x:aT) (v:U) (l:ae) (K:U->ae->Prop) :eg (.tm x) v l K=K v l:=id rfl
@[simp ↓] theorem aai (x:aT) (v:U) (l:ae) (K:U->ae->Prop) :eg (.x3 x) v l K=K v l:=id rfl
@[simp ↓] theorem aau (f:cb) (a b:List aT) (v:U) (l:ae) (K:U->ae->Prop) :eg (.wd f a b) v l K=K v l:=id rfl
@[simp ↓] theorem aaw (z b:Nat) (zero:ag) (x y:aT) (v:U) (l:ae) (K:U->ae->Prop) :eg (.r2 z b zero x y) v l K=K v l:=id rfl
@[simp ↓] theorem aaD (m:hK) (x:aT) (h g j:Option aT) (v:U) (l:ae) (K:U->ae->Prop) :eg (.slice m x h g j) v l K=K v l:=id rfl
@[simp ↓] theorem aak (n:Nat) (x:aT) (v:U) (l:ae) (K:U->ae->Prop) :eg (.m6 n x) v l K=K v l:=id rfl
@[simp ↓] theorem aal (n m:Nat) (x:aT) (v:U) (l:ae) (K:U->ae->Prop) :eg (.yh n m x) v l K=K v l:=id rfl
@[simp ↓] theorem aam (g:hK) (x y:aT) (v:U) (l:ae) (K:U->ae->Prop) :eg (.rS g x y) v l K=K v l:=id rfl
@[simp ↓] theorem aan (n z:Nat) (x y:aT) (v:U) (l:ae) (K:U->ae->Prop) :eg (.yv n z x y) v l K=K v l:=id rfl
@[simp ↓] theorem aao (x y:aT) (v:U) (l:ae) (K:U->ae->Prop) :eg (.yx x y) v l K=K v l:=id rfl
@[simp ↓] theorem aaj (x:aT) (n:Nat) (v:U) (l:ae) (K:U->ae->Prop) :eg (.ext x n) v l K=K v l:=id rfl
@[simp ↓] theorem aar (g:hK) (x:aT) (v:U) (l:ae) (K:U->ae->Prop) :eg (.len g x) v l K=K v l:=id rfl
@[simp ↓] theorem aad (g:hK) (x:aT) (v:U) (l:ae) (K:U->ae->Prop) :eg (.cap g x) v l K=K v l:=id rfl
@[simp ↓] theorem Z6 (z b:Nat) (zero:ag) (x y:aT) (v:U) (l:ae) (K:U->ae->Prop) :eg (.tc z b zero x y) v l K=K v l:=id rfl
@[simp ↓] theorem aag (zero:ag) (x:aT) (v:U) (l:ae) (K:U->ae->Prop) :eg (.tq zero x) v l K=K v l:=id rfl
@[simp ↓] theorem aat (x y:aT) (v:U) (l:ae) (K:U->ae->Prop) :eg (.max x y) v l K=K v l:=id rfl
@[simp ↓] theorem Z5 (z b:Nat) (x y:aT) (v:U) (l:ae) (K:U->ae->Prop) :eg (.app z b x y) v l K=bY v l (c:=⟨K⟩):=id rfl
theorem bY.bo {v:U} {l:ae} {K:U->ae->Prop} (h:K v l) :bY v l (c:=⟨K⟩):=.inl h
@[simp] theorem ZJ (a:aT) :(dm.ld1 a).kU=false:=id rfl
@[simp] theorem ZK (n:Nat) (a:aT) :(dm.jD n a).kU=false:=id rfl
@[simp] theorem ZI (k:cQ) (a:aT) :(dm.vt k a).kU=false:=id rfl
@[simp] theorem ZG (z:ag) :(dm.alloc z).kU=true:=id rfl
@[simp] theorem ZH (z:Nat) (zero:ag) (n:Nat) (ps:List (Nat × aT)) :(dm.qc z zero n ps).kU=true:=id rfl
@[simp] theorem abz (l l' : ae) (x:Option U) (v:U) :(dg l x=some (v,l'))=(x=some v/\l'=l):=propext e1
@[simp ↓] theorem Yp {alZ:Type} (x:alZ) (k:alZ->Prop) :W (some x) (c:=⟨k⟩)=k x:=id rfl
@[simp ↓] theorem Yo (l:ae) (o:Option U) (k:U × ae->Prop) :W (dg l o) (c:=⟨k⟩)=W o (c:=⟨fun v=>k (v,l)⟩):=by unfold W dg;cases o<;>rfl
@[simp ↓] theorem Yn {alZ g:Type} (o:Option alZ) (f:alZ->g) (k:g->Prop) :W (o.map f) (c:=⟨k⟩)=W o (c:=⟨fun v=>k (f v)⟩):=by unfold W;cases o<;>rfl
@[simp ↓] theorem Ym {alZ:Type} (p:Prop) [Decidable p] (x:alZ) (k:alZ->Prop) :W (if p then some x else none) (c:=⟨k⟩)=(p/\k x):=by unfold W;by_cases h:p<;>simp[h]
@[simp ↓] theorem ZP (b:Bool) (p q:Prop) :vW (.bool b) (c:=⟨p,q⟩)=ob b (c:=⟨p,q⟩):=id rfl
@[simp ↓] theorem ZY (p q:Prop) :ob true (c:=⟨p,q⟩)=p:=id rfl
@[simp ↓] theorem ZX (p q:Prop) :ob false (c:=⟨p,q⟩)=q:=id rfl
@[simp ↓] theorem ZV (b:Bool) (p q:Prop) :pe (.bool b) true (c:=⟨p,q⟩)=ob b (c:=⟨p,q⟩):=by cases b<;>rfl
@[simp ↓] theorem ZU (b:Bool) (p q:Prop) :pe (.bool b) false (c:=⟨p,q⟩)=ob b (c:=⟨q,p⟩):=by cases b<;>rfl
@[simp ↓] theorem ZW (w:Bool) (p q:Prop) :pe fz w (c:=⟨p,q⟩)=q:=id rfl
theorem gq {b:Bool} {p q:Prop} (h1:b=true->p) (g:b=false->q) :ob b (c:=⟨p,q⟩):=by cases b;exact g rfl;exact h1 rfl
@[simp ↓] theorem abB (sgZ:aP) (d:Tmp) (v:U) :gw sgZ (some d) v=bh sgZ d v:=id rfl
@[simp ↓] theorem abA (sgZ:aP) (v:U) :gw sgZ none v=sgZ:=id rfl
@[simp] theorem Zk {alZ:Type} (s:Nat->alZ) (d:Nat) (v:alZ) (t:Nat) :bh s d v t=if t=d then v else s t:=id rfl
@[simp] theorem Yq (args:ag) (t:Nat) :i4 args t=args.getD t fz:=id rfl
@[simp] theorem Zh (sgZ:aP) (t:Tmp) :di G sgZ (.tmp t)=sgZ t:=id rfl
@[simp] theorem Za (sgZ:aP) (f:cb) :di G sgZ (.func f)=.fn f [] []:=id rfl
@[simp] theorem Zb (sgZ:aP) (g:Nat) :di G sgZ (.global g)=G g:=id rfl
@[simp] theorem Zc (sgZ:aP) (k:cQ) (n:Int) :di G sgZ (.const (.int k n))=.int k n:=id rfl
@[simp] theorem Y9 (sgZ:aP) (b:Bool) :di G sgZ (.const (.bool b))=.bool b:=id rfl
@[simp] theorem Zg (sgZ:aP) (s:ByteArray) :di G sgZ (.const (.string s))=.str s.data.toList:=id rfl
@[simp] theorem Zf (sgZ:aP) :di G sgZ (.const (.slice none 0 0))=.af:=id rfl
@[simp] theorem Ze (sgZ:aP) :di G sgZ (.const (.map none))=.gP:=id rfl
@[simp] theorem Zd (sgZ:aP) :di G sgZ (.const .nilFunc)=.hP:=id rfl
variable (cf:aT->U) (l:ae)
@[simp ↓] theorem abf (x:aT) :bG P cf l (.dS x)=some (cf x,l):=id rfl
@[simp ↓] theorem abi (c a b:aT) :bG P cf l (.pick c a b)=dg l (y9 (cf c) (cf a) (cf b)):=id rfl
@[simp ↓] theorem aaM (z:ag) :bG P cf l (.alloc z)=some (.ptr l.length 0 z.length,l++[.cells z.length z]):=id rfl
@[simp ↓] theorem aaR (x:aT) :bG P cf l (.box x)=(cf x).cells.map fun cs=>(.ptr l.length 0 cs.length,l++[.cells cs.length cs]):=id rfl
@[simp ↓] theorem aaQ (zero:ag) (ps:List (Nat × Nat × aT)) :bG P cf l (.xO zero ps)=dg l ((mY zero (ps.map fun p=>(p.1,p.2.1,cf p.2.2))).map .ah):=id rfl
@[simp ↓] theorem aaS (z:Nat) (zero:ag) (len:Nat) (ps:List (Nat × aT)) :bG P cf l (.qc z zero len ps)=(ef (fun i=>some (i*z,z)) (cy zero len) (ps.map fun p=>(p.1,cf p.2))).map fun cs=>(.ad z l.length 0 len len (len*z),l++[.cells (len*z) cs]):=id rfl
@[simp ↓] theorem aa5 (a:aT) :bG P cf l (.ld1 a)=dg l ((fM l (cf a)).bind fun x=>x.1[x.2]?):=id rfl
@[simp ↓] theorem aa6 (n:Nat) (a:aT) :bG P cf l (.jD n a)=dg l ((fM l (cf a)).bind fun x=>r6 n x.1 x.2):=id rfl
@[simp ↓] theorem abl (n:Nat) (a x:aT) :bG P cf l (.st n a x)=(jm n l (cf a) (cf x)).map fun l'=>(fz,l'):=id rfl
@[simp ↓] theorem abg (x:aT) :bG P cf l (.yU x)=dg l (yV (cf x)):=id rfl
@[simp ↓] theorem aaP (o:BinOp) (t:aC) (x y:aT) :bG P cf l (.bin o t x y)=dg l (dP P o t (cf x) (cf y)):=id rfl
@[simp ↓] theorem abm (o:UnOp) (x:aT) :bG P cf l (.un o x)=dg l (qY o (cf x)):=id rfl
@[simp ↓] theorem aaV (k:cQ) (x:aT) :bG P cf l (.vt k x)=dg l (vu k (cf x)):=id rfl
@[simp ↓] theorem aaU (x:aT) :bG P cf l (.tm x)=dg l (oT l (cf x)):=id rfl
@[simp ↓] theorem aaY (x:aT) :bG P cf l (.x3 x)=dg l (rB (cf x)):=id rfl
@[simp ↓] theorem abb (f:cb) (a b:List aT) :bG P cf l (.wd f a b)=some (.fn f (a.map cf) (b.map cf),l):=id rfl
@[simp ↓] theorem abd (z by_:Nat) (zero:ag) (a c:aT) :bG P cf l (.r2 z by_ zero a c)=lG z by_ zero l (cf a) (cf c):=id rfl
@[simp ↓] theorem abk (m:hK) (x:aT) (h g j:Option aT) :bG P cf l (.slice m x h g j)=dg l (dB m (cf x) (h.map cf) (g.map cf) (j.map cf)):=id rfl
@[simp ↓] theorem aa0 (off:Nat) (x:aT) :bG P cf l (.m6 off x)=dg l (kM (cf x) off):=id rfl
@[simp ↓] theorem aa1 (n off:Nat) (x:aT) :bG P cf l (.yh n off x)=dg l (yi n off (cf x)):=id rfl
@[simp ↓] theorem aa2 (g:hK) (x i:aT) :bG P cf l (.rS g x i)=dg l (bF g (cf x) (cf i)):=id rfl
@[simp ↓] theorem aa3 (n z:Nat) (x i:aT) :bG P cf l (.yv n z x i)=dg l (yw n z (cf x) (cf i)):=id rfl
@[simp ↓] theorem aa4 (x i:aT) :bG P cf l (.yx x i)=dg l (tG (cf x) (cf i)):=id rfl
@[simp ↓] theorem aaZ (x:aT) (i:Nat) :bG P cf l (.ext x i)=dg l (yb (cf x) i):=id rfl
@[simp ↓] theorem aa7 (g:hK) (x:aT) :bG P cf l (.len g x)=dg l (bt g (cf x)):=id rfl
@[simp ↓] theorem aaT (g:hK) (x:aT) :bG P cf l (.cap g x)=dg l (rv g (cf x)):=id rfl
@[simp ↓] theorem aaN (z by_:Nat) (s x:aT) :bG P cf l (.app z by_ s x)=ep l z by_ (cf s) (cf x):=id rfl
@[simp ↓] theorem aaO (z by_:Nat) (zero:ag) (s x:aT) :bG P cf l (.tc z by_ zero s x)=nP l z by_ zero (cf s) (cf x):=id rfl
@[simp ↓] theorem aaW (zero:ag) (x:aT) :bG P cf l (.tq zero x)=(oX zero l (cf x)).map fun l'=>(.aZ [],l'):=id rfl
@[simp ↓] theorem aa9 (x y:aT) :bG P cf l (.max x y)=dg l (og (cf x) (cf y)):=id rfl
@[simp] theorem abw (t:Bool) (a b:U) :y9 (.bool t) a b=some (if t=true then a else b):=id rfl
@[simp] theorem YS (cs:ag) :(U.ah cs).cells=some cs:=id rfl
@[simp] theorem YU (k:cQ) (n:Int) :(U.int k n).cells=some [.int k n]:=id rfl
@[simp] theorem YX (s:List UInt8) :(U.str s).cells=some [.str s]:=id rfl
@[simp] theorem YV:U.af.cells=some [.af]:=id rfl
@[simp] theorem YW (z b o n c s:Nat) :(U.ad z b o n c s).cells=some [.ad z b o n c s]:=id rfl
@[simp] theorem YQ (b off sz k:Nat) :kM (.ptr b off sz) k=some (.ptr b (off+k) sz):=id rfl
@[simp] theorem YR (cs:ag) (off k:Nat) :kM (.bR cs off) k=some (.bR cs (off+k)):=id rfl
@[simp] theorem abo (b o s:Nat) :yV (.ptr b o s)=some (.ptr b o s):=id rfl
def C9 (x:Option am) (off sz:Nat) :Option (ag × Nat):=match x with
 | some (.cells n cs)=>if n=sz then some (cs,off) else none
 | _=>none
@[simp] theorem abE (b off sz:Nat) :fM l (.ptr b off sz)=C9 l[b]? off sz:=by unfold fM C9;rfl
@[simp] theorem abD (n:Nat) (cs:ag) (off sz:Nat) :C9 (some (.cells n cs)) off sz=if n=sz then some (cs,off) else none:=id rfl
@[simp] theorem abF (cs:ag) (off:Nat) :fM l (.bR cs off)=some (cs,off):=id rfl
def aL (n:Nat) (l:ae) (b off sz:Nat) (vs:ag) (x:Option am) :Option ae:=match x with
 | some (.cells g cs)=>if g=sz/\vs.length=n/\off+n<=g then some (l.set b (.cells g (aw cs off vs))) else none
 | _=>none
@[simp] theorem aca (n b off sz:Nat) (v:U) :jm n l (.ptr b off sz) v=v.cells.bind fun vs=>aL n l b off sz vs l[b]?:=by unfold jm aL;cases v.cells<;>rfl
@[simp] theorem ab9 (n b off sz:Nat) (vs:ag) (m:Nat) (cs:ag) :aL n l b off sz vs (some (.cells m cs))=if m=sz/\vs.length=n/\off+n<=m then some (l.set b (.cells m (aw cs off vs))) else none:=id rfl
@[simp] theorem abu (n:Nat) (cs:ag) (off:Nat) :r6 n cs off=if off+n<=cs.length then some (.ah ((cs.drop off).take n)) else none:=id rfl
@[simp] theorem ab7 (a:U) (cs vs:ag) (off:Nat) :aw (a::cs) (off+1) vs=a::aw cs off vs:=by simp only[aw,EJ,jo,show off+1+vs.length=(off+vs.length)+1 by omega,List.drop_succ_cons]
@[simp] theorem Wq (a v:U) (cs vs:ag) :aw (a::cs) 0 (v::vs)=v::aw cs 0 vs:=by simp[aw]
@[simp] theorem Wt (cs:ag) :aw cs 0 []=cs:=by simp[aw]
@[simp] theorem ab6 (vs:ag) :aw [] 0 vs=vs:=by simp[aw]
@[simp] theorem YD (zero:ag) :mY zero []=some zero:=id rfl
theorem NZ (zero:ag) (off size:Nat) (v:U) (r:List (Nat × Nat × U)) :mY zero ((off,size,v) ::r)=v.cells.bind fun vs=>if vs.length=size/\off+size<=zero.length then mY (aw zero off vs) r else none:=by rw[mY];cases v.cells<;>rfl
attribute [simp] NZ
@[simp] theorem Zj (g:Nat->Option (Nat × Nat)) (zero:ag) :ef g zero []=some zero:=id rfl
@[simp] theorem rI (g:Nat->Option (Nat × Nat)) (zero:ag) (i:Nat) (v:U) (r:List (Nat × U)) :ef g zero ((i,v) ::r)=(g i).bind fun q=>v.cells.bind fun vs=>if vs.length=q.2/\q.1+q.2<=zero.length then ef g (aw zero q.1 vs) r else none:=by
 rw[ef];cases g i with
 | none=>rfl
 | some q=>cases v.cells<;>rfl
@[simp] theorem abH (zero:ag) :cy zero 0=[]:=id rfl
@[simp] theorem abI (zero:ag) (n:Nat) :cy zero (n+1)=zero++cy zero n:=id rfl
@[simp] theorem Yw (o:BinOp) (t:aC) (k:cQ) (a:Int) (k' : cQ) (b:Int) :dP P o t (.int k a) (.int k' b)=cn o k a k' b:=id rfl
@[simp] theorem YB (o:BinOp) (t:aC) (a b:List UInt8) :dP P o t (.str a) (.str b)=td o a b:=id rfl
@[simp] theorem Yy (k:cQ) (a b:Int) :cn .lss k a k b=some (.bool (decide (a<b))):=by simp[cn]
@[simp] theorem Yx (k:cQ) (a b:Int) :cn .leq k a k b=some (.bool (decide (a<=b))):=by simp[cn]
@[simp] theorem Yv (k:cQ) (a b:Int) :cn .gtr k a k b=some (.bool (decide (b<a))):=by simp[cn]
@[simp] theorem Yu (k:cQ) (a b:Int) :cn .geq k a k b=some (.bool (decide (b<=a))):=by simp[cn]
@[simp] theorem Yt (k:cQ) (a b:Int) :cn .eql k a k b=some (.bool (decide (a=b))):=by
 have:(a == b)=decide (a=b):=by by_cases h:a=b<;>simp[h]
 simp[cn,this]
@[simp] theorem YA (k:cQ) (a b:Int) :cn .neq k a k b=some (.bool (!decide (a=b))):=by
 have:(a != b)=!decide (a=b):=by by_cases h:a=b<;>simp[h]
 simp[cn,this]
@[simp] theorem Ys (k:cQ) (a b:Int) :cn .add k a k b=some (.int k (k.wrap (a+b))):=by simp[cn]
@[simp] theorem YC (k:cQ) (a b:Int) :cn .sub k a k b=some (.int k (k.wrap (a - b))):=by simp[cn]
@[simp] theorem Yz (k:cQ) (a b:Int) :cn .mul k a k b=some (.int k (k.wrap (a*b))):=by simp[cn]
@[simp] theorem acl (b:Bool) :qY .not (.bool b)=some (.bool (!b)):=id rfl
@[simp] theorem ack (k:cQ) (n:Int) :qY .neg (.int k n)=some (.int k (k.wrap (0 - n))):=id rfl
@[simp] theorem Y0 (k k' : cQ) (n:Int) :vu k (.int k' n)=some (.int k (k.wrap n)):=id rfl
@[simp] theorem ZC (z g:Nat) (es:List (ag)) (k:cQ) (i:Int) :bF (.ad z) (.bj g es) (.int k i)=if z=g/\0<=i then (es[i.toNat]?).map fun cs=>.bR cs 0 else none:=id rfl
@[simp] theorem ZD (z g b off len cap sz:Nat) (k:cQ) (i:Int) :bF (.ad z) (.ad g b off len cap sz) (.int k i)=if z=g/\0<=i/\i<len then some (.ptr b (off+i.toNat*z) sz) else none:=id rfl
@[simp] theorem ZB (n z:Nat) (x:U) (k:cQ) (i:Int) :bF (.arr n z) x (.int k i)=if 0<=i/\i<n then kM x (i.toNat*z) else none:=id rfl
@[simp] theorem aaI (z:Nat) :bt (.ad z) .af=some (.int .i64 0):=id rfl
@[simp] theorem aaK (z g b o n c s:Nat) :bt (.ad z) (.ad g b o n c s)=some (.int .i64 n):=id rfl
@[simp] theorem aaJ (z g:Nat) (es:List (ag)) :bt (.ad z) (.bj g es)=some (.int .i64 es.length):=id rfl
@[simp] theorem aaL (s:List UInt8) :bt .str (.str s)=some (.int .i64 s.length):=id rfl
@[simp] theorem Zi (vs:ag) (i:Nat) :yb (.aZ vs) i=vs[i]?:=id rfl
end
section
variable {P:bg} {G:Nat->U}
inductive Rd (l:ae) :U->U->Prop
 | same (c:U) (h:c.ax=true) :Rd l c c
 | ah (cs o:ag) (u:o.length=cs.length) (h:∀ (j:Nat) (c g:U),cs[j]?=some c->o[j]?=some g->Rd l c g) :Rd l (.ah cs) (.ah o)
 | aZ (cs o:ag) (u:o.length=cs.length) (h:∀ (j:Nat) (c g:U),cs[j]?=some c->o[j]?=some g->Rd l c g) :Rd l (.aZ cs) (.aZ o)
 | ad (m b p len cap t:Nat) (cs:ag) (q:List (ag)) (v:l[b]?=some (.cells t cs)) (u:q.length=len) (z:∀ e∈q,e.length=m)
   (w:p+len*m<=cs.length)
   (h:∀ (i j:Nat) (e:ag) (c g:U),q[i]?=some e->e[j]?=some g->cs[p+(i*m+j)]?=some c->Rd l c g) :Rd l (.ad m b p len cap t) (.bj m q)
 | sl (m b p cap t:Nat) :Rd l (.ad m b p 0 cap t) (.bj m [])
theorem U5 {w:aO} {R:Nat->Prop} {B:Nat} {l:ae} {muZ:bU} (rel:bu R B w (aU l) muZ) :∀ {c c' : U},Rd l c c'->∀ {v:aB},az w R (aU l) muZ c v->c5 w R c' v:=by
 intro c c' aq
 induction aq with
 | same c h=>
  intro v m;exact (c5.up (m3 m h) fun k _ hk=>⟨hk.1,fun ⟨b,j,h1,o,D⟩=>by cases o⟩:az w R aE.empty (fun _=>none) _ v)
 | ah cs P q h I=>
  intro v m;cases m with
  | ah _ W ao h1 m=>
   refine .ah P W F h1 (fun g c' v p V=>?_);have t:g<cs.length:=by rw[<-q];exact (aH.1 p).1
   exact I g cs[g] c' (bC t) p (m g cs[g] v (bC t) V)
 | aZ cs P q h I=>
  intro v m;cases m with
  | aZ _ W ao m=>
   refine .aZ P W F (fun g c' v p V=>?_);have t:g<cs.length:=by rw[<-q];exact (aH.1 p).1
   exact I g cs[g] c' (bC t) p (m g cs[g] v (bC t) V)
 | sl z b C cap ai=>
  intro v m;cases m with
  | ad _ _ _ _ _ _ cap' cs j Q O q ap K=>exact .eB z _ cap'
  | e9 _ _ _ _ _ _ cap' a q K u=>exact .eB z _ cap'
  | gh _ _ _ _ a cs j Q O=>exact .eB z a 0
 | ad z b C len cap ai cs J Q q ag aA h I=>
  intro v m;have G:(aU l).f b=.cells ai cs:=hq.2 Q;cases m with
  | gh _ _ _ _ a X j S aD=>
   obtain rfl:=il.1 q;exact .eB z a 0
  | e9 _ _ _ _ _ _ cap' a q K u=>
   exfalso;rcases u with u | ⟨n,X,u,t⟩
   ·rw[G] at u;cases u
   ·rw[G] at u;cases u;omega
  | ad _ _ _ _ _ _ cap' X j S O aC ap K=>
   rw[G] at S;cases S;have hblk:=rel.blk b j O;rw[G] at hblk;obtain⟨ax,av,arr,aG,au,ar,aw,ay,al⟩:=hblk;have ak:len<=cap':=by rcases K with ⟨_,h⟩ | ⟨_,h,_⟩<;>omega
   have aj:R j.r:=rel.up _ (rel.base b j (by rw[G];rfl) O);subst q;have Z:∀ i g,i<J.length->g<z->∃ c v,cs[C+(i*z+g)]?=some c/\arr[j.s+(C+(i*z+g))]?=some v/\v.oneCell'=true/\az w R (aU l) muZ c v:=by
    intro i g H p;have t:C+(i*z+g)<cs.length:=by
     have:i*z+z<=J.length*z:=by rw[<-ec];exact cj _ H
     omega
    obtain⟨v,h1,o,D⟩:=al _ _ (bC t);exact⟨_,v,bC t,h1,o,D⟩
   refine .bj z J j.r (j.s+C) cap' (fun i g=>(arr[j.s+(C+(i*z+g))]?).getD undef) ak ag (fun i g H p=>?_) (fun i e T g c' p=>?_)
   ·obtain⟨c,v,h1,o,D,Y⟩:=Z i g H p;refine⟨?_,?_,aj,fun ⟨b,j,h1,o,D⟩=>by cases o⟩
    ·simp only[World.cell?,ar,o,gU,rh];rw[show j.s+C+(i*z+g)=j.s+(C+(i*z+g)) by omega,o];rfl
    ·rw[o];exact D
   ·have H:i<J.length:=(aH.1 T).1;have am:g<z:=by rw[<-ag e (cz T)];exact (aH.1 p).1
    obtain⟨c,v,h1,o,D,Y⟩:=Z i g H am;simp only[o,gU];exact I i g e c c' T p h1 Y
theorem wI (u:P.follows .mixedOrders=true) (o:∀ g,(G g).ax=true) {f:cb} {args:ag} {r:U} (h:fP P G f args [] (c:=⟨fun j l=>Rd l j r⟩)) :hW P G f args r:=by obtain⟨j,D,h1,C,m⟩:=h;intro w A F q t z;refine (D5 (A:=A) u o h1 q t z).mono ?_;rintro e w' ⟨B,muZ',rfl,p,rel,v⟩;exact⟨B,rfl,p,U5 rel m v⟩
theorem av {f:cb} {args:ag} {r:U} {l:ae} {K:U->ae->Prop} (j:hW P G f args r) (g:ar args=true) (h:K r l) :fP P G f args l (c:=⟨K⟩):=
 ⟨r,l,.pure j g,aF _,h⟩
theorem RL (q:P.follows .mixedOrders=true) (m:∀ g,(G g).ax=true) {f:cb} {args:ag} (h:fP P G f args [] (c:=⟨fun r _=>r=.bool true⟩))
  {w:aO} {A:Nat->Prop} {vs:Array aB} (o:∀ g,c5 w A (G g) (.pointer (some ⟨g,0,none⟩))) (p:vs.size=args.length)
  (t:∀ (j:Nat) (c:U) (v:aB),args[j]?=some c->vs[j]?=some v->c5 w A c v) :
  Calls P f vs w fun e w'=>e=.returned (.bool true)/\RowKit.Below w.heap.size w w':=by obtain⟨B,z,h1,u,rfl⟩:=h;exact W0 q m h1 o p t
end
section
variable {P:bg}
inductive cW (P:bg) :List aC->ag->Prop
 | nil:cW P [] []
 | bool {g:aC} {b:Bool} {j:List aC} {cs:ag} (m:P.underlying g=some .bool) (h:cW P j cs) :cW P (g::j) (.bool b::cs)
 | int {g:aC} {k:cQ} {n:Int} {j:List aC} {cs:ag} (m:P.underlying g=some (.int k)) (h1:k.min<=n) (q:n<=k.max) (h:cW P j cs) :cW P (g::j) (.int k n::cs)
 | str {g:aC} {s:List UInt8} {j:List aC} {cs:ag} (m:P.underlying g=some .string) (v:s.length<=maxLen) (h:cW P j cs) :cW P (g::j) (.str s::cs)
 | af {g e:aC} {j:List aC} {cs:ag} (m:P.underlying g=some (.slice e)) (h:cW P j cs) :cW P (g::j) (.af::cs)
 | ad {g e:aC} {o:List (ag)} {j:List aC} {cs:ag} (m:P.underlying g=some (.slice e)) (u:o.length<=maxLen) (w:∀ r∈o,r.length=P.cellsOf e) (t:∀ r∈o,cW P [e] r) (h:cW P j cs) :cW P (g::j) (.bj (P.cellsOf e) o::cs)
 | struct {g:aC} {p:Array Field} {j:List aC} {cs:ag} (m:P.underlying g=some (.struct p)) (h:cW P (p.toList.map (·.type)++j) cs) :cW P (g::j) cs
 | array {g e:aC} {n:Nat} {j:List aC} {cs:ag} (m:P.underlying g=some (.array n e)) (h:cW P (List.replicate n e++j) cs) :cW P (g::j) cs
def qi (P:bg) :List Field->Nat->Option Nat
 | [],g=>some g
 | f::r,g=>if f.offset=g then qi P r (g+P.cellsOf f.type) else none
def pv (P:bg) :Nat->aC->Bool
 | 0,_=>false
 | d+1,g=>match P.underlying g with
  | some .bool | some (.int _) | some .string=>true
  | some (.slice e)=>decide (0<P.cellsOf e)&&pv P d e
  | some (.struct h)=>decide (qi P h.toList 0=some (P.cellsOf g))&&h.toList.all fun f=>pv P d f.type
  | some (.array n e)=>decide (n*P.cellsOf e=P.cellsOf g)&&pv P d e
  | _=>false
structure mf (P:bg) (w:aO) (A:Nat->Prop) (ts:List aC) (vs:List aB) (cs:ag) :Prop where
 len:cs.length=vs.length
 ty:∀ g cs',cW P g cs'->cW P (ts++g) (cs++cs')
 ky:∀ (j:Nat) (c:U) (v:aB),cs[j]?=some c->vs[j]?=some v->c5 w A c v/\v.oneCell'=true
theorem mf.nil {w:aO} {A:Nat->Prop}:mf P w A [] [] []:=⟨rfl,fun _ _ h=>h,fun g c j h=>by simp at h⟩
theorem mf.app {w:aO} {A:Nat->Prop} {ts o:List aC} {vs q:List aB} {cs cs' : ag} (a:mf P w A ts vs cs) (b:mf P w A o q cs') :mf P w A (ts++o) (vs++q) (cs++cs'):=by
 refine⟨by simp[a.len,b.len],fun u t h=>by rw[fc,fc];exact a.ty _ _ (b.ty _ _ h),fun m c p j g=>?_⟩;by_cases h:m<cs.length
 ·rw[aS h] at j;rw[aS (by rw[<-a.len];exact h)] at g;exact a.ky m c p j g
 ·rw[ej F] at j;rw[ej (by rw[<-a.len];omega)] at g;rw[<-a.len] at g;exact b.ky _ c p j g
theorem yK {alZ j:Type} {f:alZ->Option j}:∀ {l:List alZ} {r:List j},l.mapM f=some r->∀ (p:Nat) (a:alZ),l[p]?=some a->∃ x,r[p]?=some x/\f a=some x
 | [],r,h,p,a,g=>by simp at g
 | a0::l,r,h,p,a,g=>by
  rw[oC] at h;simp only[Option.bind_eq_bind,bind_some,s3,bc] at h;obtain⟨b,h1,t,m,rfl⟩:=h;cases p with
  | zero=>simp only[g8,bc] at g;subst g;exact⟨b,rfl,h1⟩
  | succ p=>obtain⟨x,o,q⟩:=yK m p a (by simpa using g);exact⟨x,by simpa using o,q⟩
theorem wv {w:aO} {A:Nat->Prop} {c:U} {v:aB} (h:c5 w A c v) (h1:v.oneCell'=true) :∀ (j:Nat) (c' : U) (g:aB),[c][j]?=some c'->[v][j]?=some g->c5 w A c' g/\g.oneCell'=true:=by
 intro j c' g m o;cases j with
 | zero=>simp only[g8,bc] at m o;subst m o;exact⟨h,h1⟩
 | succ j=>simp at m
theorem W1 {g:Type} {enc:aC × aB->g} {w:aO} {base:Nat} {spare:Nat->Bool} {held:Bool} {fuel:Nat} {t:aC} {vs:List aB} {x:DataW g × List MemPlace}
  (j:P.underlying t=some .bool) (h:DataW.trod enc P w base spare held (fuel+1) t vs=some x) :∃ b,vs=[.bool b]:=by
 unfold DataW.trod at h;rw[j] at h;split at h
 case h_1 b _=>exact⟨b,rfl⟩
 all_goals first | (cases h;done) | (rename_i heq;cases heq;done) | (rename_i heq _;cases heq;done) | (rename_i heq _ _;cases heq;done) | (rename_i heq _ _ _;cases heq;done) | (simp_all;done)
theorem trod_int {j:Type} {enc:aC × aB->j} {w:aO} {base:Nat} {spare:Nat->Bool} {held:Bool} {fuel:Nat} {t:aC} {k:cQ} {vs:List aB} {x:DataW j × List MemPlace}
  (o:P.underlying t=some (.int k)) (h:DataW.trod enc P w base spare held (fuel+1) t vs=some x) :∃ n,vs=[.int k n]/\k.min<=n/\n<=k.max:=by
 unfold DataW.trod at h;rw[o] at h;split at h<;>simp only[reduceCtorEq,bc,TypeDesc.int.injEq] at *<;>try (exfalso;simp_all;done)
 rename_i q p n heq;subst heq;split at h
 ·rename_i m;obtain⟨rfl,g⟩:=m;simp only[Lit.wf,bN,bI] at g;exact⟨n,rfl,g.1,g.2⟩
 ·cases h
theorem W3 {g:Type} {enc:aC × aB->g} {w:aO} {base:Nat} {spare:Nat->Bool} {held:Bool} {fuel:Nat} {t:aC} {vs:List aB} {x:DataW g × List MemPlace}
  (m:P.underlying t=some .string) (h:DataW.trod enc P w base spare held (fuel+1) t vs=some x) :∃ s,vs=[.string s]/\s.size<=maxLen:=by
 unfold DataW.trod at h;rw[m] at h;split at h<;>simp only[reduceCtorEq,bc] at *<;>try (exfalso;simp_all;done)
 split at h
 ·rename_i s _ j;exact⟨s,rfl,j⟩
 ·cases h
theorem W2 {g:Type} {enc:aC × aB->g} {w:aO} {base:Nat} {spare:Nat->Bool} {held:Bool} {fuel:Nat} {t e:aC} {vs:List aB} {x:DataW g × List MemPlace}
  (m:P.underlying t=some (.slice e)) (h:DataW.trod enc P w base spare held (fuel+1) t vs=some x) :
  vs=[.slice none 0 0]\/∃ a len cap,vs=[.slice (some a) len cap]/\len<=cap/\cap<=maxLen/\∃ Bo,(List.range len).mapM (fun i=>(w.cells? base (a.add (i*P.cellsOf e)) (P.cellsOf e)).bind (DataW.trod enc P w base spare held fuel e))=some Bo:=by
 unfold DataW.trod at h;rw[m] at h;split at h<;>simp only[reduceCtorEq,bc,TypeDesc.slice.injEq] at *<;>try (exfalso;simp_all;done)
 ·exact .inl trivial
 ·rename_i o a len cap heq;subst heq;split at h
  ·rename_i j;rw[bind_some] at h;obtain⟨Bo,h1,_⟩:=h;exact .inr ⟨a,len,cap,rfl,j.2.1,j.2.2,Bo,h1⟩
  ·cases h
theorem W4 {g:Type} {enc:aC × aB->g} {w:aO} {base:Nat} {spare:Nat->Bool} {held:Bool} {fuel:Nat} {t:aC} {fs:Array Field} {vs:List aB} {x:DataW g × List MemPlace}
  (m:P.underlying t=some (.struct fs)) (h:DataW.trod enc P w base spare held (fuel+1) t vs=some x) :
  vs.length=P.cellsOf t/\∃ xs,(fs.toList.mapM fun f=>DataW.trod enc P w base spare held fuel f.type ((vs.drop f.offset).take (P.cellsOf f.type)))=some xs:=by
 unfold DataW.trod at h;rw[m] at h;split at h<;>simp only[reduceCtorEq,bc,TypeDesc.struct.injEq] at *<;>try (exfalso;simp_all;done)
 rename_i o heq;subst heq;split at h
 ·rename_i j;rw[map_some] at h;obtain⟨xs,h1,_⟩:=h;exact⟨j,xs,h1⟩
 ·cases h
theorem trod_array {g:Type} {enc:aC × aB->g} {w:aO} {base:Nat} {spare:Nat->Bool} {held:Bool} {fuel:Nat} {t e:aC} {n:Nat} {vs:List aB} {x:DataW g × List MemPlace}
  (m:P.underlying t=some (.array n e)) (h:DataW.trod enc P w base spare held (fuel+1) t vs=some x) :
  vs.length=P.cellsOf t/\∃ xs,((List.range n).mapM fun i=>DataW.trod enc P w base spare held fuel e ((vs.drop (i*P.cellsOf e)).take (P.cellsOf e)))=some xs:=by
 unfold DataW.trod at h;rw[m] at h;split at h<;>simp only[reduceCtorEq,bc,TypeDesc.array.injEq] at *<;>try (exfalso;simp_all;done)
 rename_i p o heq;obtain⟨rfl,rfl⟩:=heq;split at h
 ·rename_i j;rw[map_some] at h;obtain⟨xs,h1,_⟩:=h;exact⟨j,xs,h1⟩
 ·cases h
theorem Nu (a:Addr) (x j:Nat) :a.add (x+j)=(a.add x).add j:=by
 unfold Addr.add;by_cases h:x=0
 ·subst h;simp
 ·by_cases g:j=0
  ·subst g;simp
  ·rw[ak F,ak h,ak g];simp only[iE]
theorem add_plain (b o n:Nat) :(Addr.mk b o none).add n=⟨b,o+n,none⟩:=by
 unfold Addr.add;by_cases g:n=0
 ·subst g;simp
 ·rw[ak g]
theorem Lo {ai:Type} {enc:aC × aB->ai} {w:aO} {A:Nat->Prop} (av:∀ k,A k) {base:Nat} {spare:Nat->Bool} {held:Bool}:∀ (fuel:Nat) (D:Nat) (t:aC) (vs:List aB) (d:DataW ai) (ps:List MemPlace),
  pv P D t=true->DataW.trod enc P w base spare held fuel t vs=some (d,ps)->∃ cs,mf P w A [t] vs cs
 | 0,_,_,_,_,_,_,h=>by simp[DataW.trod] at h
 | fuel+1,0,t,vs,d,ps,o,h=>by cases o
 | fuel+1,D+1,t,vs,d,ps,o,h=>by
  have ap:=fun t vs d ps o h=>Lo av (enc:=enc) (w:=w) (base:=base) (spare:=spare) (held:=held) fuel D t vs d ps o h
  unfold pv at o;split at o
  ·rename_i j;obtain⟨b,rfl⟩:=W1 j h;exact⟨[.bool b],⟨rfl,fun T K h=>.bool j h,wv (.bool b) rfl⟩⟩
  ·rename_i k j;obtain⟨n,rfl,h1,u⟩:=trod_int j h;exact⟨[.int k n],⟨rfl,fun T K h=>.int j h1 u h,wv (.int k n) rfl⟩⟩
  ·rename_i j;obtain⟨s,rfl,h1⟩:=W3 j h;exact⟨[.str s.data.toList],⟨rfl,fun T K h=>.str j (show s.data.toList.length<=maxLen from h1) h,wv (.str s) rfl⟩⟩
  ·rename_i e j;simp only[bN,bI] at o;rcases W2 j h with rfl | ⟨a,len,cap,rfl,a2,a1,a0,aJ⟩
   ·exact⟨[.af],⟨rfl,fun T K h=>.af j h,wv .af rfl⟩⟩
   ·have ao:∀ i,i<len->∃ C row,w.cells? base (a.add (i*P.cellsOf e)) (P.cellsOf e)=some C/\mf P w A [e] C row:=fun i g=>by
     obtain⟨x,_,S⟩:=yK aJ i i (by rw[g9 g]);rw[bind_some] at S;obtain⟨C,h1,u⟩:=S;obtain⟨row,Y⟩:=ap e C x.1 x.2 o.2 u;exact⟨C,row,h1,Y⟩
    have aI:∃ (C:Nat->List aB) (rows:Nat->ag),∀ i,i<len->w.cells? base (a.add (i*P.cellsOf e)) (P.cellsOf e)=some (C i)/\mf P w A [e] (C i) (rows i):=by
     refine⟨fun i=>if g:i<len then (ao i g).choose else [],fun i=>if g:i<len then (ao i g).choose_spec.choose else [],fun i g=>?_⟩;simp only[dif_pos g];exact (ao i g).choose_spec.choose_spec
    obtain⟨C,rows,J⟩:=aI;have O:∀ i,i<len->(C i).length=P.cellsOf e/\∀ m,m<P.cellsOf e->∃ v,(C i)[m]?=some v/\w.cell? (a.add (i*P.cellsOf e+m))=some v:=fun i g=>by
     have h1:=(J i g).1;unfold World.cells? at h1;split at h1
     ·refine⟨by rw[Cl h1];simp,fun m Q=>?_⟩;obtain⟨v,u,Y⟩:=yK h1 m m (by rw[g9 Q]);refine⟨v,u,?_⟩;rw[<-Y,Nu]
     ·cases h1
    let I:=(List.range len).map rows
    have am:∀ (i:Nat) (r:ag),I[i]?=some r->i<len/\r=rows i:=fun i r z=>by
     simp only[I,bX] at z;by_cases g:i<len
     ·rw[g9 g] at z;simp only[cu,bc] at z;exact⟨g,z.symm⟩
     ·rw[dV (by simp;omega)] at z;cases z
    have W:I.length=len:=by simp[I]
    have ay:∀ r∈I,r.length=P.cellsOf e:=fun r z=>by
     obtain⟨i,g⟩:=xo z;obtain⟨h1,rfl⟩:=am i r g;rw[(J i h1).2.len,(O i h1).1]
    have aT:∀ r∈I,cW P [e] r:=fun r z=>by
     obtain⟨i,g⟩:=xo z;obtain⟨h1,rfl⟩:=am i r g;have:=(J i h1).2.ty [] [] .nil;simpa using this
    refine⟨[.bj (P.cellsOf e) I],⟨rfl,fun T K h=>.ad j F ay aT h,wv ?_ rfl⟩⟩;by_cases aG:len=0
    ·subst aG;exact .eB _ _ _
    ·obtain⟨a4,_,X⟩:=(O 0 F).2 0 o.1;have ax:a.spot=none:=by
      unfold World.cell? at X;split at X
      ·split at X
       ·cases X
       ·rename_i ae;rw[show 0*P.cellsOf e+0=0 by omega] at ae;simp only[Addr.add,if_true] at ae;cases aS:a.spot with
        | none=>rfl
        | some x=>rw[aS] at ae;simp at ae
      ·cases X
     obtain⟨aD,aX,a3⟩:=a;simp only at ax;subst ax;have aA:=az.bj (w:=w) (R:=A) (h:=aE.empty) (muZ:=fun _=>none) (P.cellsOf e) I aD aX cap (fun i m=>((C i)[m]?).getD undef) F ay
      (fun i m g Q=>by
       rw[W] at g;obtain⟨v,h1,u⟩:=(O i g).2 m Q;obtain⟨c,q⟩:∃ c,(rows i)[m]?=some c:=by
        have:m<(rows i).length:=by rw[(J i g).2.len,(O i g).1];exact Q
        exact⟨_,bC this⟩
       refine⟨?_,?_,av _,fun ⟨b,G,h1,u,Y⟩=>by cases u⟩
       ·rw[h1,gU,<-add_plain];exact u
       ·rw[h1,gU];exact ((J i g).2.ky m c v q h1).2)
      (fun i r z m c q=>by
       obtain⟨g,rfl⟩:=am i r z;have Q:m<P.cellsOf e:=by rw[<-(O i g).1,<-(J i g).2.len];exact (aH.1 q).1
       obtain⟨v,h1,u⟩:=(O i g).2 m Q;rw[h1,gU];exact ((J i g).2.ky m c v q h1).1)
     rw[W] at aA;exact aA
  ·rename_i p j;simp only[bN,bI,fW] at o;obtain⟨W,U,S⟩:=W4 j h;have al:∀ (p:List Field) (B:Nat) (U:List (DataW ai × List MemPlace)),qi P p B=some vs.length->B<=vs.length->(∀ f∈p,pv P D f.type=true)->
     (p.mapM fun f=>DataW.trod enc P w base spare held fuel f.type ((vs.drop f.offset).take (P.cellsOf f.type)))=some U->∃ cs,mf P w A (p.map (·.type)) (vs.drop B) cs:=by
    intro p
    induction p with
    | nil=>intro B U q aQ _ _;simp only[qi,bc] at q;rw[q,Ew];exact⟨[],.nil⟩
    | cons f p aU=>
     intro B U q aQ aw Z;simp only[qi] at q;split at q
     ·rename_i aK;rw[oC] at Z;simp only[Option.bind_eq_bind,bind_some,s3,bc] at Z;obtain⟨x,h1,aY,u,_⟩:=Z;have aP:∀ (p:List Field) (B n:Nat),qi P p B=some n->B<=n:=by
       intro p
       induction p with
       | nil=>intro B n h;simp only[qi,bc] at h;omega
       | cons au gs aV=>
        intro B n h;simp only[qi] at h;split at h
        ·have:=aV _ _ h;omega
        ·cases h
      have aN:=aP _ _ _ q;obtain⟨aj,aq⟩:=ap f.type _ x.1 x.2 (aw f V) h1;obtain⟨ak,ar⟩:=aU _ aY q aN (fun au aL=>aw au (by simp[aL])) u;refine⟨aj++ak,?_⟩;have:=aq.app ar;rw[aK,show List.drop (B+P.cellsOf f.type) vs=List.drop (P.cellsOf f.type) (List.drop B vs) by rw[uR],iY] at this;exact this
     ·cases q
   obtain⟨cs,H⟩:=al p.toList 0 U (by rw[W];exact o.1) (ek _) o.2 S;rw[lh] at H;exact⟨cs,⟨H.len,fun T K h=>.struct j (H.ty _ _ h),H.ky⟩⟩
  ·rename_i n e j;simp only[bN,bI] at o;obtain⟨W,U,S⟩:=trod_array j h;have aR:∀ i,i<n->∃ c,mf P w A [e] ((vs.drop (i*P.cellsOf e)).take (P.cellsOf e)) c:=fun i g=>by
    obtain⟨x,_,h1⟩:=yK S i i (by rw[g9 g]);exact ap e _ x.1 x.2 o.2 h1
   have al:∀ G,G<=n->∃ cs,mf P w A (List.replicate G e) (vs.drop ((n - G)*P.cellsOf e)) cs:=by
    intro G
    induction G with
    | zero=>intro _;rw[uZ,jS F];exact⟨[],.nil⟩
    | succ G aW=>
     intro Z;obtain⟨aj,aq⟩:=aR (n - (G+1)) F;obtain⟨ak,ar⟩:=aW F;refine⟨aj++ak,?_⟩;have:=aq.app ar;have aM:(n - G)*P.cellsOf e=(n - (G+1))*P.cellsOf e+P.cellsOf e:=by rw[<-ec];congr 1;omega
     rw[aM,<-uR,iY] at this;exact this
   obtain⟨cs,H⟩:=al n (aF _);rw[sZ,s1,lh] at H;exact⟨cs,⟨H.len,fun T K h=>.array j (H.ty _ _ h),H.ky⟩⟩
  ·cases o
def oP (P:bg) (t:aC) (c:U) :Prop:=match ds P t with
 | some true=>∃ cs,c=.ah cs/\cW P [t] cs
 | _=>cW P [t] [c]
inductive jt (P:bg) :List aC->ag->Prop
 | nil:jt P [] []
 | cons {g:aC} {c:U} {h:List aC} {cs:ag}:oP P g c->jt P h cs->jt P (g::h) (c::cs)
theorem Fr {I:Type} {enc:aC × aB->I} {w:aO} {A:Nat->Prop} (Q:∀ k,A k) {base J:Nat} {spare:Nat->Bool} {held:Bool} {D:Nat}:∀ {ts:List aC} {vs:List aB} {o:List (DataW I)} {ps:List MemPlace},
  (∀ t∈ts,pv P D t=true)->(∀ (j:Nat) t v,ts[j]?=some t->vs[j]?=some v->Value.okWide P w .any J t v)->DataW.TrodAll enc P w base spare held ts vs o ps->
  ∃ cs,jt P ts cs/\cs.length=vs.length/\∀ (j:Nat) (c:U) (v:aB),cs[j]?=some c->vs[j]?=some v->c5 w A c v
 | [],[],_,_,_,_,_=>⟨[],.nil,rfl,fun j c v h=>by simp at h⟩
 | [],_::_,o,_,_,_,h=>by cases o<;>cases h
 | _::_,[],o,_,_,_,h=>by cases o<;>cases h
 | _::_,_::_,[],_,_,_,h=>by cases h
 | t::ts,v::vs,d::o,ps,H,T,h=>by
  obtain⟨ap,q,⟨Y,u⟩,ak,_⟩:=h;obtain⟨cs,h1,Z,ae⟩:=Fr Q (fun t u=>H t (by simp[u])) (fun j t v u p=>T (j+1) t v (by simpa using u) (by simpa using p)) ak;obtain⟨j3,m⟩:=Lo Q Y D t v.cells.toList d ap (H t V) u;have W:cW P [t] j3:=by simpa using m.ty [] [] .nil
  have p:=T 0 t v rfl rfl;have O:∀ c,oP P t c->c5 w A c v->∃ cs,jt P (t::ts) cs/\cs.length=(v::vs).length/\∀ (j:Nat) (c:U) (iD:aB),cs[j]?=some c->(v::vs)[j]?=some iD->c5 w A c iD:=fun c g ag=>
   ⟨c::cs,.cons g h1,by simp[Z],fun j X iD F G=>by
    cases j with
    | zero=>simp only[g8,bc] at F G;subst F G;exact ag
    | succ j=>exact ae j X iD (by simpa using F) (by simpa using G)⟩
  unfold Value.okWide at p;have agg:ds P t=(P.underlying t).map fun d=>match d with | .struct _ | .array _ _=>true | _=>false:=rfl
  cases z:P.underlying t with
  | none=>
   exfalso;have:=H t V;cases D with
   | zero=>cases this
   | succ D=>unfold pv at this;rw[z] at this;cases this
  | some K=>
   rw[z] at p agg;have al:(∃ cs,v=.agg cs)->ds P t=some true->∃ cs,jt P (t::ts) cs/\cs.length=(v::vs).length/\∀ (j:Nat) (c:U) (iD:aB),cs[j]?=some c->(v::vs)[j]?=some iD->c5 w A c iD:=by
    rintro⟨xs,rfl⟩ C;refine O (.ah j3) (by unfold oP;rw[C];exact⟨j3,rfl,W⟩) (.ah j3 xs (by have:=m.len;simp only[Value.cells,q6] at this;exact this.symm) (fun j x B=>?_) (fun j c x g B=>?_))
    ·have ai:j<j3.length:=by rw[m.len];simp only[Value.cells,q6];exact (hT.1 B).1
     exact (m.ky j j3[j] x (bC ai) (by simpa [Value.cells] using B)).2
    ·exact (m.ky j c x g (by simpa [Value.cells] using B)).1
   have am:(∀ xs,v≠.agg xs)->ds P t=some false->∃ cs,jt P (t::ts) cs/\cs.length=(v::vs).length/\∀ (j:Nat) (c:U) (iD:aB),cs[j]?=some c->(v::vs)[j]?=some iD->c5 w A c iD:=by
    intro aj C;have R:v.cells.toList=[v]:=by cases v<;>first | rfl | exact bK rfl (aj _)
    have S:=m.len;rw[R] at S;obtain⟨c,rfl⟩:∃ c,j3=[c]:=List.length_eq_one_iff.1 S;refine O c (by unfold oP;rw[C];exact W) (m.ky 0 c v rfl (by rw[R];rfl)).1
   have ao:Cell.okWide P w .any J t v->∀ xs,v≠.agg xs:=by
    rintro g xs rfl;unfold Cell.okWide at g;rw[z] at g;cases K<;>simp[Cell.ok,z] at g
   cases K<;>simp only[cu] at agg<;>first
    | exact al (by obtain⟨cs,h,_⟩:=p;exact⟨cs,h⟩) agg
    | exact am (ao p) agg
end
abbrev bH (alZ:Type):=Option (List alZ)
def bH.l {alZ:Type} (s:bH alZ) :List alZ:=s.getD []
@[simp] theorem bH.aaG {alZ:Type}:bH.l (none:bH alZ)=[]:=rfl
@[simp] theorem bH.lE {alZ:Type} (l:List alZ) :bH.l (some l)=l:=rfl
def b0 {alZ:Type} (z:Nat) (enc:alZ->ag) :bH alZ->U
 | none=>.af
 | some l=>.bj z (l.map enc)
section
variable {alZ:Type} {z:Nat} {enc:alZ->ag}
@[simp] theorem ca (s:bH alZ) :bt (.ad z) (b0 z enc s)=some (.int .i64 s.l.length):=by cases s<;>simp[b0,bH.l]
@[simp] theorem n4 (s:bH alZ) (k:cQ) (i:Int) :bF (.ad z) (b0 z enc s) (.int k i)=if 0<=i then (s.l[i.toNat]?).map fun x=>.bR (enc x) 0 else none:=by
 cases s with
 | none=>by_cases h:0<=i<;>simp[b0,bH.l,bF,h]
 | some l=>by_cases h:0<=i<;>simp[b0,bH.l,h,Function.comp_def]
theorem c6 {s:bH alZ} {k:Nat} {y:alZ} (h:s.l[k]?=some y) :bF (.ad z) (b0 z enc s) (.int .i64 (k:Int))=some (.bR (enc y) 0):=by rw[n4];simp[h]
@[simp] theorem YT (s:bH alZ) :(b0 z enc s).cells=some [b0 z enc s]:=by cases s<;>rfl
theorem m0 (h:∀ x,ar (enc x)=true) (s:bH alZ) :(b0 z enc s).ax=true:=by
 cases s with
 | none=>rfl
 | some l=>
  simp only[b0,U.ax]
  induction l with
  | nil=>rfl
  | cons x l g=>simp only[dh,nV,h,g,kz]
end
theorem wrap_i64 {n:Int} (h1:-9223372036854775808<=n) (m:n<9223372036854775808) :IntKind.i64.wrap n=n:=by
 have g:(2 ^ IntKind.i64.bits:Int)=18446744073709551616:=by decide
 have h:(2 ^ (IntKind.i64.bits - 1) :Int)=9223372036854775808:=by decide
 have j:IntKind.i64.signed=true:=rfl;simp only[IntKind.wrap,g,h,j,nA,bI];split<;>omega
theorem aQ {alZ:Type} {l:List alZ} {k:Nat} (h:k<l.length) :∃ x,l[k]?=some x/\x∈l:=⟨l[k],bC h,Ey h⟩
section
variable {P:bg} {G:Nat->U}
theorem vl {t e:aC} (g:P.underlying t=some (.slice e)) {alZ:Type} (z:Nat) (enc:alZ->ag) (s:bH alZ) :dP P .eql t (b0 z enc s) .af=some (.bool s.isNone):=by cases s<;>simp[b0,dP,rE,dA,g]
theorem PK {e:aC} {k:cQ} (p:P.underlying e=some (.int k)) (m:ds P e=some false) {D:Nat} (x y:List Int) :∀ (n i:Nat),i+n=x.length->i+n=y.length->
  dA.n0 P (dA P (D+1)) e 1 (x.map (.int k)) (y.map (.int k)) n i=some (decide (x.drop i=y.drop i)):=by
 intro n
 induction n with
 | zero=>intro i q u;rw[jS F,jS F];simp[dA.n0]
 | succ n w=>
  intro i q u;have t:x[i]?=some x[i]:=bC F;have v:y[i]?=some y[i]:=bC F;unfold dA.n0;simp only[CJ m,nH,bX,t,v,cu];have o:dA P (D+1) e (.int k x[i]) (.int k y[i])=some (decide (x[i]=y[i])):=by
   unfold dA;rw[p];simp only[if_true];by_cases h:x[i]=y[i]<;>simp[h]
  rw[o];have g:x.drop i=x[i] ::x.drop (i+1):=l5 F;have j:y.drop i=y[i] ::y.drop (i+1):=l5 F;by_cases h:x[i]=y[i]
  ·simp only[h,oH];rw[w (i+1) F F];refine cm some (decide_eq_decide.2 ?_);rw[g,j,h];simp only[List.cons.injEq,true_and]
  ·simp only[h,u1];refine cm some (cp ?_).symm;rw[g,j];simp only[List.cons.injEq,h,false_and,xB]
theorem PQ {t e:aC} {k:cQ} {n:Nat} (j:P.underlying t=some (.array n e)) (m:P.underlying e=some (.int k)) (g:ds P e=some false) (h:b3 P e=some 1) {x y:List Int} (o:x.length=n) (p:y.length=n) {D:Nat} :
  dA P (D+2) t (.ah (x.map (.int k))) (.ah (y.map (.int k)))=some (decide (x=y)):=by unfold dA;rw[j];simp only[h];rw[PK m g x y n 0 F F];simp
theorem rJ {z:Nat} {es:List (ag)} (g:∀ e∈es,e.length=z) :es.flatten.length=es.length*z:=by
 induction es with
 | nil=>simp
 | cons e es j=>rw[gR,cg,g e V,j fun e h=>g e (by simp[h]),du,ec,sW]
theorem lx {z:Nat} {es:List (ag)} (m:∀ e∈es,e.length=z) {i j:Nat} {e:ag} (g:es[i]?=some e) (p:j<z) :es.flatten[i*z+j]?=e[j]?:=by
 induction es generalizing i with
 | nil=>simp at g
 | cons x es o=>
  have h:x.length=z:=m x V;cases i with
  | zero=>
   simp only[g8,bc] at g;subst g;rw[gR,s1,gT,aS F]
  | succ i=>
   simp only[ik] at g;rw[gR,ej (by rw[h,ec];omega),h,show (i+1)*z+j - z=i*z+j by rw[ec];omega];exact o (fun e g=>m e (by simp[g])) g
theorem Qe {z:Nat} {es:List (ag)} (g:∀ e∈es,e.length=z) (i:Nat) :es.flatten.drop (i*z)=(es.drop i).flatten:=by
 induction es generalizing i with
 | nil=>simp
 | cons x es m=>
  have j:x.length=z:=g x V;cases i with
  | zero=>simp
  | succ i=>
   rw[gR,show (i+1)*z=x.length+i*z by rw[ec,j,sW],List.drop_length_add_append,List.drop_succ_cons];exact m (fun e h=>g e (by simp[h])) i
theorem G6 {z:Nat} {es:List (ag)} (h:∀ e∈es,e.length=z) {i:Nat} {e:ag} (g:es[i]?=some e) :(es.flatten.drop (i*z)).take z=e:=by
 rw[Qe h];have j:i<es.length:=(aH.1 g).1;have:es.drop i=e::es.drop (i+1):=by rw[l5 j];congr 1;rw[bC j] at g;exact cd g
 rw[this,gR,hU (by rw[h e (cz g)];exact aF _),aI (by rw[h e (cz g)];exact aF _)]
theorem o6 {z:Nat} {es:List (ag)} (o:∀ e∈es,e.length=z) {i j:Nat} {e vs:ag} (g:es[i]?=some e) (u:j+vs.length<=z) :aw es.flatten (i*z+j) vs=(es.set i (aw e j vs)).flatten:=by
 have h:i<es.length:=(aH.1 g).1;have v:e.length=z:=o e (cz g);have p:es.drop i=e::es.drop (i+1):=by rw[l5 h];congr 1;rw[bC h] at g;exact cd g
 have q:(es.set i (aw e j vs)).flatten=(es.take i).flatten++(aw e j vs++(es.drop (i+1)).flatten):=by
  rw[re,aj h,jp,gR]
 have t:es.flatten=(es.take i).flatten++(e++(es.drop (i+1)).flatten):=by
  conv=>lhs;rw[<-iY i es]
  rw[p,jp,gR]
 have m:(es.take i).flatten.length=i*z:=by
  rw[rJ (z:=z) fun e g=>o e (gE g),cI,iF F]
 rw[q,t];simp only[aw];rw[pU,aI F,m,show i*z+j - i*z=j by omega,hU F,
  Ah,jS F,m,show i*z+j+vs.length - i*z=j+vs.length by omega,im,nB F]
 simp only[fc]
theorem cw {sgZ:aP} {i:Nat} {v:U} (h:sgZ i=v) :bh sgZ i v=sgZ:=by funext g;simp only[bh];split<;>simp_all
theorem jP {sgZ:aP} {g:Nat} {j:U} {h:Nat} {LH:U} (h1:sgZ g=j) (m:sgZ h=LH) :∃ s:aP,sgZ=bh (bh (s) g j) h LH:=⟨sgZ,by rw[cw h1,cw m]⟩
theorem gj {sgZ:aP} {g:Nat} {m:U} {h:Nat} {o:U} {j:Nat} {v3:U} (h1:sgZ g=m) (p:sgZ h=o) (q:sgZ j=v3) :∃ s:aP,sgZ=bh (bh (bh (s) g m) h o) j v3:=⟨sgZ,by rw[cw h1,cw p,cw q]⟩
theorem e2 {sgZ:aP} {g:Nat} {o:U} {h:Nat} {p:U} {j:Nat} {q:U} {m:Nat} {v4:U} (h1:sgZ g=o) (t:sgZ h=p) (u:sgZ j=q) (v:sgZ m=v4) :∃ s:aP,sgZ=bh (bh (bh (bh (s) g o) h p) j q) m v4:=⟨sgZ,by rw[cw h1,cw t,cw u,cw v]⟩
theorem gk {sgZ:aP} {g:Nat} {p:U} {h:Nat} {q:U} {j:Nat} {t:U} {m:Nat} {u:U} {o:Nat} {v5:U} (h1:sgZ g=p) (v:sgZ h=q) (w:sgZ j=t) (z:sgZ m=u) (B:sgZ o=v5) :∃ s:aP,sgZ=bh (bh (bh (bh (bh (s) g p) h q) j t) m u) o v5:=⟨sgZ,by rw[cw h1,cw v,cw w,cw z,cw B]⟩
theorem pJ {sgZ:aP} {g:Nat} {p:U} {h:Nat} {q:U} {j:Nat} {t:U} {m:Nat} {u:U} {o:Nat} {v:U} {i6:Nat} {nx:U} (h1:sgZ g=p) (w:sgZ h=q) (z:sgZ j=t) (B:sgZ m=u) (C:sgZ o=v) (D:sgZ i6=nx) :∃ s:aP,sgZ=bh (bh (bh (bh (bh (bh (s) g p) h q) j t) m u) o v) i6 nx:=⟨sgZ,by rw[cw h1,cw w,cw z,cw B,cw C,cw D]⟩
theorem zQ {sgZ:aP} {g:Nat} {q:U} {h:Nat} {t:U} {j:Nat} {u:U} {m:Nat} {v:U} {o:Nat} {w:U} {i6:Nat} {z:U} {p:Nat} {LI:U} (h1:sgZ g=q) (B:sgZ h=t) (C:sgZ j=u) (D:sgZ m=v) (F:sgZ o=w) (G:sgZ i6=z) (H:sgZ p=LI) :∃ s:aP,sgZ=bh (bh (bh (bh (bh (bh (bh (s) g q) h t) j u) m v) o w) i6 z) p LI:=⟨sgZ,by rw[cw h1,cw B,cw C,cw D,cw F,cw G,cw H]⟩
theorem zR {sgZ:aP} {g:Nat} {t:U} {h:Nat} {u:U} {j:Nat} {v:U} {m:Nat} {w:U} {o:Nat} {z:U} {i6:Nat} {B:U} {p:Nat} {C:U} {q:Nat} {LJ:U} (h1:sgZ g=t) (D:sgZ h=u) (F:sgZ j=v) (G:sgZ m=w) (H:sgZ o=z) (I:sgZ i6=B) (J:sgZ p=C) (K:sgZ q=LJ) :∃ s:aP,sgZ=bh (bh (bh (bh (bh (bh (bh (bh (s) g t) h u) j v) m w) o z) i6 B) p C) q LJ:=⟨sgZ,by rw[cw h1,cw D,cw F,cw G,cw H,cw I,cw J,cw K]⟩
theorem LC {sgZ:aP} {g:Nat} {u:U} {h:Nat} {v:U} {j:Nat} {w:U} {m:Nat} {z:U} {o:Nat} {B:U} {i6:Nat} {C:U} {p:Nat} {D:U} {q:Nat} {F:U} {t:Nat} {v9:U} (h1:sgZ g=u) (G:sgZ h=v) (H:sgZ j=w) (I:sgZ m=z) (J:sgZ o=B) (K:sgZ i6=C) (O:sgZ p=D) (P:sgZ q=F) (Q:sgZ t=v9) :∃ s:aP,sgZ=bh (bh (bh (bh (bh (bh (bh (bh (bh (s) g u) h v) j w) m z) o B) i6 C) p D) q F) t v9:=⟨sgZ,by rw[cw h1,cw G,cw H,cw I,cw J,cw K,cw O,cw P,cw Q]⟩
theorem Eb {sgZ:aP} {g:Nat} {v:U} {j:Nat} {w:U} {m:Nat} {z:U} {o:Nat} {B:U} {p:Nat} {C:U} {i6:Nat} {D:U} {q:Nat} {F:U} {t:Nat} {G:U} {u:Nat} {H:U} {h:Nat} {LD:U} (h1:sgZ g=v) (J:sgZ j=w) (K:sgZ m=z) (O:sgZ o=B) (P:sgZ p=C) (Q:sgZ i6=D) (R:sgZ q=F) (S:sgZ t=G) (T:sgZ u=H) (I:sgZ h=LD) :∃ s:aP,sgZ=bh (bh (bh (bh (bh (bh (bh (bh (bh (bh (s) g v) j w) m z) o B) p C) i6 D) q F) t G) u H) h LD:=⟨sgZ,by rw[cw h1,cw J,cw K,cw O,cw P,cw Q,cw R,cw S,cw T,cw I]⟩
theorem LB {sgZ:aP} {g:Nat} {w:U} {m:Nat} {B:U} {o:Nat} {C:U} {p:Nat} {D:U} {q:Nat} {F:U} {i6:Nat} {G:U} {t:Nat} {H:U} {u:Nat} {I:U} {v:Nat} {J:U} {h:Nat} {z:U} {j:Nat} {LF:U} (h1:sgZ g=w) (P:sgZ m=B) (Q:sgZ o=C) (R:sgZ p=D) (S:sgZ q=F) (T:sgZ i6=G) (V:sgZ t=H) (W:sgZ u=I) (X:sgZ v=J) (K:sgZ h=z) (O:sgZ j=LF) :∃ s:aP,sgZ=bh (bh (bh (bh (bh (bh (bh (bh (bh (bh (bh (s) g w) m B) o C) p D) q F) i6 G) t H) u I) v J) h z) j LF:=⟨sgZ,by rw[cw h1,cw P,cw Q,cw R,cw S,cw T,cw V,cw W,cw X,cw K,cw O]⟩
theorem Xn {sgZ:aP} {g:Nat} {z:U} {o:Nat} {D:U} {p:Nat} {F:U} {q:Nat} {G:U} {t:Nat} {H:U} {i6:Nat} {I:U} {u:Nat} {J:U} {v:Nat} {K:U} {w:Nat} {O:U} {h:Nat} {B:U} {j:Nat} {C:U} {m:Nat} {LG:U} (h1:sgZ g=z) (S:sgZ o=D) (T:sgZ p=F) (V:sgZ q=G) (W:sgZ t=H) (X:sgZ i6=I) (Y:sgZ u=J) (Z:sgZ v=K) (ae:sgZ w=O) (P:sgZ h=B) (Q:sgZ j=C) (R:sgZ m=LG) :∃ s:aP,sgZ=bh (bh (bh (bh (bh (bh (bh (bh (bh (bh (bh (bh (s) g z) o D) p F) q G) t H) i6 I) u J) v K) w O) h B) j C) m LG:=⟨sgZ,by rw[cw h1,cw S,cw T,cw V,cw W,cw X,cw Y,cw Z,cw ae,cw P,cw Q,cw R]⟩
section
variable {alZ:Type}
@[simp] theorem qj (l:ae) (z:Nat) (enc:alZ->ag) (s:bH alZ) :cD l z (b0 z enc s)=some ((s.l.map enc).flatten,s.l.length):=by cases s<;>simp[b0,cD]
end
theorem us {l:ae} {b:Nat} {c:am} (h:l[b]?=some c) :l.set b c=l:=by
 apply g7;intro j;rw[nC];by_cases g:b=j
 ·subst g;rw[aj rfl,aj (aY h)];exact h.symm
 ·rw[ak g]
theorem NH {l:ae} {z by_ b:Nat} {es xs:List (ag)} {x:U} (g:l[b]?=some (.cells (es.length*z) es.flatten)) (j:cD l z x=some (xs.flatten,xs.length)) (m:∀ e∈es,e.length=z) (o:z≠0) (p:by_≠0)
  (h:(es.length+xs.length)*by_<=db) :
  ep l z by_ (.ad z b 0 es.length es.length (es.length*z)) x=some (.ad z b 0 (es++xs).length (es++xs).length ((es++xs).length*z),l.set b (.cells ((es++xs).length*z) (es++xs).flatten)):=by
 unfold ep;rw[j];show ha l z by_ _ xs.flatten xs.length=_;unfold ha;cases xs with
 | nil=>simp[us g]
 | cons y q=>
  rw[ak V,ak F];simp only[g];rw[aj ⟨trivial,trivial,h⟩,ak V,ak F,aj trivial,aI (by rw[rJ m];exact aF _)];simp only[cg,jp]
theorem Fm {l:ae} {z by_ b n m sz:Nat} {es xs:List (ag)} {x:U} (h:l[b]?=some (.cells sz es.flatten)) (u:cD l z x=some (xs.flatten,m)) (p:es.length=n) (o:xs.length=m) (t:sz=n*z) (v:∀ e∈es,e.length=z) (g:z≠0) (j:by_≠0)
  (q:(n+m)*by_<=db) :
  ep l z by_ (.ad z b 0 n n sz) x=some (.ad z b 0 (n+m) (n+m) ((n+m)*z),l.set b (.cells ((n+m)*z) (es++xs).flatten)):=by subst p o t;rw[NH h u v g j q];simp only[cg]
theorem NG {l:ae} {z by_:Nat} {xs:List (ag)} {x:U} (j:cD l z x=some (xs.flatten,xs.length)) (m:z≠0) (o:by_≠0) (g:xs≠[]) (h:xs.length*by_<=db) :
  ep l z by_ .af x=some (.ad z l.length 0 xs.length xs.length (xs.length*z),l++[.cells (xs.length*z) xs.flatten]):=by unfold ep;rw[j];show ha l z by_ _ xs.flatten xs.length=_;unfold ha;rw[ak (by simp[g]),ak F];simp only;rw[aj h]
theorem cH {cs vs:ag} (h:vs.length=cs.length) :aw cs 0 vs=vs:=by simp only[aw,mR,im,gT];rw[jS F,eb]
theorem FI (len cap:Nat) (k:cQ) (i:Int) :eY len cap (some (.int k i)) none none=if 0<=i/\i<=len then some (i.toNat,len,cap) else none:=by
 unfold eY gM;by_cases h:0<=i/\i<=len
 ·simp only[aj h]
 ·simp only[ak h]
theorem A0 (len cap:Nat) (k:cQ) (i:Int) :eY len cap none (some (.int k i)) none=if 0<=i/\i<=cap then some (0,i.toNat,cap) else none:=by
 unfold eY gM;by_cases h:0<=i/\i<=cap
 ·simp only[aj h]
 ·simp only[ak h]
theorem N6 (len cap:Nat) (k k' : cQ) (i j:Int) :eY len cap (some (.int k i)) (some (.int k' j)) none=if 0<=i/\i<=j/\j<=cap then some (i.toNat,j.toNat,cap) else none:=by
 unfold eY gM;by_cases h:0<=j/\j<=cap
 ·simp only[aj h];by_cases g:0<=i/\i<=((j.toNat:Nat) :Int)
  ·simp only[aj g];rw[aj F]
  ·simp only[ak g];rw[ak F]
 ·simp only[ak h];rw[ak F]
theorem KG {alZ:Type} {z:Nat} {enc:alZ->ag} {l:List alZ} {k:cQ} {i:Int} (h1:0<=i) (g:i<=l.length) :dB (.ad z) (b0 z enc (some l)) (some (.int k i)) none none=some (b0 z enc (some (l.drop i.toNat))):=by have h:i.toNat<=l.length:=F;simp only[dB,b0,if_true,FI,cC];rw[aj ⟨h1,g⟩];simp only[cu,bc,U.bj.injEq,true_and];rw[aI V,xq]
theorem DI {alZ:Type} {z:Nat} {enc:alZ->ag} {l:List alZ} {k:cQ} {i:Int} (h1:0<=i) (g:i<=l.length) :dB (.ad z) (b0 z enc (some l)) none (some (.int k i)) none=some (b0 z enc (some (l.take i.toNat))):=by simp only[dB,b0,if_true,A0,cC];rw[aj ⟨h1,g⟩];simp only[cu,bc,U.bj.injEq,true_and,lh,uZ];rw[mP]
theorem We {alZ:Type} {z:Nat} {enc:alZ->ag} {l:List alZ} {k k' : cQ} {i j:Int} (g:0<=i) (h1:i<=j) (h:j<=l.length) :dB (.ad z) (b0 z enc (some l)) (some (.int k i)) (some (.int k' j)) none=some (b0 z enc (some ((l.drop i.toNat).take (j.toNat - i.toNat)))):=by simp only[dB,b0,if_true,N6,cC];rw[aj ⟨g,h1,h⟩];simp only[cu,bc,U.bj.injEq,true_and];rw[mP,xq]
end
section
variable {P:bg}
def K6 (P:bg) (t:aC) :Option (List aC):=match P.underlying t with
 | some (.struct g)=>some (g.toList.map (·.type))
 | _=>none
theorem sv {cs:ag} (h:cW P [] cs) :cs=[]:=by cases h;rfl
theorem nu {t:aC} {k:cQ} {ts:List aC} {cs:ag} (m:P.underlying t=some (.int k)) (h:cW P (t::ts) cs) :∃ n cs',cs=.int k n::cs'/\k.min<=n/\n<=k.max/\cW P ts cs':=by
 cases h
 case int o n cs' h1 j g h=>
  rw[m] at g;cases g;exact⟨_,_,rfl,h1,j,h⟩
 all_goals (exfalso;simp_all;done)
theorem Xd {t:aC} {ts:List aC} {cs:ag} (g:P.underlying t=some .bool) (h:cW P (t::ts) cs) :∃ b cs',cs=.bool b::cs'/\cW P ts cs':=by
 cases h
 case bool b cs' j h=>exact⟨_,_,rfl,h⟩
 all_goals (exfalso;simp_all;done)
theorem nv {t:aC} {fs ts:List aC} {cs:ag} (g:K6 P t=some fs) (h:cW P (t::ts) cs) :cW P (fs++ts) cs:=by
 unfold K6 at g;cases h
 case struct m j h=>rw[j] at g;cases g;exact h
 all_goals (exfalso;simp_all;done)
theorem Xc {t e:aC} {n:Nat} {ts:List aC} {cs:ag} (j:P.underlying t=some (.array n e)) (h:cW P (t::ts) cs) :cW P (List.replicate n e++ts) cs:=by
 cases h
 case array m o g h=>rw[j] at g;cases g;exact h
 all_goals (exfalso;simp_all;done)
theorem Xh {t e:aC} {ts:List aC} {cs:ag} (p:P.underlying t=some (.slice e)) (h:cW P (t::ts) cs) :
  ∃ cs',cW P ts cs'/\(cs=.af::cs'\/∃ es,cs=.bj (P.cellsOf e) es::cs'/\es.length<=maxLen/\∀ r∈es,cW P [e] r):=by
 cases h
 case af j cs' g h=>exact⟨_,h,.inl rfl⟩
 case ad j es cs' o q m g h=>rw[p] at g;cases g;exact⟨_,h,.inr ⟨es,rfl,o,m⟩⟩
 all_goals (exfalso;simp_all;done)
theorem Km {alZ:Type} {enc:alZ->ag} {Q:alZ->Prop}:∀ (es:List (ag)),(∀ r∈es,∃ x,r=enc x/\Q x)->∃ xs:List alZ,es=xs.map enc/\∀ x∈xs,Q x
 | [],_=>⟨[],rfl,fun x g=>by cases g⟩
 | r::es,h=>by
  obtain⟨x,rfl,g⟩:=h r V;obtain⟨xs,rfl,o⟩:=Km es (fun r m=>h r (by simp[m]));exact⟨x::xs,rfl,fun y j=>by
   rcases fX.1 j with rfl | j
   ·exact g
   ·exact o y j⟩
theorem w6 {alZ:Type} {t e:aC} {z:Nat} {enc:alZ->ag} {Q:alZ->Prop} {ts:List aC} {cs:ag} (q:P.underlying t=some (.slice e)) (w:P.cellsOf e=z) (j:∀ r,cW P [e] r->∃ x,r=enc x/\Q x) (h:cW P (t::ts) cs) :
  ∃ (s:bH alZ) (cs' : ag),cs=b0 z enc s::cs'/\s.l.length<=maxLen/\(∀ x∈s.l,Q x)/\cW P ts cs':=by
 obtain⟨cs',h1,rfl | ⟨g,rfl,m,o⟩⟩:=Xh q h
 ·exact⟨none,cs',rfl,ek _,fun x u=>(by cases u),h1⟩
 ·obtain⟨B,rfl,v⟩:=Km (enc:=enc) (Q:=Q) g (fun r p=>j r (o r p));refine⟨some B,cs',?_,by simpa using m,v,h1⟩;rw[w];rfl
theorem W9 {t:aC} {c:U} (g:ds P t=some true) (h:oP P t c) :∃ cs,c=.ah cs/\cW P [t] cs:=by unfold oP at h;rw[g] at h;exact h
theorem Xa {t:aC} {c:U} (g:ds P t=some false) (h:oP P t c) :cW P [t] [c]:=by unfold oP at h;rw[g] at h;exact h
theorem Lu {t:aC} {ts:List aC} {cs:ag} (h:jt P (t::ts) cs) :∃ c cs',cs=c::cs'/\oP P t c/\jt P ts cs':=by
 cases h with
 | cons h1 g=>exact⟨_,_,rfl,h1,g⟩
theorem W7 {cs:ag} (h:jt P [] cs) :cs=[]:=by cases h;rfl
end
end Go.bf
namespace Go.bf
open Go Go.ChangeShapes Go.RowKit
theorem Lm {m:Type} {enc:aC × aB->m} {P:bg} (q:laidOutB P=true) {W o:aO} (p:Below W.heap.size W o) :∀ {ts:List aC} {vs:List aB} {g:List (DataW m)} {ps:List MemPlace},
  (∀ t∈ts,P.readableRec t=true/\t<P.types.size)->DataW.TrodAll enc P W 0 (fun _=>true) true ts vs g ps->DataW.TrodAll enc P o 0 (fun b=>decide (b<W.heap.size)) true ts vs g ps
 | [],vs,g,ps,_,h=>by
  obtain⟨rfl,rfl,rfl⟩:=trodAll_nil h;exact trodAll_mk0
 | t::ts,vs,g,ps,j,h=>by
  have v:=h.lt;obtain⟨C,D,d,B,a,b,rfl,rfl,rfl,h1,u⟩:=trodAll_cons h;exact⟨a,b,Below.trod q (j t V).1 (j t V).2 h1 p (fun x z=>v x (by simp[z])),Lm q p (fun t w=>j t (by simp[w])) u,rfl⟩
theorem RM {P:bg} {G:Nat->U} (I:P.follows .mixedOrders=true) (w:∀ g,(G g).ax=true) {f:cb} {ts:List aC} (D:Nat) (K:∀ t∈ts,pv P D t=true) (F:laidOutB P=true)
  (O:∀ t∈ts,P.readableRec t=true/\t<P.types.size) (T:∀ cs,jt P ts cs->fP P G f cs [] (c:=⟨fun r _=>r=.bool true⟩))
  {o:Type} {enc:aC × aB->o} {W:aO} {u:Nat} {args:Array aB} {p:List (DataW o)} {ps:List MemPlace} (C:∀ g,c5 W (fun _=>True) (G g) (.pointer (some ⟨g,0,none⟩)))
  (J:∀ (j:Nat) t v,ts[j]?=some t->args[j]?=some v->Value.okWide P W .any u t v) (h:DataW.TrodAll enc P W 0 (fun _=>true) true ts args.toList p ps) :
  Calls P f args W fun e w'=>e=.returned (.bool true)/\Below W.heap.size W w'/\DataW.TrodAll enc P w' 0 (fun b=>decide (b<W.heap.size)) true ts args.toList p ps:=by obtain⟨cs,R,H,S⟩:=Fr (A:=fun _=>True) (fun _=>trivial) K (fun j t v Q m=>J j t v Q (by simpa using m)) h;exact (RL I w (T cs R) C (by rw[H];simp) (fun j c v z m=>S j c v z (by simpa using m))).mono fun e w' ⟨B,q⟩=>⟨B,q,Lm F q O h⟩
end Go.bf
namespace Go.bf
open Go
section
variable (P:bg)
end
def Fs (x:U) :Option Int:=match x with
 | .int k i=>match k with | .i64=>some i | _=>none
 | _=>none
def h3 (z:Nat) (cs vs:ag) (i len:Nat) :ag:=cs.take (i*z)++vs++(cs.drop (i*z)).take ((len - i)*z)++cs.drop ((len+1)*z)
def HJ (z by_:Nat) (h:aE) (s:U) (i:Nat) (bv:Nat) (vs:ag) :Option (U × aE):=match s with
 | .af=>if i=0/\by_<=db then some (.ad z h.n 0 1 1 z,h.push (.cells z vs)) else none
 | .ad o b j len cap m=>match h.f b with
  | .cells g cs=>if g=cap*z/\m=cap*z/\o=z/\j=0/\bv≠b/\i<=len/\len<=cap/\(len+1)*by_<=db then
    some (.ad z h.n 0 (len+1) (max cap (len+1)) (max cap (len+1)*z),(h.set b .dead).push (.cells (max cap (len+1)*z) (h3 z cs vs i len))) else none
  | _=>none
 | _=>none
def tE (z by_:Nat) (args:ag) (h:aE) :Option (U × aE):=match args with
 | [s,x,y]=>match Fs x,y with
  | some i,.ad u g p m j q=>match h.f g with
   | .cells o t=>if u=z/\p=0/\m=1/\j=1/\q=z/\o=z/\0<=i then HJ z by_ h s i.toNat g t else none
   | _=>none
  | _,_=>none
 | _=>none
class EY (P:bg) (G:Nat->U) where
 get:cb->Option (Nat × Nat)
 ok:∀ f z by_,get f=some (z,by_)->∀ args h r h',tE z by_ args h=some (r,h')->jq P G f args h r h'
instance (priority:=10) j (P:bg) (G:Nat->U) :EY P G:=⟨fun _=>none,fun f m g h=>by cases h⟩
section
variable (P:bg) (G:Nat->U)
end
abbrev cM (t:Nat) :aT:=.tmp t
abbrev U.i6 (n:Int) :U:=.int .i64 n
abbrev am.q (sz:Nat) (cs:ag) :am:=.cells sz cs
def bO (n:Nat) (c:U) :ag:=List.replicate n c
abbrev jN (i d x:Nat) :c0:=⟨i,some d,none,.fv (.dS (.tmp x)),[],false⟩
abbrev ez (i d:Nat) (m:dm) :c0:=⟨i,some d,none,.fv m,[],false⟩
abbrev wT (i:Nat) (m:dm) :c0:=⟨i,none,none,.fv m,[],false⟩
abbrev sc (i d:Nat) (f:cb) (args:List aT) :c0:=⟨i,some d,none,.kL f args,[],false⟩
abbrev ut (i d j:Nat) (w:Bool) (m:dm) :c0:=⟨i,some d,some (some j,w),.fv m,[],false⟩
@[simp] theorem abG (n:Nat) (c:U) :(bO n c).length=n:=by simp[bO]
def u {w:Nat} (a:BitVec w) :Int:=(a.toNat:Int)
@[simp] theorem qA {w:Nat} (a:BitVec w) :BitVec.ofInt w (u a)=a:=by unfold u;rw[nz,Eo,BitVec.setWidth_eq]
@[simp] theorem jO {w:Nat} (a b:BitVec w) :(u a=u b)<->a=b:=⟨fun h=>eC (by unfold u at h;exact Int.ofNat_inj.1 h),fun h=>by rw[h]⟩
@[simp] theorem acg {w:Nat} (a b:BitVec w) :(u a<u b)<->a<b:=by unfold u;rw[Int.ofNat_lt];rfl
@[simp] theorem acf {w:Nat} (a b:BitVec w) :(u a<=u b)<->a<=b:=by unfold u;rw[Int.ofNat_le];rfl
@[simp] theorem ach {w:Nat} (a:BitVec w) :0<=u a:=Ae _
@[simp] theorem aci {w:Nat} (a:BitVec w) :(u a).toNat=a.toNat:=fb _
@[simp] theorem abq {w:Nat} (a b:Int) :BitVec.ofInt w (a - b)=BitVec.ofInt w a - BitVec.ofInt w b:=by rw[Int.sub_eq_add_neg,BitVec.ofInt_add,BitVec.ofInt_neg,BitVec.sub_eq_add_neg]
attribute [simp] BitVec.ofInt_add BitVec.ofInt_mul
theorem tZ {w:Nat} (v:Nat) (a:BitVec w) :BitVec.ofInt v (u a)=a.setWidth v:=by unfold u;rw[nz,Eo]
section
abbrev a7 (a:BitVec 8) :U:=.int .u8 (u a)
@[simp] theorem X9 (n:Int) :IntKind.u8.wrap n=u (BitVec.ofInt 8 n):=by
 have g:(2 ^ IntKind.u8.bits:Int)=256:=by decide
 have h:IntKind.u8.signed=false:=rfl;simp only[IntKind.wrap,g,h,q8,kA,if_false,u,Ab];have:(2 ^ 8:Nat)=256:=by decide
 rw[this];omega
theorem YI (a:BitVec 8) (k' : cQ) (n:Nat) :cn .shl .u8 (u a) k' (n:Int)=some (.int .u8 (u (a <<< n))):=by
 have g:¬((n:Int)<0):=F;show (if (n:Int)<0 then none else some (U.int .u8 (IntKind.u8.wrap ((a.toNat:Int)*2 ^ min (n:Int).toNat 8))))=_;rw[ak g];congr 2;rw[X9,fb];unfold u;congr 1;have:((a.toNat:Int)*2 ^ min n 8)=((a.toNat*2 ^ min n 8:Nat) :Int):=by rw[Int.natCast_mul,uP];rfl
 rw[this,nz,e3,sM,nI];rcases fB n 8 with h | h
 ·rw[iF (jW h)]
 ·rw[uX h];have h1:a.toNat*2 ^ 8 % 2 ^ 8=0:=EP _ _;obtain⟨j,rfl⟩:=EN h;rw[h1,rg,EO,EQ]
theorem YL (a:BitVec 8) (k' : cQ) (n:Nat) :cn .shr .u8 (u a) k' (n:Int)=some (.int .u8 (u (a >>> n))):=by
 have g:¬((n:Int)<0):=F;show (if (n:Int)<0 then none else some (U.int .u8 ((a.toNat:Int).fdiv (2 ^ min (n:Int).toNat 8))))=_;rw[ak g];congr 2;rw[fb];unfold u;have:((2:Int) ^ min n 8)=((2 ^ min n 8:Nat) :Int):=by rw[uP];rfl
 rw[this,Ad _ (Ae _),<-Eu,lg,hp];congr 1;rcases fB n 8 with h | h
 ·rw[iF (jW h)]
 ·rw[uX h,pV a.isLt,pV (l8 a.isLt (ER F h))]
end
section
abbrev x6 (a:BitVec 16) :U:=.int .u16 (u a)
end
section
abbrev a1 (a:BitVec 32) :U:=.int .u32 (u a)
@[simp] theorem uI (n:Int) :IntKind.u32.wrap n=u (BitVec.ofInt 32 n):=by
 have g:(2 ^ IntKind.u32.bits:Int)=4294967296:=by decide
 have h:IntKind.u32.signed=false:=rfl;simp only[IntKind.wrap,g,h,q8,kA,if_false,u,Ab];have:(2 ^ 32:Nat)=4294967296:=by decide
 rw[this];omega
@[simp] theorem acm (a:Int) :qY .xor (.int .u32 a)=some (.int .u32 (u (~~~(BitVec.ofInt 32 a)))):=by
 show some (U.int .u32 (IntKind.u32.wrap (u (BitVec.ofInt 32 (4294967295:Int) ^^^ BitVec.ofInt 32 a))))=_;rw[uI,qA];have:BitVec.ofInt 32 (4294967295:Int)=BitVec.allOnes 32:=by decide
 rw[this,BitVec.allOnes_xor]
theorem N8 (a:BitVec 32) (k' : cQ) (n:Nat) :cn .shl .u32 (u a) k' (n:Int)=some (.int .u32 (u (a <<< n))):=by
 have g:¬((n:Int)<0):=F;show (if (n:Int)<0 then none else some (U.int .u32 (IntKind.u32.wrap ((a.toNat:Int)*2 ^ min (n:Int).toNat 32))))=_;rw[ak g];congr 2;rw[uI,fb];unfold u;congr 1;have:((a.toNat:Int)*2 ^ min n 32)=((a.toNat*2 ^ min n 32:Nat) :Int):=by rw[Int.natCast_mul,uP];rfl
 rw[this,nz,e3,sM,nI];rcases fB n 32 with h | h
 ·rw[iF (jW h)]
 ·rw[uX h];have h1:a.toNat*2 ^ 32 % 2 ^ 32=0:=EP _ _;obtain⟨j,rfl⟩:=EN h;rw[h1,rg,EO,EQ]
theorem N9 (a:BitVec 32) (k' : cQ) (n:Nat) :cn .shr .u32 (u a) k' (n:Int)=some (.int .u32 (u (a >>> n))):=by
 have g:¬((n:Int)<0):=F;show (if (n:Int)<0 then none else some (U.int .u32 ((a.toNat:Int).fdiv (2 ^ min (n:Int).toNat 32))))=_;rw[ak g];congr 2;rw[fb];unfold u;have:((2:Int) ^ min n 32)=((2 ^ min n 32:Nat) :Int):=by rw[uP];rfl
 rw[this,Ad _ (Ae _),<-Eu,lg,hp];congr 1;rcases fB n 32 with h | h
 ·rw[iF (jW h)]
 ·rw[uX h,pV a.isLt,pV (l8 a.isLt (ER F h))]
@[simp] theorem YG (a:BitVec 32) (k' : cQ) (n:Int) (h:0<=n) :cn .shl .u32 (u a) k' n=some (.int .u32 (u (a <<< n.toNat))):=by obtain⟨g,rfl⟩:=l4 h;exact N8 a k' g
@[simp] theorem YJ (a:BitVec 32) (k' : cQ) (n:Int) (h:0<=n) :cn .shr .u32 (u a) k' n=some (.int .u32 (u (a >>> n.toNat))):=by obtain⟨g,rfl⟩:=l4 h;exact N9 a k' g
@[simp] theorem N7 (a b:BitVec 32) (h:b≠0#32) :cn .rem .u32 (u a) .u32 (u b)=some (.int .u32 (u (a % b))):=by
 have g:(b.toNat:Int)≠0:=fun e=>h (eC (by simpa using e))
 show (if IntKind.u32=IntKind.u32/\(b.toNat:Int)≠0 then some (U.int .u32 ((a.toNat:Int).tmod b.toNat)) else none)=_;rw[aj ⟨rfl,g⟩];unfold u;rw[jR];rfl
@[simp] theorem YN (a b:Int) :cn .xor .u32 a .u32 b=some (.int .u32 (u (BitVec.ofInt 32 a ^^^ BitVec.ofInt 32 b))):=by show some (U.int .u32 (IntKind.u32.wrap (u (BitVec.ofInt 32 a ^^^ BitVec.ofInt 32 b))))=_;rw[uI,qA]
@[simp] theorem YE (a b:Int) :cn .or .u32 a .u32 b=some (.int .u32 (u (BitVec.ofInt 32 a ||| BitVec.ofInt 32 b))):=by show some (U.int .u32 (IntKind.u32.wrap (u (BitVec.ofInt 32 a ||| BitVec.ofInt 32 b))))=_;rw[uI,qA]
@[simp] theorem Yr (a b:Int) :cn .and .u32 a .u32 b=some (.int .u32 (u (BitVec.ofInt 32 a &&& BitVec.ofInt 32 b))):=by show some (U.int .u32 (IntKind.u32.wrap (u (BitVec.ofInt 32 a &&& BitVec.ofInt 32 b))))=_;rw[uI,qA]
end
section
abbrev cX (a:BitVec 64) :U:=.int .u64 (u a)
@[simp] theorem uJ (n:Int) :IntKind.u64.wrap n=u (BitVec.ofInt 64 n):=by
 have g:(2 ^ IntKind.u64.bits:Int)=18446744073709551616:=by decide
 have h:IntKind.u64.signed=false:=rfl;simp only[IntKind.wrap,g,h,q8,kA,if_false,u,Ab];have:(2 ^ 64:Nat)=18446744073709551616:=by decide
 rw[this];omega
theorem FK (a:BitVec 64) (k' : cQ) (n:Nat) :cn .shl .u64 (u a) k' (n:Int)=some (.int .u64 (u (a <<< n))):=by
 have g:¬((n:Int)<0):=F;show (if (n:Int)<0 then none else some (U.int .u64 (IntKind.u64.wrap ((a.toNat:Int)*2 ^ min (n:Int).toNat 64))))=_;rw[ak g];congr 2;rw[uJ,fb];unfold u;congr 1;have:((a.toNat:Int)*2 ^ min n 64)=((a.toNat*2 ^ min n 64:Nat) :Int):=by rw[Int.natCast_mul,uP];rfl
 rw[this,nz,e3,sM,nI];rcases fB n 64 with h | h
 ·rw[iF (jW h)]
 ·rw[uX h];have h1:a.toNat*2 ^ 64 % 2 ^ 64=0:=EP _ _;obtain⟨j,rfl⟩:=EN h;rw[h1,rg,EO,EQ]
theorem qb (a:BitVec 64) (k' : cQ) (n:Nat) :cn .shr .u64 (u a) k' (n:Int)=some (.int .u64 (u (a >>> n))):=by
 have g:¬((n:Int)<0):=F;show (if (n:Int)<0 then none else some (U.int .u64 ((a.toNat:Int).fdiv (2 ^ min (n:Int).toNat 64))))=_;rw[ak g];congr 2;rw[fb];unfold u;have:((2:Int) ^ min n 64)=((2 ^ min n 64:Nat) :Int):=by rw[uP];rfl
 rw[this,Ad _ (Ae _),<-Eu,lg,hp];congr 1;rcases fB n 64 with h | h
 ·rw[iF (jW h)]
 ·rw[uX h,pV a.isLt,pV (l8 a.isLt (ER F h))]
@[simp] theorem YH (a:BitVec 64) (k' : cQ) (n:Int) (h:0<=n) :cn .shl .u64 (u a) k' n=some (.int .u64 (u (a <<< n.toNat))):=by obtain⟨g,rfl⟩:=l4 h;exact FK a k' g
@[simp] theorem YK (a:BitVec 64) (k' : cQ) (n:Int) (h:0<=n) :cn .shr .u64 (u a) k' n=some (.int .u64 (u (a >>> n.toNat))):=by obtain⟨g,rfl⟩:=l4 h;exact qb a k' g
@[simp] theorem ru (a b:BitVec 64) (h:b≠0#64) :cn .rem .u64 (u a) .u64 (u b)=some (.int .u64 (u (a % b))):=by
 have g:(b.toNat:Int)≠0:=fun e=>h (eC (by simpa using e))
 show (if IntKind.u64=IntKind.u64/\(b.toNat:Int)≠0 then some (U.int .u64 ((a.toNat:Int).tmod b.toNat)) else none)=_;rw[aj ⟨rfl,g⟩];unfold u;rw[jR];rfl
@[simp] theorem YO (a b:Int) :cn .xor .u64 a .u64 b=some (.int .u64 (u (BitVec.ofInt 64 a ^^^ BitVec.ofInt 64 b))):=by show some (U.int .u64 (IntKind.u64.wrap (u (BitVec.ofInt 64 a ^^^ BitVec.ofInt 64 b))))=_;rw[uJ,qA]
@[simp] theorem YF (a b:Int) :cn .or .u64 a .u64 b=some (.int .u64 (u (BitVec.ofInt 64 a ||| BitVec.ofInt 64 b))):=by show some (U.int .u64 (IntKind.u64.wrap (u (BitVec.ofInt 64 a ||| BitVec.ofInt 64 b))))=_;rw[uJ,qA]
@[simp] theorem Fy (a b:Int) :cn .and .u64 a .u64 b=some (.int .u64 (u (BitVec.ofInt 64 a &&& BitVec.ofInt 64 b))):=by show some (U.int .u64 (IntKind.u64.wrap (u (BitVec.ofInt 64 a &&& BitVec.ofInt 64 b))))=_;rw[uJ,qA]
end
@[simp] theorem Y6 (a:BitVec 8) :BitVec.ofInt 32 (u a)=a.setWidth 32:=tZ 32 a
@[simp] theorem Y7 (a:BitVec 8) :BitVec.ofInt 64 (u a)=a.setWidth 64:=tZ 64 a
@[simp] theorem Y3 (a:BitVec 32) :BitVec.ofInt 8 (u a)=a.setWidth 8:=tZ 8 a
@[simp] theorem Y2 (a:BitVec 32) :BitVec.ofInt 64 (u a)=a.setWidth 64:=tZ 64 a
@[simp] theorem Y5 (a:BitVec 64) :BitVec.ofInt 8 (u a)=a.setWidth 8:=tZ 8 a
@[simp] theorem Y4 (a:BitVec 64) :BitVec.ofInt 32 (u a)=a.setWidth 32:=tZ 32 a
@[simp] theorem acj {w:Nat}:u (0#w)=0:=by simp[u]
theorem A1 (k:Nat) (c:Int) (j:0<c) (hk:k<9223372036854775808) :cn .quo .i64 (k:Int) .i64 c=some (.int .i64 ((k / c.toNat:Nat) :Int)):=by obtain⟨g,rfl⟩:=l4 (Int.le_of_lt j);have m:(g:Int)≠0:=F;show (if IntKind.i64=IntKind.i64/\(g:Int)≠0 then some (U.int .i64 (IntKind.i64.wrap ((k:Int).tdiv g))) else none)=_;rw[aj ⟨rfl,m⟩,fb];have:((k:Int).tdiv g)=((k / g:Nat) :Int):=rfl;have h:=EL k g;rw[this];generalize k / g=q at h;rw[wrap_i64 F F]
theorem th (k:Nat) (c:Int) (h:0<c) :cn .rem .i64 (k:Int) .i64 c=some (.int .i64 ((k % c.toNat:Nat) :Int)):=by obtain⟨g,rfl⟩:=l4 (Int.le_of_lt h);have j:(g:Int)≠0:=F;show (if IntKind.i64=IntKind.i64/\(g:Int)≠0 then some (U.int .i64 ((k:Int).tmod g)) else none)=_;rw[aj ⟨rfl,j⟩,fb];rfl
theorem J5 (k:cQ) (w n:Nat) :bO n (.int k 0)=(List.replicate n (0#w)).map fun x=>.int k (u x):=by simp[bO]
theorem lT {alZ:Type} (f:alZ->U) (l:List alZ) (i:Nat) (x:alZ) (h:i<l.length) :aw (l.map f) i [f x]=(l.set i x).map f:=by unfold aw;rw[re,aj h];simp
theorem lS {cs vs:ag} (h:vs.length=cs.length) :aw cs 0 vs=vs:=by unfold aw;rw[gT,mR,im,h,Ew,eb]
theorem aR {l:ae} {c c' : U} (h:c=c') (g:c'.ax=true) :Rd l c c':=by subst h;exact .same _ g
theorem aG {l:ae} {c c' : U} (h:c=c':=by exact rfl) (g:c'.ax=true:=by exact rfl) :Rd l c c':=aR h g
theorem aq {alZ:Sort _} (a:alZ) :∃ x,x=a:=⟨a,rfl⟩
theorem cl {k:Nat} (h:k<4611686018427387904) :IntKind.i64.wrap ((k:Int)+1)=((k+1:Nat) :Int):=by rw[IntKind.wrap_i64];omega
theorem tB {alZ:Type} {z:Nat}:∀ (es:List (List alZ)),(∀ e∈es,e.length=z)->∀ (i j:Nat) (e:List alZ) (c:alZ),es[i]?=some e->e[j]?=some c->es.flatten[i*z+j]?=some c:=by
 intro es o
 induction es with
 | nil=>intro i j e c g;simp at g
 | cons x es p=>
  intro i j e c g h;have m:x.length=z:=o x V;cases i with
  | zero=>
   simp only[g8,bc] at g;subst g;rw[gR,s1,gT,aS (aH.1 h).1];exact h
  | succ i=>
   simp only[ik] at g;rw[gR,ej (by rw[m,ec];omega),m,show (i+1)*z+j - z=i*z+j by rw[ec];omega];exact p (fun e g=>o e (by simp[g])) i j e c g h
inductive oM (l:ae) :ag->ag->Prop
 | nil:oM l [] []
 | cons {c g cs h}:fm (aU l) c g->oM l cs h->oM l (c::cs) (g::h)
theorem oM.len {l:ae}:∀ {a b:ag},oM l a b->b.length=a.length
 | _,_,.nil=>rfl
 | _,_,.cons _ h=>by simp[h.len]
theorem oM.get {l:ae}:∀ {a b:ag},oM l a b->∀ (j:Nat) (c c' : U),a[j]?=some c->b[j]?=some c'->fm (aU l) c c'
 | _,_,.nil,j,c,c',h,_=>by simp at h
 | _,_,.cons h1 g,j,c,c',h,h'=>by
  cases j with
  | zero=>simp at h h';subst h h';exact h1
  | succ j=>exact g.get j c c' (by simpa using h) (by simpa using h')
theorem g0 {P:bg} {G:Nat->U} {f:cb} {args g:ag} {r:U} {l:ae} {K:U->ae->Prop} (o:hW P G f g r) (j:oM l args g) (m:r.flat=true) (h:K r l) :fP P G f args l (c:=⟨K⟩):=
 ⟨r,l,.Jv o j.len j.get m,aF _,h⟩
theorem Jx {P:bg} {G:Nat->U} {f:cb} {args g:ag} {r:U} {l:ae} {K:U->ae->Prop} (m:mV P G f g r) (j:oM l args g) (h:K r l) :fP P G f args l (c:=⟨K⟩):=
 ⟨r,l,.Jw m j.len j.get,aF _,h⟩
inductive i1 (l:ae) :U->U->Prop
 | flat (c:U) (h:c.flat=true) :i1 l c c
 | ah (cs o:ag) (u:o.length=cs.length) (h:∀ (m:Nat) (c j:U),cs[m]?=some c->o[m]?=some j->i1 l c j) :i1 l (.ah cs) (.ah o)
 | aZ (cs o:ag) (u:o.length=cs.length) (h:∀ (m:Nat) (c j:U),cs[m]?=some c->o[m]?=some j->i1 l c j) :i1 l (.aZ cs) (.aZ o)
 | ad (g b p len cap t:Nat) (cs:ag) (q:List (ag)) (v:l[b]?=some (.cells t cs)) (u:q.length=len) (z:∀ e∈q,e.length=g)
   (w:p+len*g<=cs.length)
   (h:∀ (i m:Nat) (e:ag) (c j:U),q[i]?=some e->e[m]?=some j->cs[p+(i*g+m)]?=some c->i1 l c j) :i1 l (.ad g b p len cap t) (.bj g q)
 | sl (g b p cap t:Nat) :i1 l (.ad g b p 0 cap t) (.bj g [])
 | eB (g:Nat) :i1 l (.bj g []) (.bj g [])
theorem U2 {w:aO} {R:Nat->Prop} {B:Nat} {l:ae} {muZ:bU} (rel:bu R B w (aU l) muZ) :∀ {c c' : U},i1 l c c'->∀ {v:aB},az w R (aU l) muZ c v->c5 w (fun k=>B<=k) c' v:=by
 intro c c' au
 induction au with
 | flat c h=>intro v j;exact G7 j h
 | ah cs Q q h K=>
  intro v j;cases j with
  | ah _ W aq h1 j=>
   refine .ah Q W F h1 (fun g c' v o V=>?_);have t:g<cs.length:=by rw[<-q];exact (aH.1 o).1
   exact K g cs[g] c' (bC t) o (j g cs[g] v (bC t) V)
 | aZ cs Q q h K=>
  intro v j;cases j with
  | aZ _ W aq j=>
   refine .aZ Q W F (fun g c' v o V=>?_);have t:g<cs.length:=by rw[<-q];exact (aH.1 o).1
   exact K g cs[g] c' (bC t) o (j g cs[g] v (bC t) V)
 | sl z b C cap aj=>
  intro v j;cases j with
  | ad _ _ _ _ _ _ cap' cs m S P q ar O=>exact .eB z _ cap'
  | e9 _ _ _ _ _ _ cap' a q O u=>exact .eB z _ cap'
  | gh _ _ _ _ a cs m S P=>exact .eB z a 0
 | eB z=>
  intro v j;generalize I:([] :List (ag))=D at j;generalize al:U.bj z D=aw at j;cases j<;>cases al
  ·subst I;exact .eB z _ _
  ·exact .eB z _ _
 | ad z b C len cap aj cs D S q ai aE h K=>
  intro v j;have H:(aU l).f b=.cells aj cs:=hq.2 S;cases j with
  | gh _ _ _ _ a X m T aI=>
   obtain rfl:=il.1 q;exact .eB z a 0
  | e9 _ _ _ _ _ _ cap' a q O u=>
   exfalso;rcases u with u | ⟨n,X,u,t⟩
   ·rw[H] at u;cases u
   ·rw[H] at u;cases u;omega
  | ad _ _ _ _ _ _ cap' X m T P aG ar O=>
   rw[H] at T;cases T;have hblk:=rel.blk b m P;rw[H] at hblk;obtain⟨aC,ay,arr,aJ,ax,av,aA,aD,ao⟩:=hblk;have am:len<=cap':=by rcases O with ⟨_,h⟩ | ⟨_,h,_⟩<;>omega
   have ak:B<=m.r:=rel.base b m (by rw[H];rfl) P;subst q;have Z:∀ i g,i<D.length->g<z->∃ c v,cs[C+(i*z+g)]?=some c/\arr[m.s+(C+(i*z+g))]?=some v/\v.oneCell'=true/\az w R (aU l) muZ c v:=by
    intro i g J o;have t:C+(i*z+g)<cs.length:=by
     have:i*z+z<=D.length*z:=by rw[<-ec];exact cj _ J
     omega
    obtain⟨v,h1,p,G⟩:=ao _ _ (bC t);exact⟨_,v,bC t,h1,p,G⟩
   refine .bj z D m.r (m.s+C) cap' (fun i g=>(arr[m.s+(C+(i*z+g))]?).getD undef) am ai (fun i g J o=>?_) (fun i e I g c' o=>?_)
   ·obtain⟨c,v,h1,p,G,Y⟩:=Z i g J o;refine⟨?_,?_,ak,fun ⟨b,m,h1,p,G⟩=>by cases p⟩
    ·simp only[World.cell?,av,p,gU,rh];rw[show m.s+C+(i*z+g)=m.s+(C+(i*z+g)) by omega,p];rfl
    ·rw[p];exact G
   ·have J:i<D.length:=(aH.1 I).1;have ap:g<z:=by rw[<-ai e (cz I)];exact (aH.1 o).1
    obtain⟨c,v,h1,p,G,Y⟩:=Z i g J ap;simp only[p,gU];exact K i g e c c' I o h1 Y
theorem wH {P:bg} {G:Nat->U} (u:P.follows .mixedOrders=true) (o:∀ g,(G g).ax=true) {f:cb} {args:ag} {r:U} (h:fP P G f args [] (c:=⟨fun j l=>i1 l j r⟩)) :mV P G f args r:=by obtain⟨j,D,h1,C,m⟩:=h;intro w A F q t z;refine (D5 (A:=A) u o h1 q t z).mono ?_;rintro e w' ⟨B,muZ',rfl,p,rel,v⟩;exact⟨B,rfl,p,U2 rel m v⟩
theorem JW {l:ae} {z b n cap sz:Nat} {es:List (ag)} {rest:ag} (t:l[b]?=some (.cells sz (es.flatten++rest))) (q:es.length=n) (j:∀ e∈es,e.length=z) (u:∀ e∈es,ka e=true) :i1 l (.ad z b 0 n cap sz) (.bj z es):=by
 have p:=hx (z:=z) (es:=es) (fun e g=>j e g);refine .ad z b 0 n cap sz _ es t q j (by rw[cg,p,q];omega) (fun i h e c c' g m o=>?_);have v:i<es.length:=(aH.1 g).1;have B:h<z:=by rw[<-j e (cz g)];exact (aH.1 m).1
 have w:i*z+h<es.flatten.length:=by
  rw[p];have:i*z+z<=es.length*z:=by rw[<-ec];exact cj _ v
  omega
 have h1:es.flatten[i*z+h]?=some c':=tB es j i h e c' g m;rw[gT,aS w,h1] at o;cases o;exact .flat _ (yf (u e (cz g)) h _ m)
theorem JT {l:ae} {c:U} (h:c.ax=true) :fm (aU l) c c:=.same c h
@[simp] theorem ZL (n z:Nat) (cs:ag) (k:cQ) (i:Int) :yw n z (.ah cs) (.int k i)=if 0<=i/\i<n then cs[i.toNat*z]? else none:=id rfl
@[simp] theorem tI (s:List UInt8) (k:cQ) (i:Int) :tG (.str s) (.int k i)=if 0<=i then (s[i.toNat]?).map hb else none:=id rfl
theorem VX {alZ:Type} {l:List alZ} {i:Nat} {x:alZ} (h:l[i]?=some x) :l.set i x=l:=by obtain⟨g,rfl⟩:=aH.1 h;exact Ao g
theorem i7 {alZ:Type} (f:alZ->U) (g:∀ x,(f x).ax=true) :∀ l:List alZ,ar (l.map f)=true
 | []=>rfl
 | x::l=>by simp only[dh,ar,g,i7 f g l,kz]
theorem F6 {alZ:Type} (f:alZ->U) (g:∀ x,(f x).ax=true) (l:List alZ) :(U.ah (l.map f)).ax=true:=by simp only[U.ax];exact i7 f g l
theorem tA {alZ:Type} (f:alZ->U) (g:∀ x,(f x).flat=true) :∀ l:List alZ,ka (l.map f)=true
 | []=>rfl
 | x::l=>by simp only[dh,ka,g,tA f g l,kz]
theorem G5 {alZ:Type} (f:alZ->U) (g:∀ x,(f x).flat=true) (l:List alZ) :(U.ah (l.map f)).flat=true:=by simp only[U.flat];exact tA f g l
@[simp] theorem YP (z:Nat) :rv (.ad z) .af=some (.int .i64 0):=id rfl
@[simp] theorem ab5 (z:Nat) (k:cQ) :dB (.ad z) .af none (some (.int k 0)) none=some .af:=id rfl
theorem sm (z b off len cap sz:Nat) (h g j:Option U) :dB (.ad z) (.ad z b off len cap sz) h g j=(eY len cap h g j).map fun (l,o,m)=>if m=l then .ad z b (off+l*z) 0 0 sz else .ad z b (off+l*z) (o - l) (m - l) sz:=by simp[dB]
theorem y2 {alZ:Type} {l:List alZ} {a:alZ} (h:l[0]?=some a) :∃ r,l=a::r:=by
 cases l with
 | nil=>simp at h
 | cons x l=>simp at h;subst h;exact⟨l,rfl⟩
theorem W5 {alZ:Type} {l:List alZ} {b:alZ} (h:l[1]?=some b) :∃ a r,l=a::b::r:=by
 cases l with
 | nil=>simp at h
 | cons x l=>obtain⟨r,rfl⟩:=y2 (l:=l) (by simpa using h);exact⟨x,r,rfl⟩
theorem uj (zero:ag) (n:Nat) :(cy zero n).length=n*zero.length:=by
 induction n with
 | zero=>simp[cy]
 | succ n g=>simp[cy,g,ec,sW]
theorem wM (zero:ag) (n:Nat) :cy zero n=(List.replicate n zero).flatten:=by
 induction n with
 | zero=>rfl
 | succ n g=>rw[cy,g,jV,gR]
inductive aJ (z:Nat) (l:ae) :U->Nat->List (ag)->Prop
 | nil (g:Nat) :aJ z l .af g []
 | ad (g n cap j:Nat) (cs:ag) (h:List (ag)) (m:l[g]?=some (.cells j cs)) (t:cs.length=j) (u:h.length=n) (v:∀ e∈h,e.length=z) (o:n<=cap) (p:cap*z<=j)
   (q:cs.take (n*z)=h.flatten) :aJ z l (.ad z g 0 n cap j) g h
def bq:U->Bool | .af=>true | _=>false
theorem go {v:U}:bq v=true<->v=.af:=by cases v<;>simp[bq]
theorem qs {alZ:Type} {v g:U} {xs:List alZ} (h:g=.af<->v=.af/\xs=[]) :bq g=(bq v&&xs.isEmpty):=by rw[xi,go,h,bN,go,uT]
def pz (z:Nat) (v:U) (es:List (ag)) :U:=match bq v with | true=>.af | false=>.bj z es
section
variable {z:Nat} {l l' : ae} {v:U} {j:Nat} {es:List (ag)}
theorem aJ.lt (h:aJ z l v j es) :v=.af\/j<l.length:=by
 cases h with
 | nil j=>exact .inl rfl
 | ad j n cap m cs es g=>exact .inr (aY g)
theorem aJ.row (h:aJ z l v j es) :∀ e∈es,e.length=z:=by
 cases h with
 | nil j=>intro e g;cases g
 | ad j n cap t cs es o p q m=>exact m
theorem aJ.cells (h:aJ z l v j es) :v.cells=some [v]:=by cases h<;>rfl
theorem aJ.len (h:aJ z l v j es) :bt (.ad z) v=some (.int .i64 es.length):=by
 cases h with
 | nil j=>rfl
 | ad j n cap p cs es m o g=>subst g;rfl
theorem aJ.frame (h:aJ z l v j es) (q:j<l.length->l'[j]?=l[j]?) :aJ z l' v j es:=by
 cases h with
 | nil j=>exact .nil j
 | ad j n cap B cs es g t u w m o p=>exact .ad j n cap B cs es (by rw[q (aY g)];exact g) t u w m o p
theorem aJ.cY (h:aJ z l v j es) (g:v=.af\/l'[j]?=l[j]?) :aJ z l' v j es:=by
 cases h with
 | nil j=>exact .nil j
 | ad j n cap B cs es m t u w o p q=>
  rcases g with g | g
  ·cases g
  ·exact .ad j n cap B cs es (by rw[g];exact m) t u w o p q
theorem aJ.more (h:aJ z l v j es) (x:ae) :aJ z (l++x) v j es:=h.frame fun g=>aS g
theorem aJ.contents (h:aJ z l v j es) :cD l z v=some (es.flatten,es.length):=by
 cases h with
 | nil j=>rfl
 | ad j n cap w cs es g t o u p q m=>subst o;simp only[cD,g,and_self,if_true,lh,m]
theorem aJ.JV (h:aJ z l v j es) (o:∀ e∈es,ka e=true) :i1 l v (pz z v es):=by
 cases h with
 | nil j=>exact .flat _ rfl
 | ad j n cap B cs es g w p q t u m=>
  show i1 l _ (.bj z es);refine JW (rest:=cs.drop (n*z)) ?_ p q o;rw[g,<-m,iY]
theorem aJ.mH (h:aJ z l v j es) (B:∀ e∈es,ar e=true) :fm (aU l) v (pz z v es):=by
 cases h with
 | nil j=>exact .same _ rfl
 | ad j n cap H cs es q D p m t u w=>
  show fm (aU l) _ (.bj z es);have J:n*z<=cs.length:=by rw[D];exact dC (cj _ t) u
  refine .ad z j 0 n cap H cs es (hq.2 q) p m F (fun i k e c c' g hk o=>?_);have C:i<es.length:=(aH.1 g).1;have I:k<z:=by rw[<-m e (cz g)];exact (aH.1 hk).1
  have G:i*z+k<n*z:=by
   have:i*z+z<=es.length*z:=by rw[<-ec];exact cj _ C
   rw[p] at this;omega
  have h1:es.flatten[i*z+k]?=some c':=tB es m i k e c' g hk;rw[<-w,dG G] at h1;rw[gT,h1] at o;cases o;exact .same _ (rx (B e (cz g)) k _ hk)
theorem zg {l:ae} {z b n cap sz:Nat} {es:List (ag)} {rest:ag} (t:l[b]?=some (.cells sz (es.flatten++rest))) (q:es.length=n) (h:∀ e∈es,e.length=z) (u:∀ e∈es,ar e=true) :fm (aU l) (.ad z b 0 n cap sz) (.bj z es):=by
 have p:=hx (z:=z) (es:=es) (fun e g=>h e g);refine .ad z b 0 n cap sz _ es (hq.2 t) q h (by rw[cg,p,q];omega) (fun i j e c c' g m o=>?_);have v:i<es.length:=(aH.1 g).1;have B:j<z:=by rw[<-h e (cz g)];exact (aH.1 m).1
 have w:i*z+j<es.flatten.length:=by
  rw[p];have:i*z+z<=es.length*z:=by rw[<-ec];exact cj _ v
  omega
 have h1:es.flatten[i*z+j]?=some c':=tB es h i j e c' g m;rw[gT,aS w,h1] at o;cases o;exact .same _ (rx (u e (cz g)) j _ m)
theorem Fj (h:aJ z l v j es) {by_ m:Nat} {xs:List (ag)} (t:xs.length=m) (Q:∀ e∈xs,e.length=z) (ae:z≠0) (ai:by_≠0) (P:(es.length+m)*by_<=db) :
  ∃ J I l',ha l z by_ v xs.flatten m=some (J,l')/\aJ z l' J I (es++xs)/\l.length<=l'.length/\(∀ b,b<l.length->b≠j->l'[b]?=l[b]?)/\(I=j\/l.length<=I)/\(J=.af<->v=.af/\xs=[]):=by
 by_cases u:m=0
 ·have H:xs=[]:=il.1 F;subst H;refine⟨v,j,l,?_,by simpa using h,aF _,fun _ _ _=>rfl,.inl rfl,V⟩;unfold ha;rw[aj u];cases h<;>rfl
 have g:xs.flatten.length=m*z:=by rw[hx Q,t]
 have w:∀ e∈es++xs,e.length=z:=fun e U=>by
  rcases eQ.1 U with h1 | h1
  ·exact h.row e h1
  ·exact Q e h1
 have Y:xs≠[]:=fun H=>u (by rw[<-t,H];rfl)
 cases h with
 | nil j=>
  refine⟨.ad z l.length 0 m m (m*z),l.length,l++[.cells (m*z) xs.flatten],?_,?_,V,fun b q _=>aS q,.inr (aF _),by simp[Y]⟩
  ·unfold ha;rw[ak u,ak F];simp only;rw[aj (by simpa using P)]
  ·refine .ad _ _ _ _ xs.flatten _ V g (by simpa using t) w (aF _) (aF _) ?_;rw[aI F];rfl
 | ad j n cap p cs es q al X Z S T K=>
  subst X;have am:es.length*z<=cap*z:=cj _ S;have G:(es++xs).length=es.length+m:=by simp[t]
  have D:(es++xs).flatten=es.flatten++xs.flatten:=V;have o:es.flatten.length=es.length*z:=hx Z;have R:ha l z by_ (.ad z j 0 es.length cap p) xs.flatten m =
    if es.length+m<=cap then some (.ad z j 0 (es.length+m) cap p,l.set j (.cells p (aw cs (es.length*z) xs.flatten)))
    else if cap*z<p then some (.ad z l.length 0 (es.length+m) (es.length+m) ((es.length+m)*z),l++[.cells ((es.length+m)*z) (es.flatten++xs.flatten)])
    else some (.ad z j 0 (es.length+m) (es.length+m) ((es.length+m)*z),l.set j (.cells ((es.length+m)*z) (es.flatten++xs.flatten))):=by
   unfold ha;rw[ak u,ak F];simp only[q];rw[aj ⟨trivial,trivial,P⟩];simp only[gT,lh,K,if_true]
  rw[R];have O:=aY q;split
  ·rename_i h1;have W:(es.length+m)*z<=cap*z:=cj _ h1;rw[eI] at W;refine⟨_,j,_,rfl,?_,V,fun b B C=>by rw[bp (fun e=>C e.symm)],.inl rfl,V⟩;refine .ad j _ cap p (aw cs (es.length*z) xs.flatten) _ (by rw[bT O]) ?_ G w h1 T ?_
   ·rw[ou F];omega
   ·rw[D];unfold aw;rw[K,hU (by simp[o,g,eI]),aI (by simp[o,g,eI])]
  ·split
   ·refine⟨_,l.length,_,rfl,?_,V,fun b B _=>aS B,.inr (aF _),V⟩;refine .ad _ _ _ _ (es.flatten++xs.flatten) _ V (by simp[o,g,eI]) G w (aF _) (aF _) ?_;rw[D,aI (by simp[o,g,eI])]
   ·refine⟨_,j,_,rfl,?_,V,fun b B C=>by rw[bp (fun e=>C e.symm)],.inl rfl,V⟩;refine .ad j _ _ _ (es.flatten++xs.flatten) _ (by rw[bT O]) (by simp[o,g,eI]) G w (aF _) (aF _) ?_;rw[D,aI (by simp[o,g,eI])]
theorem lp (h:aJ z l v j es) {by_:Nat} {x:U} {xs:List (ag)} (t:cD l z x=some (xs.flatten,xs.length)) (u:∀ e∈xs,e.length=z) (o:z≠0) (p:by_≠0) (q:(es.length+xs.length)*by_<=db) :
  ∃ m g l',ep l z by_ v x=some (m,l')/\aJ z l' m g (es++xs)/\l.length<=l'.length/\(∀ b,b<l.length->b≠j->l'[b]?=l[b]?)/\(g=j\/l.length<=g)/\(m=.af<->v=.af/\xs=[]):=by unfold ep;rw[t];exact Fj h rfl u o p q
theorem NF (h:aJ z l v j es) {by_ n:Nat} {k:cQ} {zero:ag} (B:zero.length=z) (q:z≠0) (u:by_≠0) (C:n<9223372036854775808) (p:(es.length+n)*by_<=db) :
  ∃ o g l',nP l z by_ zero v (.int k (n:Int))=some (o,l')/\aJ z l' o g (es++List.replicate n zero)/\l.length<=l'.length/\(∀ b,b<l.length->b≠j->l'[b]?=l[b]?)/\(g=j\/l.length<=g)/\(o=.af<->v=.af/\n=0):=by have:=Fj h (xs:=List.replicate n zero) (m:=n) V (fun e w=>by rw[(List.mem_replicate.1 w).2,B]) q u p;obtain⟨o,g,l',h1,t⟩:=this;refine⟨o,g,l',?_,by simpa [List.replicate_eq_nil_iff] using t⟩;unfold nP;simp only[fb];rw[aj ⟨F,F,by have:=dC (cj by_ (Nat.le_add_left n es.length)) p;exact this⟩,wM];exact h1
theorem NJ {l:ae} {z by_ n:Nat} {v u:U} {xs:ag} {pre rest:ae} {l' : ae} (p:v=.af\/∃ j n cap sz,v=.ad z j 0 n cap sz/\pre.length<=j) (h:ha (pre++rest) z by_ v xs n=some (u,l')) :
  ∃ Vi,l'=pre++Vi:=by
 unfold ha at h;by_cases o:n=0
 ·rw[aj o] at h;rcases p with rfl | ⟨j,t,cap,sz,rfl,g⟩<;>(cases h;exact⟨_,rfl⟩)
 rw[ak o] at h;by_cases m:z=0\/by_=0
 ·rw[aj m] at h;cases h
 rw[ak m] at h;rcases p with rfl | ⟨j,t,cap,sz,rfl,g⟩
 ·simp only at h;split at h
  ·cases h;exact⟨_,by rw[fc]⟩
  ·cases h
 ·simp only at h;split at h
  ·split at h
   ·split at h
    ·cases h;exact⟨_,by rw[oF _ _ g]⟩
    ·split at h
     ·cases h;exact⟨_,by rw[fc]⟩
     ·split at h
      ·cases h;exact⟨_,by rw[oF _ _ g]⟩
      ·rename_i q;exact bK trivial q
   ·cases h
  ·cases h
theorem rr {z by_:Nat} {v:U} {j:Nat} {es:List (ag)} {pre rest:ae} (h:aJ z (pre++rest) v j es) (t:v=.af\/pre.length<=j) {x:U} {xs:List (ag)} (C:cD (pre++rest) z x=some (xs.flatten,xs.length)) (O:∀ e∈xs,e.length=z) (F:z≠0) (H:by_≠0)
  (J:(es.length+xs.length)*by_<=db) :
  ∃ m o p,ep (pre++rest) z by_ v x=some (m,pre++p)/\aJ z (pre++p) m o (es++xs)/\(m=.af\/pre.length<=o)/\bq m=(bq v&&xs.isEmpty):=by
 have I:v=.af\/∃ j n cap u,v=.ad z j 0 n cap u/\pre.length<=j:=by
  cases h with
  | nil j=>exact .inl rfl
  | ad j n cap u cs es=>exact .inr ⟨j,n,cap,u,rfl,t.resolve_left V⟩
 obtain⟨m,o,l',h1,q,P,Q,G,w⟩:=lp h C O F H J;have g:=h1;unfold ep at g;rw[C] at g;obtain⟨p,rfl⟩:=NJ (l:=[]) I g;refine⟨m,o,p,h1,q,?_,qs w⟩;rcases G with h | h
 ·rcases t with B | t
  ·by_cases D:xs=[]
   ·exact .inl (w.2 ⟨B,D⟩)
   ·right;subst B;have K:xs.length≠0:=fun e=>D (il.1 e)
    simp only at g;unfold ha at g;rw[ak K] at g;split at g
    ·cases g
    ·simp only at g;split at g
     ·obtain⟨rfl,_⟩:=u0 (cd g);generalize es++xs=E at q;cases q;simp
     ·cases g
  ·right;omega
 ·right;rw[cg] at h;omega
theorem aJ.view (h:aJ z l v j es) (F:bq v=false) :∃ n cap sz cs,v=.ad z j 0 n cap sz/\l[j]?=some (.cells sz cs)/\cs.length=sz/\es.length=n/\n*z<=sz/\(∀ i e,es[i]?=some e->∀ m,m<z->cs[i*z+m]?=e[m]?)/\cs.take (n*z)=es.flatten:=by
 cases h with
 | nil j=>simp[bq] at F
 | ad j n cap sz cs es q B p G t u g=>
  refine⟨n,cap,sz,cs,rfl,q,B,p,dC (cj _ t) u,fun i e o m D=>?_,g⟩;have w:i<es.length:=(aH.1 o).1;have C:i*z+m<n*z:=by
   have:i*z+z<=es.length*z:=by rw[<-ec];exact cj _ w
   rw[p] at this;omega
  have h1:=lx G o D;rw[<-h1,<-g,dG C]
theorem aJ.Da {alZ:Type} {enc:alZ->ag} {xs:List alZ} (h:aJ z l v j (xs.map enc)) (m:∀ x,ka (enc x)=true) (s:bH alZ) (o:bq v=s.isNone) (p:s.l=xs) :i1 l v (b0 z enc s):=by
 have h1:=h.JV (fun e g=>by obtain⟨x,_,rfl⟩:=cF.1 g;exact m x);subst p;unfold pz at h1;rw[o] at h1;cases s with
 | none=>exact h1
 | some s=>exact h1
theorem aJ.lP {alZ:Type} {enc:alZ->ag} {xs:List alZ} (h:aJ z l v j (xs.map enc)) (m:∀ x,ar (enc x)=true) (s:bH alZ) (o:bq v=s.isNone) (p:s.l=xs) :fm (aU l) v (b0 z enc s):=by
 have h1:=h.mH (fun e g=>by obtain⟨x,_,rfl⟩:=cF.1 g;exact m x);subst p;unfold pz at h1;rw[o] at h1;cases s with
 | none=>exact h1
 | some s=>exact h1
end
inductive gK (z:Nat) (l:ae) :U->Nat->List (ag)->Prop
 | nil (g:Nat) :gK z l .af g []
 | ad (g m n cap j:Nat) (cs:ag) (h:List (ag)) (o:l[g]?=some (.cells j cs)) (u:cs.length=j) (v:h.length=n) (w:∀ e∈h,e.length=z) (p:n<=cap) (q:m+cap*z<=j)
   (t:(cs.drop m).take (n*z)=h.flatten) :gK z l (.ad z g m n cap j) g h
section
variable {z:Nat} {l l' : ae} {v:U} {j:Nat} {es:List (ag)}
theorem aJ.q (h:aJ z l v j es) :gK z l v j es:=by
 cases h with
 | nil j=>exact .nil j
 | ad j n cap w cs es g p t u m B o=>exact .ad j 0 n cap w cs es g p t u m F (by simpa using o)
theorem gK.len (h:gK z l v j es) :bt (.ad z) v=some (.int .i64 es.length):=by
 cases h with
 | nil j=>rfl
 | ad j p n cap q cs es m o g=>subst g;rfl
theorem gK.pn (h:gK z l .af j es) :es=[]:=by
 generalize g:U.af=w at h;cases h with
 | nil j=>rfl
 | ad=>cases g
theorem gK.from (h:gK z l v j es) (I:bq v=false) {k:cQ} {i:Nat} (O:i<=es.length) :∃ m,dB (.ad z) v (some (.int k (i:Int))) none none=some m/\gK z l m j (es.drop i)/\bq m=false:=by
 cases h with
 | nil j=>simp[bq] at I
 | ad j S n cap u cs es o q H t B K C=>
  subst H;have Q:i*z+(cap - i)*z=cap*z:=by rw[<-eI];congr 1;omega
  have R:i*z+(es.length - i)*z=es.length*z:=by rw[<-eI];congr 1;omega
  have P:es.length*z<=cap*z:=cj _ B;have J:∀ e∈es.drop i,e.length=z:=fun e g=>t e (sT g)
  have G:(es.drop i).flatten=(es.flatten).drop (i*z):=by
   have h1:es.flatten=(es.take i).flatten++(es.drop i).flatten:=by rw[<-jp,iY]
   have w:(es.take i).flatten.length=i*z:=by
    rw[hx (z:=z) (fun e g=>t e (gE g)),cI];congr 1;omega
   rw[h1,<-w,xl]
  rw[sm,FI,aj ⟨F,F⟩];simp only[fb,cu,bc,exists_eq_left'];by_cases p:cap=i
  ·rw[aj p];have D:es.drop i=[]:=pS F;refine⟨?_,rfl⟩;rw[D];exact .ad j _ 0 0 u cs [] o q rfl V (aF _) F V
  ·rw[ak p];refine⟨.ad j _ _ _ u cs _ o q V J F F ?_,rfl⟩;rw[G,<-C,ra,uR];congr 1;omega
theorem gK.get (h:gK z l v j es) {k:cQ} {i:Nat} {e:ag} (g:es[i]?=some e) :∃ p cs o,bF (.ad z) v (.int k (i:Int))=some p/\fM l p=some (cs,o)/\o+z<=cs.length/\(cs.drop o).take z=e:=by
 cases h with
 | nil j=>simp at g
 | ad j t n cap H cs es u O D q w J B=>
  subst D;have C:=(aH.1 g).1;have h1:i*z+z<=es.length*z:=by rw[<-ec];exact cj _ C
  have I:es.length*z<=cap*z:=cj _ w;refine⟨.ptr j (t+i*z) H,cs,t+i*z,?_,?_,F,?_⟩
  ·simp only[bF,fb];rw[aj ⟨trivial,F,F⟩]
  ·simp only[fM,u,if_true]
  ·have K:=q e (cz g);apply g7;intro G;by_cases m:G<z
   ·rw[dG m,gn,<-lx q g m,<-B,dG F,gn];congr 1;omega
   ·rw[dV (by simp;omega),dV F]
theorem gK.JV (h:gK z l v j es) (B:∀ e∈es,ka e=true) :i1 l v (pz z v es):=by
 cases h with
 | nil j=>exact .flat _ rfl
 | ad j q n cap H cs es t D p m u I w=>
  show i1 l _ (.bj z es);have K:q+n*z<=cs.length:=by rw[D];have:=cj z u;omega
  refine .ad z j q n cap H cs es t p m F (fun i k e c c' g hk o=>?_);have C:i<es.length:=(aH.1 g).1;have J:k<z:=by rw[<-m e (cz g)];exact (aH.1 hk).1
  have G:i*z+k<n*z:=by
   have:i*z+z<=es.length*z:=by rw[<-ec];exact cj _ C
   rw[p] at this;omega
  have h1:es.flatten[i*z+k]?=some c':=tB es m i k e c' g hk;rw[<-w,dG G,gn] at h1;rw[h1] at o;cases o;exact .flat _ (yf (B e (cz g)) k _ hk)
theorem gK.mH (h:gK z l v j es) (B:∀ e∈es,ar e=true) :fm (aU l) v (pz z v es):=by
 cases h with
 | nil j=>exact .same _ rfl
 | ad j q n cap H cs es t D p m u I w=>
  show fm (aU l) _ (.bj z es);have K:q+n*z<=cs.length:=by rw[D];have:=cj z u;omega
  refine .ad z j q n cap H cs es (hq.2 t) p m F (fun i k e c c' g hk o=>?_);have C:i<es.length:=(aH.1 g).1;have J:k<z:=by rw[<-m e (cz g)];exact (aH.1 hk).1
  have G:i*z+k<n*z:=by
   have:i*z+z<=es.length*z:=by rw[<-ec];exact cj _ C
   rw[p] at this;omega
  have h1:es.flatten[i*z+k]?=some c':=tB es m i k e c' g hk;rw[<-w,dG G,gn] at h1;rw[h1] at o;cases o;exact .same _ (rx (B e (cz g)) k _ hk)
theorem gK.rd (h:gK z l v j es) (B:∀ e∈es,ar e=true) :Rd l v (pz z v es):=by
 cases h with
 | nil j=>exact .same _ rfl
 | ad j q n cap H cs es t D p m u I w=>
  show Rd l _ (.bj z es);have K:q+n*z<=cs.length:=by rw[D];have:=cj z u;omega
  refine .ad z j q n cap H cs es t p m F (fun i k e c c' g hk o=>?_);have C:i<es.length:=(aH.1 g).1;have J:k<z:=by rw[<-m e (cz g)];exact (aH.1 hk).1
  have G:i*z+k<n*z:=by
   have:i*z+z<=es.length*z:=by rw[<-ec];exact cj _ C
   rw[p] at this;omega
  have h1:es.flatten[i*z+k]?=some c':=tB es m i k e c' g hk;rw[<-w,dG G,gn] at h1;rw[h1] at o;cases o;exact .same _ (rx (B e (cz g)) k _ hk)
theorem gK.jg {alZ:Type} {enc:alZ->ag} {xs:List alZ} (h:gK z l v j (xs.map enc)) (m:∀ x,ar (enc x)=true) (s:bH alZ) (o:bq v=s.isNone) (p:s.l=xs) :Rd l v (b0 z enc s):=by
 have h1:=h.rd (fun e g=>by obtain⟨x,_,rfl⟩:=cF.1 g;exact m x);subst p;unfold pz at h1;rw[o] at h1;cases s with
 | none=>exact h1
 | some s=>exact h1
theorem gK.lP {alZ:Type} {enc:alZ->ag} {xs:List alZ} (h:gK z l v j (xs.map enc)) (m:∀ x,ar (enc x)=true) (s:bH alZ) (o:bq v=s.isNone) (p:s.l=xs) :fm (aU l) v (b0 z enc s):=by
 have h1:=h.mH (fun e g=>by obtain⟨x,_,rfl⟩:=cF.1 g;exact m x);subst p;unfold pz at h1;rw[o] at h1;cases s with
 | none=>exact h1
 | some s=>exact h1
end
theorem NW {P:bg} {t:aC} {xs g:ag} {r:Bool} (j:P.eqGuardType P.depth t=false) (h:dA P 10000 t (.ah xs) (.ah g)=some r) :dP P .eql t (.ah xs) (.ah g)=some (.bool r):=by simp only[dP,rE,j,sO,if_true,h];rfl
theorem NY {P:bg} {t:aC} {xs g:ag} {r:Bool} (j:P.eqGuardType P.depth t=false) (h:dA P 10000 t (.ah xs) (.ah g)=some r) :dP P .neq t (.ah xs) (.ah g)=some (.bool (!r)):=by simp only[dP,rE,j,sO,if_true,h];rfl
end Go.bf
namespace Go.bf
open Go Go.ChangeShapes Go.RowKit
theorem TK (k:Nat) :¬ Own aE.empty (fun _=>none) k:=by rintro⟨b,h,g,_,_⟩;simp[aE.empty,aE.f,live,cq.get] at g
theorem QF {q:Type} {enc:aC × aB->q} {P:bg} {w:aO} {base:Nat} {spare:Nat->Bool} {held:Bool} {fuel:Nat} {aq:String} {g t e n:Nat} {cs:Array aB} {x:DataW q × List MemPlace} (bZ:List Int)
  (K:P.globalNamed aq=some g) (S:w.var? P aq=some cs) (R:P.underlying t=some (.array n e)) (I:P.underlying e=some (.int .u32)) (D:P.cellsOf e=1) (H:DataW.trod enc P w base spare held fuel t cs.toList=some x)
  (m:x.1=.agg (bZ.map fun k=>.lit (.int .u32 k))) :c5 w (fun _=>True) (.bR (bZ.map fun k=>.int .u32 k) 0) (.pointer (some ⟨g,0,none⟩)):=by
 obtain⟨U,Y,rfl,T,W,X,J⟩:=DataW.trod_array R H;rw[T] at m;simp only[DataW.agg.injEq] at m;have V:bZ.length=n:=by have:=cm List.length m;simp at this;omega
 have G:∀ h k,bZ[h]?=some k->w.cell? ⟨g,h,none⟩=some (.int .u32 k):=by
  intro h k j;have O:h<n:=by have:=(aH.1 j).1;omega
  have h1:=J h O;rw[D,nH] at h1;have v:h<U.length:=F;rw[bC v] at h1;obtain⟨p,z,B,_⟩:=DataW.trod_int I h1;have o:=cm (fun l=>l[h]?) m;simp only[bX,bC v,j,cu,bc] at o;rw[B] at o;have Q:p=k:=by simpa using o
  subst Q;have C:=World.var?_cell K S h;rw[C];have u:(cs.toList.drop h)[0]?=some (Value.int .u32 p):=by
   have:((cs.toList.drop h).take 1)[0]?=some (Value.int .u32 p):=by rw[z];rfl
   rw[List.getElem?_take] at this;simpa using this
  rw[gn] at u;simpa using u
 refine .bR _ 0 g 0 (fun h=>.int .u32 (bZ.getD h 0)) (fun h j=>?_) (fun h c j=>?_)
 ·rw[cC] at j;refine⟨?_,rfl,trivial,TK g⟩;rw[gT,G h bZ[h] (bC j),gm,bC j];rfl
 ·rw[bX] at j;cases hk:bZ[h]? with
  | none=>rw[hk] at j;cases j
  | some k=>
   rw[hk] at j;cases j;rw[gm,hk];exact .int _ _
theorem Ln {j:Type} {enc:aC × aB->j} {P:bg} {w:aO} {base:Nat} {spare:Nat->Bool} {held:Bool}:∀ {ts:List aC} {vs:List aB} {g:List (DataW j)} {ps:List MemPlace},
  DataW.TrodAll enc P w base spare held ts vs g ps->g.length=ts.length
 | [],vs,g,ps,h=>by obtain⟨rfl,rfl,rfl⟩:=trodAll_nil h;rfl
 | t::ts,vs,g,ps,h=>by
  obtain⟨p,q,d,o,a,b,rfl,rfl,rfl,h1,m⟩:=trodAll_cons h;simp[Ln m]
end Go.bf
namespace Go.bf
open Go
def c3 (l:List Nat) :ag:=l.map fun n=>.int .u8 (.ofNat n)
def nd (n:Int) :U:=.int .i64 n
def fK (l:ag) :List (ag):=l.map fun c=>[c]
end Go.bf
namespace Go.bf
open Go Go.Proofs Go.Shelf Go.Sort Go.RowKit
def uc:U->Bool | .bool _=>true | .int _ _=>true | .str _=>true | _=>false
def valOf:U->aB | .bool b=>.bool b | .int k n=>.int k n | .str s=>.string ⟨s.toArray⟩ | _=>.bool false
theorem XE {w:aO} {R:Nat->Prop} {h:aE} {muZ:bU} {c:U} {v:aB} (g:uc c=true) (m:az w R h muZ c v) :v=valOf c:=by
 cases m with
 | bool b=>rfl
 | int k n=>rfl
 | str j=>obtain⟨⟨l⟩⟩:=j;rfl
 | bad=>cases g
 | _=>cases g
theorem Jg {w:aO} {R:Nat->Prop} {h:aE} {muZ:bU} {c:U} (g:uc c=true) :az w R h muZ c (valOf c):=by
 cases c with
 | bool b=>exact .bool b
 | int k n=>exact .int k n
 | str s=>exact (.str ⟨s.toArray⟩:az w R h muZ (.str (ByteArray.mk s.toArray).data.toList) _)
 | _=>cases g
theorem Ef (c:U) :(valOf c).oneCell'=true:=by cases c<;>rfl
theorem Oz {w W:aO} {b o:Nat} (h:W.heap[b]?=w.heap[b]?) :W.cell? ⟨b,o,none⟩=w.cell? ⟨b,o,none⟩:=by simp[World.cell?,h]
theorem OA {w:aO} {b o:Nat} {v:aB} (h:w.cell? ⟨b,o,none⟩=some v) :b<w.heap.size:=by apply Decidable.byContradiction;intro g;simp only[World.cell?] at h;rw[pO F] at h;cases h
theorem XD {w W:aO} {A:Nat->Prop} (V:∀ k,A k->k<w.heap.size->W.heap[k]?=w.heap[k]?) {c:U} {v:aB} (j:c5 w A c v) :c5 W A c v:=by
 unfold c5 at j ⊢;generalize ak:aE.empty=P at j ⊢;generalize u:(fun _=>none:bU)=Q at j ⊢;have O:∀ {b z:Nat} {v:aB},Cell w A P Q b z v->Cell W A P Q b z v:=fun {b z v} k=>⟨(Oz (V b k.ro (OA k.here))).trans k.here,k.one,k.ro,k.free⟩
 induction j with
 | bool b=>exact .bool b
 | int k n=>exact .int k n
 | str R=>exact .str R
 | h8=>exact .h8
 | af=>exact .af
 | gP=>exact .gP
 | hP=>exact .hP
 | hz=>exact .hz
 | ah cs J p h1 j m=>exact .ah cs J p h1 m
 | aZ cs J p j m=>exact .aZ cs J p m
 | ptr b g t cs C B h=>subst u;cases h
 | iQ b g t a F=>exact .iQ b g t a F
 | bR cs g D z I o j m=>exact .bR cs g D z I (fun H G=>O (o H G)) m
 | ad q b g len cap t K cs C B h p al o=>subst u;cases h
 | e9 q b g len cap t K a p o F=>exact .e9 q b g len cap t K a p o F
 | gh q b g t a cs C B h=>subst u;cases h
 | bj q S D g cap I p Z o j m=>exact .bj q S D g cap I p Z (fun i H Y G=>O (o i H Y G)) m
 | eB q a cap=>exact .eB q a cap
 | fn f first eZ T cs X o h1 aj ae ag=>exact .fn f first eZ T cs X o ae ag
 | mp b C B h=>subst u;cases h
 | it b C B h=>subst u;cases h
 | fT ai c v j m=>exact .fT ai c v m
 | fa l=>exact .fa l
 | bad v=>exact .bad v
theorem N3 {W w' : aO} (h:eo W w') :∃ q os,w'=grow (W.drewN q) os:=by
 refine⟨w'.drawn - W.drawn,w'.heap.extract W.heap.size,?_⟩;have v:=h.drawn;have w:=h.size;obtain⟨g,C,Bk,z,B⟩:=w';obtain⟨heap,tape,j,os,out⟩:=W;have m:z=os:=h.os;have o:C=tape:=h.tape;have p:B=out:=h.output;subst m o p;have t:g=heap++g.extract heap.size:=by
  apply Array.ext_getElem?;intro k;rw[Array.getElem?_append];split
  ·rename_i hk;exact h.block k hk
  ·rename_i hk;rw[Array.getElem?_extract];have G:heap.size<=g.size:=w;by_cases D:k<g.size
   ·rw[aj F,show heap.size+(k - heap.size)=k by omega]
   ·rw[ak F,pO F]
 have u:Bk=j+(Bk - j):=by
  have:j<=Bk:=v;omega
 unfold grow World.drewN;simp only;rw[<-t,<-u]
end Go.bf

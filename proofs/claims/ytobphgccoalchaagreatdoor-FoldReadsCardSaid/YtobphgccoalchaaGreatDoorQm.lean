/-
  Orders of a graph, as numbers say; walked in the reference.
-/
import Derived.Test.YtobphgccoalchaaGreatDoorQl
set_option linter.unusedVariables false
set_option linter.unusedSimpArgs false
set_option linter.unnecessarySimpa false
namespace Go.b2
open Go Go.Proofs
set_option maxRecDepth 100000
namespace Op
open gh
structure iM (g:bg) (out:List (List B)) :Prop where
 hY:out.Nodup
 sub:∀ x∈out,x∈g.ids.l
 pre:∀ (i:Nat) (x:List B) (j:Nat),out[i]? = some x->g.ids.l[j]? = some x->∀ p∈cU g.ops.l j,p∈out.take i
theorem XZ (g:bg) :iM g [] :=⟨awC,fun x h=>by simp at h,fun i x j h=>by simp at h⟩
theorem X1 {g:bg} (dY:iw g.ids.l) {out:List (List B)} (h:iM g out) {j:Nat} {x:List B} (af:g.ids.l[j]? = some x) (aC:x∉out) (ay:∀ p∈cU g.ops.l j,p∈out) :iM g (out++[x]) :=by
 refine⟨?_,fun y az=>?_,fun i y t av aI p p1=>?_⟩
 ·rw[auD];exact⟨h.hY,by simp,fun a aB b ag e=>by rw[atM] at ag; subst e; rw[ag] at aB; exact aC aB⟩
 ·rw[atQ,atM] at az;rcases az with az | az
  ·exact h.sub y az
  ·rw[az]; exact atz af
 ·by_cases du:i<out.length
  ·rw[ats du] at av;rw[atS (by omega)];exact h.pre i y t av aI p p1
  ·have TF:i=out.length:=by
    have:=(atq.1 av).1;simp at this; omega
   subst TF;rw[atC (att _)] at av;simp at av;subst av;rw[dY t j x aI af] at p1;rw[atS (att _),atW];exact ay p p1
theorem Ny {g:bg} {out:List (List B)} (h:iM g out) :out.length<=g.ids.l.length:=yM h.hY h.sub
def mR (g:bg) (out:List (List B)) :Nat->List (List B)
 | 0=>[]
 | k+1=>mR g out k++(match g.ids.l[k]? with | some x=>if x∉out/\∀ p∈cU g.ops.l k,p∈out then [x] else [] | none=>[])
theorem IH {g:bg} {out:List (List B)} {k:Nat} {x:List B} (h:g.ids.l[k]? = some x) :mR g out (k+1)=mR g out k++(if x∉out/\∀ p∈cU g.ops.l k,p∈out then [x] else []) :=by
 show mR g out k++(match g.ids.l[k]? with | some x=>if x∉out/\∀ p∈cU g.ops.l k,p∈out then [x] else [] | none=>[])=_;rw[h]
theorem IF (g:bg) (out:List (List B)) :∀ k,(mR g out k).length<=k
 | 0=>att _
 | k+1=>by
  have aH:=IF g out k;cases h:g.ids.l[k]? with
  | none=>
   show (mR g out k++(match g.ids.l[k]? with | some x=>if x∉out/\∀ p∈cU g.ops.l k,p∈out then [x] else [] | none=>[])).length<=k+1;rw[h]; simp; omega
  | some x=>
   rw[IH h,atB];split<;>simp<;>omega
theorem IG {g:bg} {out:List (List B)} {x:List B}:∀ {k:Nat},k<=g.ids.l.length->(x∈mR g out k<->∃ j,j<k/\g.ids.l[j]? = some x/\x∉out/\∀ p∈cU g.ops.l j,p∈out)
 | 0,_=>by simp[mR]
 | k+1,hk=>by
  have aH:=IG (g:=g) (out:=out) (x:=x) (k:=k) (by omega);obtain⟨y,az,_⟩:=bA (l:=g.ids.l) (k:=k) (by omega);rw[IH az,atQ,aH];constructor
  ·rintro (⟨j,h1,ad⟩ | h)
   ·exact⟨j,by omega,ad⟩
   ·split at h
    ·rename_i aG;rw[atM] at h;subst h;exact⟨k,by omega,az,aG⟩
    ·cases h
  ·rintro⟨j,h1,ad,aj⟩;by_cases fQ:j=k
   ·subst fQ;rw[az] at ad; obtain rfl:=Option.some.inj ad;right; rw[if_pos aj]; simp
   ·exact .inl ⟨j,by omega,ad,aj⟩
theorem aal {g:bg} (V:kv g) {out:List (List B)} (h:iM g out) (ak:out.length<g.ids.l.length) :mR g out g.ids.l.length≠[] :=by
 intro ao;have dF:∀ (j:Nat) (x:List B),g.ids.l[j]? = some x->x∉out->∃ p∈cU g.ops.l j,p∉out:=fun j x ai af=>by
  apply Classical.byContradiction;intro aG;have:x∈mR g out g.ids.l.length:=(IG (att _)).2 ⟨j,(atq.1 ai).1,ai,af,fun p ay=>Classical.byContradiction fun afi=>aG ⟨p,ay,afi⟩⟩;rw[ao] at this; cases this
 have eC:∀ j,pm g.ids.l g.ops.l j->∀ x,g.ids.l[j]? = some x->x∈out:=by
  intro j ar
  induction ar with
  | mk j av ay me aH=>
   intro x af;apply Classical.byContradiction;intro um;obtain⟨p,p1,mj⟩:=dF j x af um;obtain⟨t,aI⟩:=atx.1 (ay p p1);exact mj (aH p p1 t aI p aI)
 have:g.ids.l.length<=out.length:=by
  have pV:g.ids.l.Nodup:=by
   refine aui.2 fun i j av ai ho e=>?_
   have h1:=atu av;rw[e] at h1;have:=nl V.dN i j _ h1 (atu ai);omega
  exact yM pV fun x af=>by
   obtain⟨j,ai⟩:=atx.1 af;exact eC j (V.all j (by rw[<-V.len]; exact (atq.1 ai).1)) x ai
 omega
def EL (n:Int) :List U:=[.int .i64 n]
def xj (s:dR Int) :U:=cK 1 EL s
structure Za (g:bg) (s:dR Int) (m:Nat) (ae:a7) (l:am) :Prop where
 aL:ae 1=xj s
 aT:ae 2=.ptr 0 0 2
 ex:∃ out v,ae 5=v/\cf 32 aR [.cells 2 [aU g.ids,b4 g.ops]] l v out out.isEmpty/\iM g out/\m=g.ids.l.length - out.length
structure Y9 (g:bg) (s:dR Int) (L:am) (v:U) (out:List (List B)) (k:Nat) (ae:a7) (l:am) :Prop where
 aL:ae 1=xj s
 aT:ae 2=.ptr 0 0 2
 bc:ae 5=v
 ei:ae 7=.int .i64 k
 ex:∃ w,ae 6=w/\cf 32 aR L l w (mR g out k) (mR g out k).isEmpty
set_option maxHeartbeats 8000000 in
theorem ajc (g:bg) (ar:fG g) (V:kv g) (s:dR Int) :
  c7 Tryz.prog GS 34 [db g,xj s] [] (c:=⟨fun r l=>∃ out,iM g out/\out.length=g.ids.l.length/\Rd l r (aU (fp out))⟩) :=by
 apply bj Tryz.func34 [];have ax:ct=140737488355328:=rfl;have dY:=nl V.dN;have F0:=V.n60;have jn:=V.len;have gN:cP (.au 32) (aU g.ids)=some (.int .i64 g.ids.l.length) :=by simp[aU]
 have ew:cP (.au 11) (b4 g.ops)=some (.int .i64 g.ops.l.length) :=by simp[b4]
 have lJ:cP (.au 1) (xj s)=some (.int .i64 s.l.length) :=qc _;simp[db,dS];refine wj (Za g s) ?_ g.ids.l.length _ _ ⟨by simp,by simp,[],.a1,by simp,by simpa using cf.nil,XZ g,by simp⟩;rintro m ae l ⟨aL,aT,out,v,bc,en,ci,hm⟩;obtain⟨ae,rfl⟩:=kq aL aT bc;clear aL aT bc;have k3:=en.len;have dO:=Ny ci;have fU:l[0]? = some (.cells 2 [aU g.ids,b4 g.ops]) :=by rw[en.same 0 (by simp)]; rfl
 have fW:1<=l.length:=by have:=en.le; simpa using this
 by_cases Kf:out.length<g.ids.l.length
 ·simp[k3,fU,gN,Kf];refine cF g.ids.l.length (Y9 g s l v out) ?_ ⟨by simp,by simp,by simp,by simp,.a1,by simp,by simpa [mR] using cf.nil⟩;rintro k ae l1 hk ⟨aL,aT,bc,ei,w,ch,m6⟩;obtain⟨ae,rfl⟩:=kU aL aT bc ch ei;clear aL aT bc ch ei;have dH:l1[0]? = some (.cells 2 [aU g.ids,b4 g.ops]) :=by rw[m6.same 0 (by omega)]; exact fU
  have KC:=en.frame m6.le m6.same;by_cases cI:k<g.ids.l.length
  ·obtain⟨x,af,cX⟩:=bA cI;obtain⟨o,ap,dZ⟩:=bA (l:=g.ops.l) (k:=k) (by omega);have nk:=ar.ids x cX;have bn:=cQ nk;have aQ:IntKind.i64.wrap ((k:Int)+1)=((k+1:Nat) :Int) :=by rw[IntKind.wrap_i64]; omega
   have hS:cj (.au 32) (aU g.ids) (.int .i64 (k:Int))=some (.b6 (aR x) 0) :=by simp[aU,af]
   have cc:cj (.au 11) (b4 g.ops) (.int .i64 (k:Int))=some (.b6 (bl o) 0) :=by simp[b4,ap]
   have jL:(bl o)[1]? = some (aU o.bo) :=rfl;have iA:=g6 x;have sl:=gM o.bo;have oT:cU g.ops.l k=o.bo.l:=my ap;have ce:=IH (out:=out) af;have dE:=IF g out k;rw[oT] at ce;have F2:h0 (fp out) :=fun y az=>by rw[gQ] at az; exact ar.ids y (ci.sub y az)
   have eG:=WM (fp out) F2 (by rw[gQ]; omega) x nk;have eC:=My (fp out) F2 (by rw[gQ]; omega) o.bo (ar.ops o dZ).ids (ar.ops o dZ).len;rw[gQ] at eG eC;have kJ:=KC.rz (fun x=>g6 x) (fp out) (by rw[uQ]) (gQ _);obtain⟨O,eS⟩:∃ O,O=bl o:=⟨_,rfl⟩
   obtain⟨Y,ev⟩:∃ Y,Y=aR x:=⟨_,rfl⟩
   rw[<-eS] at cc jL;rw[<-ev] at hS bn iA eG;have oY:bz (rep 32 (.int .u8 0)) 0 Y=Y:=fE (by rw[bn]; rfl);simp[dH,gN,cI,hS,bn,atr];refine ie eG (.cons kJ (.cons (.same _ (by simp[U.closed,iA])) .nil)) rfl ?_;by_cases um:x∈out
   ·rw[if_neg (fun h=>h.1 um),atZ] at ce;simp[um,aQ];exact⟨cI,by simp,by simp,by simp,by simp,w,by simp,by rw[ce]; exact m6⟩
   ·simp[um,dH,ew,cc,jL];refine ie eC (.cons kJ (.cons (.same _ sl) .nil)) rfl ?_;by_cases Fv:∀ p∈o.bo.l,p∈out
    ·have e2:l4 out o.bo.l=true:=by unfold l4; exact decide_eq_true Fv
     rw[if_pos ⟨um,Fv⟩] at ce;obtain⟨w',l',ig,jU,qr⟩:=L7 (by_:=32) (m6.more [a2.cells 32 (aR x)]) x (b:=l1.length) (by simp) (by rw[<-ev]; exact bn) (by omega) (by omega) (by rw[ax]; omega);rw[<-ev] at ig;simp[e2,dH,hS,bn,atr,oY,ig];refine c0.cq ?_;simp[aQ];exact⟨cI,by simp,by simp,by simp,by simp,w',by simp,by rw[ce,show (mR g out k++[x]).isEmpty=false by simp]; exact jU⟩
    ·have e2:l4 out o.bo.l=false:=by unfold l4; exact decide_eq_false Fv
     rw[if_neg (fun h=>Fv h.2),atZ] at ce;simp[e2,aQ];exact⟨cI,by simp,by simp,by simp,by simp,w,by simp,by rw[ce]; exact m6⟩
  ·have gW:k=g.ids.l.length:=by omega
   subst gW;have bx:=aal V ci Kf;obtain⟨C,nQ⟩:∃ C,C=mR g out g.ids.l.length:=⟨_,rfl⟩
   have hR:∀ y,y∈C->∃ j,g.ids.l[j]? = some y/\y∉out/\∀ p∈cU g.ops.l j,p∈out:=fun y az=>by
    rw[nQ] at az;obtain⟨j,_,ad⟩:=(IG (att _)).1 az;exact⟨j,ad⟩
   have dE:=IF g out g.ids.l.length;rw[<-nQ] at m6 bx dE;have JE:0<C.length:=List.length_pos_iff.2 bx;have JF:¬ (C.length:Int)=0:=by omega
   have lI:=m6.len;obtain⟨kj,aik,_,_,_,_⟩:=id m6
   -- whichever is taken
   have fin:∀ a:Nat,a<C.length->∃ y p c x aY l',C[a]? = some y/\y.length=32/\cj (.au 32) w (.int .i64 (a:Int))=some p/\eo l1 p=some (c,x)/\x+32<=c.length/\(c.drop x).take 32=aR y ∧
     fz (l1++[a2.cells 32 (aR y)]) 32 32 v (.au 32 l1.length 0 1 1 32)=some (aY,l')/\cf 32 aR [.cells 2 [aU g.ids,b4 g.ops]] l' aY (out++[y]) false/\iM g (out++[y]) :=fun a aB=>by
    obtain⟨y,az,cO⟩:=bA aB;obtain⟨j,ai,afZ,af0⟩:=hR y cO;have q7:=ar.ids y (atz ai);obtain⟨p,c,x,aS,aX,a3,a4⟩:=aik.q.get (k:=.i64) (i:=a) (e:=aR y) (by rw[atw,az]; rfl);obtain⟨aY,l',ig,jU,qr⟩:=L7 (by_:=32) (KC.more [a2.cells 32 (aR y)]) y (b:=l1.length) (by simp) (cQ q7) (by omega) (by omega) (by rw[ax]; omega);exact⟨y,p,c,x,aY,l',az,q7,aS,aX,a3,a4,ig,jU,X1 dY ci ai afZ af0⟩
   have Kw:=KC.len;by_cases x5:out.length<s.l.length
   ·obtain⟨q,aZ,_⟩:=bA x5;have Cz:cj (.au 1) (xj s) (.int .i64 (out.length:Int))=some (.b6 (EL q) 0) :=by unfold xj; rw[ra]; simp[aZ]
    by_cases KN:0<q
    ·obtain⟨Hi,rfl⟩:=auY (Int.le_of_lt KN);have uf:0<Hi:=by omega
     have x6:=Bv Hi (C.length:Int) (by omega);rw[auq] at x6;obtain⟨y,p,c,x,aY,l',az,q7,aS,aX,a3,a4,ig,jU,qr⟩:=fin (Hi % C.length) (ave _ JE)
     have cx:=cQ q7;obtain⟨Y,ev⟩:∃ Y,Y=aR y:=⟨_,rfl⟩
     rw[<-ev] at cx a4 ig;have oY:bz (rep 32 (.int .u8 0)) 0 Y=Y:=fE (by rw[cx]; rfl);obtain⟨a,ado⟩:∃ a,a=Hi % C.length:=⟨_,rfl⟩
     rw[<-ado] at aS x6;simp[dH,gN,lI,bx,JF,k3,Kw,lJ,x5,Cz,EL,KN,uf,x6,aS,aX,a3,a4,cx,oY,atr,ig];refine c0.cq ?_;simp;exact⟨_,by simp; omega,by simp,by simp,out++[y],aY,by simp,by rw[show (out++[y]).isEmpty=false by simp]; exact jU,qr,rfl⟩
    ·obtain⟨y,p,c,x,aY,l',az,q7,aS,aX,a3,a4,ig,jU,qr⟩:=fin 0 JE;have cx:=cQ q7;obtain⟨Y,ev⟩:∃ Y,Y=aR y:=⟨_,rfl⟩
     rw[<-ev] at cx a4 ig;have oY:bz (rep 32 (.int .u8 0)) 0 Y=Y:=fE (by rw[cx]; rfl);have qD:cj (.au 32) w (.int .i64 0)=some p:=aS;simp[dH,gN,lI,bx,JF,k3,Kw,lJ,x5,Cz,EL,KN,qD,aX,a3,a4,cx,oY,atr,ig];refine c0.cq ?_;simp;exact⟨_,by simp; omega,by simp,by simp,out++[y],aY,by simp,by rw[show (out++[y]).isEmpty=false by simp]; exact jU,qr,rfl⟩
   ·obtain⟨y,p,c,x,aY,l',az,q7,aS,aX,a3,a4,ig,jU,qr⟩:=fin 0 JE;have cx:=cQ q7;obtain⟨Y,ev⟩:∃ Y,Y=aR y:=⟨_,rfl⟩
    rw[<-ev] at cx a4 ig;have oY:bz (rep 32 (.int .u8 0)) 0 Y=Y:=fE (by rw[cx]; rfl);have qD:cj (.au 32) w (.int .i64 0)=some p:=aS;simp[dH,gN,lI,bx,JF,k3,Kw,lJ,x5,qD,aX,a3,a4,cx,oY,atr,ig];refine c0.cq ?_;simp;exact⟨_,by simp; omega,by simp,by simp,out++[y],aY,by simp,by rw[show (out++[y]).isEmpty=false by simp]; exact jU,qr,rfl⟩
 ·simp[k3,fU,gN,Kf];exact⟨out,ci,by omega,en.rd (fun x=>g6 x) (fp out) (by rw[uQ]) (gQ _)⟩
theorem aie (g:bg) (ar:fG g) (V:kv g) (s:dR Int) :∃ out,iM g out/\out.length=g.ids.l.length/\bw Tryz.prog GS 34 [db g,xj s] (aU (fp out)) :=by
 obtain⟨r,l',zQ,dO,out,h1,ad,kJ⟩:=ajc g ar V s;exact⟨out,h1,ad,bP Tryz.checked.mixed bC ⟨r,l',zQ,dO,kJ⟩⟩
theorem Zt {g:bg} {out:List (List B)} (h:iM g out) {i m:Nat} {y:List B} (av:out[i]? = some y) (hm:g.ids.l[m]? = some y) :∀ {j:Nat},iL g.ids.l g.ops.l (cU g.ops.l m) j->∀ x,g.ids.l[j]? = some x->x∈out.take i:=by
 intro j ax
 induction ax with
 | start p j ay ai=>
  intro x af;rw[ai] at af; obtain rfl:=Option.some.inj af;exact h.pre i y m av hm p ay
 | step iZ p j ax ay ai aH=>
  intro x af;rw[ai] at af; obtain rfl:=Option.some.inj af;have aZ:∃ q,g.ids.l[iZ]? = some q:=by
   cases ax with
   | start bI _ fR ej=>exact⟨bI,ej⟩
   | step Lg bI _ j8 fR ej=>exact⟨bI,ej⟩
  obtain⟨q,aZ⟩:=aZ;have afr:=aH q aZ;obtain⟨a,aB⟩:=atx.1 afr;have gU:=(atq.1 aB).1;rw[atN] at gU;rw[atP (by omega)] at aB;have:=h.pre a q iZ aB aZ p ay;exact at0 (by rw[auO]; rw[auJ (by omega)]; exact this:p∈(out.take i).take a)
def A8 (g:bg) (D:List (List B)) (t:bd) :Prop:=∃ (j:Nat) (o:bp) (x:List B),x∈D/\g.ids.l[j]? = some x/\g.ops.l[j]? = some o/\o.act.kind=2#8/\t=⟨o.act.key,x⟩
def Ee (g:bg) (D:List (List B)) (t:bd) :Prop:=∃ (j:Nat) (o:bp) (x:List B),x∈D/\g.ids.l[j]? = some x/\g.ops.l[j]? = some o/\o.act.kind=3#8/\o.act.key=t.key/\t.id∈jY g j
structure w6 (g:bg) (out:List (List B)) (k:Nat) (s:gq) :Prop where
 ok:mv s.l
 kY:k0 s.l=true
 len:s.l.length<=k
 mem:∀ t,t∈s.l<->A8 g (out.take k) t/\¬ Ee g (out.take k) t
theorem akP (g:bg) (out:List (List B)) :w6 g out 0 none:=
 ⟨fun t h=>(by cases h),rfl,att _,fun t=>⟨fun h=>(by cases h),fun ⟨⟨j,o,x,af,_⟩,_⟩=>by simp at af⟩⟩
theorem Aq {out:List (List B)} {k:Nat} {x y:List B} (hk:out[k]? = some x) :y∈out.take (k+1)<->y∈out.take k\/y=x:=by
 rw[atJ,hk,atQ]; simp
theorem VW {out:List (List B)} (aC:out.Nodup) {k:Nat} {x:List B} (hk:out[k]? = some x) :x∉out.take k:=fun h=>by
 obtain⟨a,aB⟩:=atx.1 h;have gU:=(atq.1 aB).1;rw[atN] at gU;rw[atP (by omega)] at aB;obtain⟨h1,ad⟩:=atq.1 hk;obtain⟨aj,aF⟩:=atq.1 aB;exact aui.1 aC a k aj h1 (by omega) (aF.trans ad.symm)
theorem Zn {g:bg} (dY:iw g.ids.l) {out:List (List B)} {k j:Nat} {x:List B} {o:bp} (hk:out[k]? = some x) (af:g.ids.l[j]? = some x) (ap:g.ops.l[j]? = some o) (t:bd) :A8 g (out.take (k+1)) t<->A8 g (out.take k) t\/(o.act.kind=2#8/\t=⟨o.act.key,x⟩) :=by
 constructor
 ·rintro⟨bX,cJ,jz,h1,ad,aj,aF,aW⟩;rcases (Aq hk).1 h1 with h | h
  ·exact .inl ⟨bX,cJ,jz,h,ad,aj,aF,aW⟩
  ·subst h;have:=dY bX j jz ad af;subst this;rw[ap] at aj; obtain rfl:=Option.some.inj aj;exact .inr ⟨aF,aW⟩
 ·rintro (⟨bX,cJ,jz,h1,ad⟩ | ⟨h1,ad⟩)
  ·exact⟨bX,cJ,jz,(Aq hk).2 (.inl h1),ad⟩
  ·exact⟨j,o,x,(Aq hk).2 (.inr rfl),af,ap,h1,ad⟩
theorem ajG {g:bg} (dY:iw g.ids.l) {out:List (List B)} {k j:Nat} {x:List B} {o:bp} (hk:out[k]? = some x) (af:g.ids.l[j]? = some x) (ap:g.ops.l[j]? = some o) (t:bd) :Ee g (out.take (k+1)) t<->Ee g (out.take k) t\/(o.act.kind=3#8/\o.act.key=t.key/\t.id∈jY g j) :=by
 constructor
 ·rintro⟨bX,cJ,jz,h1,ad,aj,aF,aW⟩;rcases (Aq hk).1 h1 with h | h
  ·exact .inl ⟨bX,cJ,jz,h,ad,aj,aF,aW⟩
  ·subst h;have:=dY bX j jz ad af;subst this;rw[ap] at aj; obtain rfl:=Option.some.inj aj;exact .inr ⟨aF,aW⟩
 ·rintro (⟨bX,cJ,jz,h1,ad⟩ | ⟨h1,ad⟩)
  ·exact⟨bX,cJ,jz,(Aq hk).2 (.inl h1),ad⟩
  ·exact⟨j,o,x,(Aq hk).2 (.inr rfl),af,ap,h1,ad⟩
theorem akQ {g:bg} (ar:fG g) (V:kv g) {out:List (List B)} (ci:iM g out) {k j:Nat} {x:List B} {o:bp} {s:gq} (al:w6 g out k s) (hk:out[k]? = some x) (af:g.ids.l[j]? = some x) (ap:g.ops.l[j]? = some o) :
  ∃ e6,rX s o (fp (jY g j))=(e6,0)/\w6 g out (k+1) e6:=by
 have dY:=nl V.dN;have cI:=(atq.1 hk).1;have F0:=V.n60;have jn:=V.len;have di:=Ny ci;have e4:=al.len;have aE:jw s.l=0:=RJ (by omega) al.kY;obtain⟨aq,gV⟩:=V.kY j o x ap af;have h1:=A0 aq;obtain⟨acM,_⟩:=Bl g ar V af;have ad:¬ 60<(fp (jY g j)).l.length:=by rw[gQ]; have:=acM.len; omega
 have Ft:=Zn dY hk af ap;have k7:=ajG dY hk af ap;have UI:=VW ci.hY hk;have nk:=ar.ids x (atz af);unfold rX;rw[if_pos aE,if_pos h1,if_neg ad];by_cases b0:o.act.kind=2#8
 ·rw[if_pos b0,gV];have nd:(⟨o.act.key,x⟩:bd)∉s.l:=fun h=>by
   obtain⟨⟨bX,cJ,jz,aS,aX,a3,a4,a5⟩,_⟩:=(al.mem _).1 h;have:x=jz:=congrArg bd.id a5;rw[<-this] at aS;exact UI aS
  have aD:¬ E1 s.l ⟨o.act.key,x⟩=true:=fun h=>nd ((ab8 al.kY).1 h)
  refine⟨some (oZ s.l (nJ s.l ⟨o.act.key,x⟩) ⟨o.act.key,x⟩),by unfold Oe; rw[if_neg aD,if_neg (by omega)],agc al.ok nk,acy al.kY nd (agX V ap b0),by rw[dR.Gy,aga]; omega,fun t=>?_⟩;rw[dR.Gy,agb,al.mem t,Ft t,k7 t];have dK:¬ o.act.kind=3#8:=fun h=>by rw[b0] at h; cases h
  constructor
  ·rintro (h | ⟨aS,aX⟩)
   ·subst h;refine⟨.inr ⟨b0,rfl⟩,fun aG=>?_⟩;rcases aG with ⟨bX,cJ,y,dM,dy,gL,lw,tv,En⟩ | aG
    ·obtain⟨i,av⟩:=atx.1 dM;have du:=(atq.1 av).1;rw[atN] at du;rw[atP (by omega)] at av;have ax:=((Bl g ar V dy).1.mem j x af).1 En;have:=Zt ci av dy ax x af;exact UI (at0 (by rw[auO,auJ (by omega)]; exact this:x∈(out.take k).take i))
    ·exact dK aG.1
   ·exact⟨.inl aS,fun aG=>aG.elim aX fun aG=>dK aG.1⟩
  ·rintro⟨aS | aS,aX⟩
   ·exact .inr ⟨aS,fun aG=>aX (.inl aG)⟩
   ·exact .inl aS.2
 ·rw[if_neg b0];have S6:∀ t,A8 g (out.take (k+1)) t<->A8 g (out.take k) t:=fun t=>by
   rw[Ft t]; exact⟨fun h=>h.elim id fun h=>absurd h.1 b0,.inl⟩
  by_cases dK:o.act.kind=3#8
  ·rw[if_pos dK];have vW:(XQ (fun l=>l.filter fun t=>!s8 o (fp (jY g j)) t) s).l=s.l.filter fun t=>!s8 o (fp (jY g j)) t:=by cases s<;>rfl
   refine⟨_,rfl,?_,?_,?_,fun t=>?_⟩
   ·rw[vW]; exact fun t aI=>al.ok t (auI.1 aI).1
   ·rw[vW]; exact acx al.kY
   ·rw[vW]; have:=avW (fun t=>!s8 o (fp (jY g j)) t) s.l; omega
   ·rw[vW,auI,al.mem t,S6 t,k7 t];have cw:(!s8 o (fp (jY g j)) t)=true<->¬ (t.key=o.act.key/\t.id∈jY g j) :=by
     unfold s8;rw[gQ];simp;exact⟨fun h aB=>h.elim (fun h=>absurd aB h) id,fun h=>Classical.or_iff_not_imp_left.2 fun h'=>h (Classical.not_not.1 h')⟩
    rw[cw];constructor
    ·rintro⟨⟨aS,aX⟩,a3⟩;exact⟨aS,fun aG=>aG.elim aX fun aG=>a3 ⟨aG.2.1.symm,aG.2.2⟩⟩
    ·rintro⟨aS,aX⟩;exact⟨⟨aS,fun aG=>aX (.inl aG)⟩,fun aG=>aX (.inr ⟨dK,aG.1.symm,aG.2⟩)⟩
  ·rw[if_neg dK];refine⟨_,rfl,al.ok,al.kY,by omega,fun t=>?_⟩;rw[al.mem t,S6 t,k7 t];exact⟨fun ⟨aS,aX⟩=>⟨aS,fun aG=>aG.elim aX fun aG=>dK aG.1⟩,fun ⟨aS,aX⟩=>⟨aS,fun aG=>aX (.inl aG)⟩⟩
theorem Nx {g:bg} {out:List (List B)} (h:iM g out) (ak:out.length=g.ids.l.length) {x:List B} (af:x∈g.ids.l) :x∈out:=by
 apply Classical.byContradiction;intro aC;have:=yM (a:=x::out) (b:=g.ids.l) (avF.2 ⟨aC,h.hY⟩) (fun y az=>by
  rcases aub.1 az with e | e
  ·rw[e]; exact af
  ·exact h.sub y e)
 simp at this; omega
theorem akO {g:bg} (ar:fG g) (aE:eW g=0) {out:List (List B)} (ci:iM g out) (ak:out.length=g.ids.l.length) {s:gq} (al:w6 g out out.length s) :s.l=(qg g).l:=by
 have V:=qh aE;have dY:=nl V.dN;unfold qg;rw[if_pos aE,Nk];have kG:=al.mem;rw[atW] at kG;refine DV (lt:=eP) yn (fun a b c h1 ad=>rm h1 ad) ((Ca _).1 al.kY).2 (aky (Oc V (att _))) (fun t=>?_);rw[Xy,kG t,Ih];have k7:∀ (key:List UInt8) (x:List B),x∈g.ids.l->(Ee g out ⟨key,x⟩<->ol g g.ops.l.length ⟨key,x⟩) :=fun key x cX=>by
  obtain⟨i,av⟩:=atx.1 cX;constructor
  ·rintro⟨j,o,y,aS,aX,a3,a4,a5,u5⟩;exact⟨j,o,(atq.1 a3).1,a3,a4,a5,(El dY av).2 (((Bl g ar V aX).1.mem i x av).1 u5)⟩
  ·rintro⟨j,o,aS,aX,a3,a4,a5⟩;obtain⟨y,az,cO⟩:=bA (l:=g.ids.l) (k:=j) (by rw[V.len]; exact aS);exact⟨j,o,y,Nx ci ak cO,az,aX,a3,a4,((Bl g ar V az).1.mem i x av).2 ((El dY av).1 a5)⟩
 constructor
 ·rintro⟨⟨j,o,x,aS,aX,a3,a4,a5⟩,u5⟩;subst a5;exact⟨j,o,x,(atq.1 a3).1,a3,aX,a4,fun h=>u5 ((k7 _ _ (atz aX)).2 h),rfl⟩
 ·rintro⟨j,o,x,aS,aX,a3,a4,a5,u5⟩;subst u5;have cX:=atz a3;exact⟨⟨j,o,x,Nx ci ak cX,a3,aX,a4,rfl⟩,fun h=>a5 ((k7 _ _ cX).1 h)⟩
def uX (C:bR->Prop) (r:bR) :Prop:=C r/\∀ q,C q->q.key=r.key->i5 q r=false
structure uZ (C:bR->Prop) (l:List bR) :Prop where
 kY:kZ l=true
 mem:∀ r,r∈l<->uX C r
 all:∀ q,C q->∃ r∈l,r.key=q.key
theorem MK {C D:bR->Prop} {l:List bR} (h:∀ r,C r<->D r) (ak:uZ C l) :uZ D l:=by
 have:C=D:=funext fun r=>propext (h r)
 rw[<-this]; exact ak
theorem ajK:uZ (fun _=>False) [] :=⟨rfl,fun r=>⟨fun h=>(by cases h),fun h=>h.1.elim⟩,fun q h=>h.elim⟩
theorem ajL {C:bR->Prop} {l:List bR} {x:bR} (h:uZ C l) (af:nt x=true) (gV:∀ q,C q->q.id≠x.id) :uZ (fun r=>C r\/r=x) (kQ l x) :=by
 have me:=h.kY;have c2:=h.mem;have hy:=h.all;have jm:=fun r=>Xr me x r
 have xJ:∀ {r},uX C r->x.key≠r.key\/i5 x r=false->uX (fun r=>C r\/r=x) r:=fun {r} ⟨h1,aj⟩ h=>⟨.inl h1,fun q aZ hk=>by
  rcases aZ with aZ | rfl
  ·exact aj q aZ hk
  ·exact h.resolve_left fun aC=>aC hk⟩
 have yc:∀ {r},uX (fun r=>C r\/r=x) r->r=x\/uX C r:=fun {r} ⟨h1,aj⟩=>by
  rcases h1 with h1 | h1
  ·exact .inr ⟨h1,fun q aZ hk=>aj q (.inl aZ) hk⟩
  ·exact .inl h1
 have h9:∀ {r},uX (fun r=>C r\/r=x) r->x.key=r.key->i5 x r=false:=fun {r} h hk=>h.2 x (.inr rfl) hk
 suffices aG:(∀ r,r∈kQ l x<->uX (fun r=>C r\/r=x) r)/\(∀ q,(C q\/q=x)->∃ r∈kQ l x,r.key=q.key) from ⟨Sv me af,aG.1,aG.2⟩
 by_cases pR:∃ y∈l,y.key=x.key
 ·obtain⟨y,az,iD⟩:=pR;have cx:=(c2 y).1 az;cases ak:i5 x y with
  | true=>
   refine⟨fun r=>?_,fun q aZ=>?_⟩
   ·rw[(jm r).1 y az iD ak];constructor
    ·rintro (e | ⟨h,hp⟩)
     ·refine⟨.inr e,fun q aZ hk=>?_⟩;rw[e] at hk ⊢;rcases aZ with aZ | aZ
      ·cases eX:i5 q x with
       | false=>rfl
       | true=>
        have:=cx.2 q aZ (by rw[hk,iD]);rw[VE eX ak] at this; cases this
      ·rw[aZ]; exact GL _
     ·exact xJ ((c2 r).1 h) (.inl fun e=>hp e.symm)
    ·intro h;rcases yc h with e | e
     ·exact .inl e
     ·refine .inr ⟨(c2 r).2 e,fun hp=>?_⟩;have h1:=h9 h hp.symm;rw[zC me ((c2 r).2 e) az (by rw[hp,iD]),ak] at h1; cases h1
   ·by_cases e:q.key=x.key
    ·exact⟨x,((jm x).1 y az iD ak).2 (.inl rfl),e.symm⟩
    ·obtain⟨r,ax,hp⟩:=hy q (aZ.resolve_right fun h=>e (by rw[h]));exact⟨r,((jm r).1 y az iD ak).2 (.inr ⟨ax,by rw[hp]; exact e⟩),hp⟩
  | false=>
   rw[(jm x).2.1 y az iD ak];refine⟨fun r=>⟨fun h=>xJ ((c2 r).1 h) ?_,fun h=>?_⟩,fun q aZ=>?_⟩
   ·by_cases hp:r.key=x.key
    ·right;rw[zC me h az (by rw[hp,iD])]; exact ak
    ·exact .inl fun e=>hp e.symm
   ·rcases yc h with e | e
    ·exfalso;have aW:=h.2 y (.inl cx.1) (by rw[e]; exact iD);rw[e] at aW;have:=VD (gV y cx.1) aW;rw[ak] at this; cases this
    ·exact (c2 r).2 e
   ·rcases aZ with aZ | aZ
    ·exact hy q aZ
    ·exact⟨y,az,by rw[aZ]; exact iD⟩
 ·have dF:∀ y∈l,y.key≠x.key:=fun y az e=>pR ⟨y,az,e⟩
  refine⟨fun r=>?_,fun q aZ=>?_⟩
  ·rw[(jm r).2.2 dF];constructor
   ·rintro (e | h)
    ·refine⟨.inr e,fun q aZ hk=>?_⟩;rw[e] at hk ⊢;rcases aZ with aZ | aZ
     ·obtain⟨p,ay,CL⟩:=hy q aZ;exact absurd (by rw[CL,hk]) (dF p ay)
     ·rw[aZ]; exact GL _
    ·exact xJ ((c2 r).1 h) (.inl fun e=>dF r h e.symm)
   ·intro h;rcases yc h with e | e
    ·exact .inl e
    ·exact .inr ((c2 r).2 e)
  ·rcases aZ with aZ | aZ
   ·obtain⟨r,ax,hp⟩:=hy q aZ;exact⟨r,((jm r).2.2 dF).2 (.inr ax),hp⟩
   ·exact⟨x,((jm x).2.2 dF).2 (.inl rfl),by rw[aZ]⟩
def Ba (g:bg) (D:List (List B)) (r:bR) :Prop:=∃ (j:Nat) (o:bp) (x:List B),x∈D/\g.ids.l[j]? = some x/\g.ops.l[j]? = some o/\o.act.kind=4#8/\r=hD o x
def HZ (g:bg) (D:List (List B)) (x:List B) :Prop:=x∈D/\∀ y∈D,∀ j,g.ids.l[j]? = some y->x∉cU g.ops.l j
theorem akN {g:bg} {a b:List (List B)} {k:Nat} {s:gq} (h:a.take k=b.take k) (al:w6 g a k s) :w6 g b k s:=⟨al.ok,al.kY,al.len,by rw[<-h]; exact al.mem⟩
structure oj (g:bg) (D:List (List B)) (s:ck) :Prop where
 dB:s.dB=(D.length:Int)
 set:w6 g D D.length s.set
 bQ:uZ (Ba g D) s.bQ.l
 MN:ju s.bQ.l
 rA:s.bQ.l.length<=D.length
 al:s.bM.l.Pairwise fun a b=>ib a b=true
 hm:∀ x,x∈s.bM.l<->HZ g D x
theorem acb (g:bg) :oj g [] kR:=
 ⟨rfl,akP g [],MK (fun r=>⟨fun h=>h.elim,fun ⟨j,o,x,h,_⟩=>by simp at h⟩) ajK,fun r h=>(by cases h),att _,List.Pairwise.nil,fun x=>⟨fun h=>(by cases h),fun h=>(by cases h.1)⟩⟩
theorem ahv {l:List (List B)} (h:l.Pairwise fun a b=>ib a b=true) :l.Nodup:=h.imp fun {a b} h e=>by subst e; rw[GJ] at h; cases h
theorem oj.aC {g:bg} {D:List (List B)} {s:ck} (h:oj g D s) :s.bM.l.Nodup:=ahv h.al
theorem oj.ak {g:bg} {D:List (List B)} {s:ck} (h:oj g D s) :s.bM.l.length<=D.length:=yM h.aC fun x af=>((h.hm x).1 af).1
theorem oj.st {g:bg} (ar:fG g) {D:List (List B)} (ci:iM g D) {s:ck} (h:oj g D s) (zF:D.length<=1000000) :N4 s D.length:=by
 have h1:=h.ak;have ad:=h.set.len;have aj:=h.rA;exact⟨⟨h.set.ok,h.MN,fun x af=>ar.ids x (ci.sub x ((h.hm x).1 af).1),by omega,by omega,by omega⟩,h.dB,h1,h.aC,h.rA⟩
theorem alf {g:bg} {D:List (List B)} {x:List B} (h:iM g (D++[x])) :iM g D:=by
 refine⟨(auD.1 h.hY).1,fun y az=>h.sub y (avB _ az),fun i y j av ai p ay=>?_⟩;have du:=(atq.1 av).1;have:=h.pre i y j (by rw[ats du]; exact av) ai p ay
 rwa [atS (by omega)] at this
theorem ale {g:bg} {D:List (List B)} (h:iM g D) {y:List B} (az:y∈D) {j:Nat} (ai:g.ids.l[j]? = some y) {p:List B} (ay:p∈cU g.ops.l j) :p∈D:=by
 obtain⟨i,av⟩:=atx.1 az;exact at0 (h.pre i y j av ai p ay)
theorem W1 {l:List bR} (h:l.length<=60) (ar:kZ l=true) :lm l=0:=by
 unfold lm;rw[if_neg (by omega),if_pos ar]
theorem ace {g:bg} (ar:fG g) (aE:eW g=0) {D:List (List B)} {x:List B} (ci:iM g (D++[x])) {s:ck} (h:oj g D s) :∃ e6,ET s g x=(e6,0)/\oj g (D++[x]) e6:=by
 have V:=qh aE;have dY:=nl V.dN;have vZ:(D++[x])[D.length]? = some x:=by simp
 obtain⟨j,af⟩:=atx.1 (ci.sub x (by simp));have hm:=atz af;have nk:=ar.ids x hm;obtain⟨o,ap,dZ⟩:=bA (l:=g.ops.l) (k:=j) (by rw[<-V.len]; exact (atq.1 af).1);have adh:=alf ci;have bh:=Ny ci;rw[atB,List.length_singleton] at bh;have F0:=V.n60;have jn:=V.len;have Gl:x∉D:=fun aG=>(auD.1 ci.hY).2.2 x aG x (by simp) rfl
 have UH:x∉s.bM.l:=fun aG=>Gl ((h.hm x).1 aG).1
 obtain⟨aq,gV⟩:=V.kY j o x ap af;have gx:=A0 aq;have afe:∀ p∈o.bo.l,p∈D:=fun p ay=>by
  have:=ci.pre D.length x j vZ af p (by rw[my ap]; exact ay)
  rwa [List.take_left] at this
 obtain⟨c9,q4,jf⟩:=akQ ar V ci (akN (by rw[List.take_left,atW]) h.set) vZ af ap;obtain⟨Fg,_⟩:=Bl g ar V af;have pI:g.ids.l.length<=60:=by omega
 have J2:rX s.set o (fp (jG g j))=rX s.set o (fp (jY g j)) :=Zz _ _ (fun p=>by
  rw[gQ,gQ];constructor
  ·intro h;obtain⟨bX,ai⟩:=atx.1 (Ol h);exact (Fg.mem bX p ai).2 ((El dY ai).1 h)
  ·intro h;obtain⟨bX,ai⟩:=atx.1 (Fg.sub p h);exact (El dY ai).2 ((Fg.mem bX p ai).1 h)) (by rw[gQ]; have:=Oj g j; omega) (by rw[gQ]; have:=Fg.len; omega)
 have nW:=h.rA;have lM:gG s.bQ.l o x=gG s.bQ.l o x:=rfl;have KM:(gG s.bQ.l o x).length<=D.length+1/\ju (gG s.bQ.l o x)/\uZ (Ba g (D++[x])) (gG s.bQ.l o x) :=by
  have m7:∀ r,Ba g (D++[x]) r<->Ba g D r\/(o.act.kind=4#8/\r=hD o x) :=fun r=>by
   constructor
   ·rintro⟨bX,cJ,jz,aS,aX,a3,a4,a5⟩;rw[atQ,atM] at aS;rcases aS with aS | aS
    ·exact .inl ⟨bX,cJ,jz,aS,aX,a3,a4,a5⟩
    ·subst aS;have:=dY bX j jz aX af;subst this;rw[ap] at a3; obtain rfl:=Option.some.inj a3;exact .inr ⟨a4,a5⟩
   ·rintro (⟨bX,cJ,jz,aS,aX⟩ | ⟨aS,aX⟩)
    ·exact⟨bX,cJ,jz,avB _ aS,aX⟩
    ·exact⟨j,o,x,by simp,af,ap,aS,aX⟩
  unfold gG;by_cases dP:o.act.kind=4#8
  ·rw[if_pos dP];have:=Xs (x:=hD o x) h.MN ⟨nk,(ar.ops o dZ).val⟩;refine⟨by omega,this.1,MK (fun r=>?_) (ajL h.bQ (W9 V ap af dP) fun q ⟨bX,cJ,jz,aS,aX,a3,a4,a5⟩ e=>?_)⟩
   ·rw[m7 r]; exact⟨fun h=>h.imp id fun h=>⟨dP,h⟩,fun h=>h.imp id fun h=>h.2⟩
   ·rw[a5] at e;have bF:jz=x:=e;rw[bF] at aS; exact Gl aS
  ·rw[if_neg dP];exact⟨by omega,h.MN,MK (fun r=>by rw[m7 r]; exact⟨.inl,fun h=>h.elim id fun h=>absurd h.1 dP⟩) h.bQ⟩
 have ax:DG s.bQ o=(wC s.bQ o,0) :=by
  unfold DG;rw[if_pos (W1 (by omega) h.bQ.kY),if_pos gx,gV,if_neg (by omega)]
 have FK:(s.bM.l.filter (wd o)++[x]).Nodup:=by
  refine auD.2 ⟨h.aC.sublist avC,by simp,fun p ay q aZ=>?_⟩;rw[atM.1 aZ];exact fun e=>UH (by rw[<-e]; exact (auI.1 ay).1)
 have TE:Cr s o x=Na (s.bM.l.filter (wd o)++[x]) :=akL FK;refine⟨⟨s.dB+1,c9,wC s.bQ o,some (Cr s o x)⟩,?_,?_,?_,?_,?_,?_,?_,?_⟩
 ·unfold ET;have aq:=h.dB;rw[if_pos hm,if_neg UH,if_neg (by omega),Jp V af ap,EF V.dN af];unfold RM;rw[J2,q4,ax,if_pos rfl,if_pos rfl]
 ·show s.dB+1=_;rw[h.dB,atB]; rfl
 ·rw[atB]; exact jf
 ·show uZ _ (wC s.bQ o).l;rw[ML,gV]; exact KM.2.2
 ·show ju (wC s.bQ o).l;rw[ML,gV]; exact KM.2.1
 ·show (wC s.bQ o).l.length<=_;rw[ML,gV,atB]; exact KM.1
 ·show (Cr s o x).Pairwise _;rw[TE]; exact M7 Ap GK FK (att _)
 ·intro y;show y∈Cr s o x<->_;rw[TE,HB (att _),atW,atQ,auI,atM,h.hm y,auP,decide_eq_false_iff_not];unfold HZ;constructor
  ·rintro (⟨⟨aS,aX⟩,a3⟩ | rfl)
   ·refine⟨avB _ aS,fun z aw bX ai=>?_⟩;rw[atQ,atM] at aw;rcases aw with aw | aw
    ·exact aX z aw bX ai
    ·subst aw;rw[dY bX j z ai af,my ap]; exact a3
   ·refine⟨by simp,fun z aw bX ai ay=>?_⟩;rw[atQ,atM] at aw;rcases aw with aw | aw
    ·exact Gl (ale adh aw ai ay)
    ·subst aw;rw[dY bX j z ai af,my ap] at ay;exact Gl (afe z ay)
  ·rintro⟨aS,aX⟩;rw[atQ,atM] at aS;rcases aS with aS | aS
   ·exact .inl ⟨⟨aS,fun z aw=>aX z (avB _ aw)⟩,by rw[<-my ap]; exact aX x (by simp) j af⟩
   ·exact .inr aS
theorem X0 {g:bg} (aE:eW g=0) {l:List (List B)}:∀ {k:Nat},k<=l.length->(∀ i,i<k->yx g l i=true)->iM g (l.take k)
 | 0,_,_=>XZ g
 | k+1,hk,ap=>by
  have V:=qh aE;have aH:=X0 aE (k:=k) (by omega) fun i av=>ap i (by omega)
  obtain⟨x,af,cX⟩:=bA (l:=l) (k:=k) (by omega);have h1:=ap k (by omega);unfold yx l4 at h1;rw[fr af,atv,atv,auP,decide_eq_true_eq,decide_eq_false_iff_not,decide_eq_true_eq] at h1;obtain⟨ad,aj,aF⟩:=h1;obtain⟨j,ai⟩:=atx.1 ad;obtain⟨o,x1,_⟩:=bA (l:=g.ops.l) (k:=j) (by rw[<-V.len]; exact (atq.1 ai).1);rw[Jp V ai x1] at aF;rw[atJ,af];exact X1 (nl V.dN) aH ai aj (by rw[my x1]; exact aF)
theorem aic {g:bg} (aE:eW g=0) {l:List (List B)} (ci:iM g l) {k:Nat} (hk:k<l.length) :yx g l k=true:=by
 have V:=qh aE;obtain⟨x,af,cX⟩:=bA hk;have hm:=ci.sub x cX;obtain⟨j,ai⟩:=atx.1 hm;obtain⟨o,x1,_⟩:=bA (l:=g.ops.l) (k:=j) (by rw[<-V.len]; exact (atq.1 ai).1);unfold yx l4;rw[fr af,atv,atv,auP,decide_eq_true_eq,decide_eq_false_iff_not,decide_eq_true_eq,Jp V ai x1];exact⟨hm,VW ci.hY af,fun p ay=>ci.pre k x j af ai p (by rw[my x1]; exact ay)⟩
theorem Xc {g:bg} (ar:fG g) (aE:eW g=0) {l:List (List B)}:∀ {k:Nat},k<=l.length->(∀ i,i<k->yx g l i=true)->∃ s,rB g l k=(s,0)/\oj g (l.take k) s
 | 0,_,_=>⟨kR,rfl,acb g⟩
 | k+1,hk,ap=>by
  obtain⟨s,h1,ad⟩:=Xc ar aE (k:=k) (by omega) fun i av=>ap i (by omega)
  obtain⟨x,af,cX⟩:=bA (l:=l) (k:=k) (by omega);have ci:=X0 aE hk ap;have e:l.take (k+1)=l.take k++[x] :=by rw[atJ,af]; rfl
  rw[e] at ci ⊢;obtain⟨e6,aj,aF⟩:=ace ar aE ci ad;refine⟨e6,?_,aF⟩;show (if (rB g l k).2=0 then (if yx g l k=true then ET (rB g l k).1 g (bV l k) else (kR,32)) else rB g l k)=_;rw[h1,if_pos rfl,if_pos (ap k (by omega)),fr af]; exact aj
theorem ab3 {g:bg} (ar:fG g) :lr (ma g) :=by
 unfold ma;by_cases aE:eW g=0
 ·have V:=qh aE;have h1:=aia ar;have ad:=DC ar V (att _);have aC:=V.n60;have ak:=V.len;have aQ:(mu g).l=gZ g g.ops.l.length:=by unfold mu; rw[if_pos aE,gQ]
  have bF:(mF g).l=zN g:=by unfold mF; rw[if_pos aE,gQ]
  rw[if_pos aE];refine⟨h1.1,by show ju (mu g).l; rw[aQ]; exact ad.2.1,fun z aw=>ar.ids z ?_,by have:=h1.2; show (qg g).l.length<=_; omega,by show (mu g).l.length<=_; rw[aQ]; have:=ad.2.2; omega,?_⟩
  ·have p8:z∈(mF g).l:=aw;rw[bF] at p8; exact (auI.1 p8).1
  ·show (mF g).l.length<=_;rw[bF];have:=avW (zP g) g.ids.l;unfold zN; omega
 ·rw[if_neg aE]; exact aid
theorem ajO {l:List (List B)} (h:dN l=true) :l.Pairwise fun a b=>ib a b=true:=
 aui.2 fun i j av ai ho=>(wk _ _).2 (yF h ho (atu av) (atu ai))
theorem ais {l:List (List B)} (h:l.Pairwise fun a b=>ib a b=true) :dN l=true:=MM fun k hk h1=>by
 have ad:=atu hk;have aj:=atu (l:=l) (i:=k - 1) (by omega);rw[fr ad,fr aj];exact (wk _ _).1 ((aui.1 h) (k - 1) k (by omega) hk (by omega))
theorem aca {g:bg} (ar:fG g) (aE:eW g=0) {D:List (List B)} (ci:iM g D) (ak:D.length=g.ids.l.length) {s:ck} (h:oj g D s) :rC s (ma g)=true:=by
 have V:=qh aE;have jn:=V.len;have eC:∀ x,x∈g.ids.l->x∈D:=fun x af=>Nx ci ak af
 unfold ma;rw[if_pos aE];refine (yJ _ _).2 ⟨?_,akO ar aE ci ak h.set,?_,?_⟩
 ·show s.dB=(g.ops.l.length:Int); rw[h.dB]; omega
 ·show s.bQ.l=(mu g).l;have e:(mu g).l=gZ g g.ops.l.length:=by unfold mu; rw[if_pos aE,gQ]
  rw[e];have ah:∀ q,Ba g D q<->∃ j,j<g.ops.l.length/\wK g j/\q=nu g j:=fun q=>by
   unfold wK nu;constructor
   ·rintro⟨j,o,x,aS,aX,a3,a4,a5⟩;exact⟨j,(atq.1 a3).1,by rw[sR a3]; exact a4,by rw[sR a3,fr aX]; exact a5⟩
   ·rintro⟨j,aS,aX,a3⟩;obtain⟨o,ap,_⟩:=bA aS;obtain⟨x,af,cX⟩:=bA (l:=g.ids.l) (k:=j) (by omega);rw[sR ap] at aX;rw[sR ap,fr af] at a3;exact⟨j,o,x,eC x cX,af,ap,aX,a3⟩
  refine DV (lt:=lh) (fun a=>ql a.key) VC ((B9 _).1 h.bQ.kY).2 ((B9 _).1 (DC ar V (att _)).1).2 fun r=>?_
  rw[h.bQ.mem,(WC ar V (att _)).1];unfold uX w3;rw[ah r];constructor
  ·rintro⟨⟨j,aS,aX,a3⟩,a4⟩;exact⟨j,aS,aX,a3,fun m hm al hk=>a4 _ ((ah _).2 ⟨m,hm,al,rfl⟩) hk⟩
  ·rintro⟨j,aS,aX,a3,a4⟩;refine⟨⟨j,aS,aX,a3⟩,fun q aZ hk=>?_⟩;obtain⟨m,hm,al,rfl⟩:=(ah q).1 aZ;exact a4 m hm al hk
 ·show s.bM.l=(mF g).l;have e:(mF g).l=zN g:=by unfold mF; rw[if_pos aE,gQ]
  rw[e];unfold zN;refine DV (lt:=ib) GJ Ap h.al ((ajO V.dN).sublist avC) fun x=>?_
  rw[h.hm,auI];unfold HZ zP xn;rw[decide_eq_true_eq];constructor
  ·rintro⟨aS,aX⟩;refine⟨ci.sub x aS,fun j ai ay=>?_⟩;obtain⟨o,ap,_⟩:=bA ai;obtain⟨y,az,cO⟩:=bA (l:=g.ids.l) (k:=j) (by omega);rw[sR ap] at ay;exact aX y (eC y cO) j az (by rw[my ap]; exact ay)
  ·rintro⟨aS,aX⟩;refine⟨eC x aS,fun y az j ai ay=>?_⟩;obtain⟨o,ap,_⟩:=bA (l:=g.ops.l) (k:=j) (by have:=(atq.1 ai).1; omega);have:=aX j (atq.1 ap).1;rw[sR ap] at this;rw[my ap] at ay;exact this ay
theorem akM {s t:ck} (h:rC s t=true) :ob s=ob t:=by
 obtain⟨h1,ad,aj,aF⟩:=(yJ s t).1 h;unfold ob zD xr;rw[h1,ad,aj,aF]
theorem acd {g:bg} {D:List (List B)} (ci:iM g D) (zF:D.length<=60) {s:ck} (h:oj g D s) :ob s=0:=by
 have h1:=h.ak;have ad:=h.set.len;have aj:=h.rA;have aq:=h.dB;have bx:s.bM.l.length=0->D.length=0:=fun e=>by
  cases bq:D.getLast? with
  | none=>rw[List.getLast?_eq_none_iff] at bq; rw[bq]; rfl
  | some x=>
   obtain⟨E,eB⟩:=List.getLast?_eq_some_iff.1 bq;have af:x∈s.bM.l:=(h.hm x).2 ⟨by rw[eB]; simp,fun y az j ai ay=>by
    obtain⟨i,av⟩:=atx.1 az;have aF:=ci.pre i y j av ai x ay;have du:=(atq.1 av).1;rw[eB,atB,List.length_singleton] at du;rw[eB,atS (by omega)] at aF;have pV:=ci.hY;rw[eB] at pV;exact (auD.1 pV).2.2 x (at0 aF) x (by simp) rfl⟩
   rw[aug.1 e] at af; cases af
 have me:zD s=true:=by
  unfold zD xr;rw[RJ (by omega) h.set.kY,W1 (by omega) h.bQ.kY,ais h.al];rw[decide_eq_true (by omega:0<=s.dB),decide_eq_true (by omega:s.dB<=60),decide_eq_true (by omega:(s.bM.l.length:Int)<=s.dB)];by_cases e:s.bM.l.length=0
  ·have:=bx e;rw[decide_eq_false (by omega:¬ 0<s.dB)]; simp
  ·rw[decide_eq_false e]; simp
 unfold ob; rw[me]; rfl
theorem ajV {g:bg} (ar:fG g) (aE:eW g=0) {D:List (List B)} (ci:iM g D) (ak:D.length=g.ids.l.length) :∃ s,R3 g D=(s,0)/\oj g D s:=by
 obtain⟨s,h1,ad⟩:=Xc ar aE (att D.length) fun i av=>aic aE ci av
 rw[atW] at ad;refine⟨s,?_,ad⟩;unfold R3;rw[if_pos aE,if_pos ak,h1]
theorem R4 {g:bg} (ar:fG g) (aE:eW g=0) :ob (ma g)=0:=by
 have V:=qh aE;obtain⟨D,ci,ak,_⟩:=aie g ar V none;obtain⟨s,_,ad⟩:=ajV ar aE ci ak;rw[<-akM (aca ar aE ci ak ad)];exact acd ci (by have:=V.n60; have:=V.len; omega) ad
def HX (l l' : am) :Prop:=l.length<=l'.length/\∀ b,b<l.length->l'[b]? = l[b]?
set_option maxHeartbeats 4000000 in
theorem alt (s:ck) (ap:lr s) {l:am} {K:U->am->Prop} (aV:∀ l' j,l.length<=j->HX l l'->bJ 33 l' (.au 33 j 0 s.set.l.length s.set.l.length (s.set.l.length*33)) j (s.set.l.map c5)->
   K (.aM [.int .i64 s.dB,.au 33 j 0 s.set.l.length s.set.l.length (s.set.l.length*33),dA (some s.bQ.l),aU (some s.bM.l)]) l') :
  c7 Tryz.prog GS 16 [.aM (fP s)] l (c:=⟨K⟩) :=by
 apply bj Tryz.func16 [[[0],[1],[2],[3],[4],[5],[8],[9],[10],[11],[14],[15],[16],[6,16,14,11,8,1],[7],[12,16,14,1],[13],[17,1]]];have ax:ct=140737488355328:=rfl;have z0:∀ x∈s.set.l,(c5 x).length=33:=fun x af=>nN (ap.set x af)
 have hI:∀ x∈s.bQ.l,(cd x).length=38:=fun x af=>iQ (ap.bQ x af).id
 have fO:∀ x∈s.bM.l,(aR x).length=32:=fun x af=>cQ (ap.bM x af)
 have l1:=ap.ls;have b5:=ap.n1;have dU:=ap.rj;obtain⟨A,cz⟩:∃ A,A=a2.cells 4 (fP s) :=⟨_,rfl⟩
 obtain⟨C,nQ⟩:∃ C,C=a2.cells 4 [U.int .i64 0,.a1,.a1,.a1] :=⟨_,rfl⟩
 obtain⟨X,cT⟩:∃ X,X=a2.cells (s.set.l.length*33) (s.set.l.map c5).flatten:=⟨_,rfl⟩
 have a0:=pt (enc:=c5) (by_:=48) (l++[A,C,.cells 0 [],.cells 0 [],.cells 0 []]) (l.length+2) (by simp) s.set z0 (by omega) (by omega) (by rw[ax]; omega);have aS:=pt (enc:=cd) (by_:=96) (l++[A,C,X,.cells 0 [],.cells 0 []]) (l.length+3) (by simp) s.bQ hI (by omega) (by omega) (by rw[ax]; omega);have aX:=pt (enc:=aR) (by_:=32) (l++[A,C,X,.dead,.cells 0 []]) (l.length+4) (by simp) s.bM fO (by omega) (by omega) (by rw[ax]; omega);have aQ:U.bD 38 (s.bQ.l.map cd)=dA (some s.bQ.l) :=rfl;have gm:=zg (some s.bQ.l);have bF:U.bD 32 (s.bM.l.map aR)=aU (some s.bM.l) :=rfl;have hr:=BC (some s.bM.l);rw[<-cT] at a0;rw[cz,nQ] at a0 aS aX;unfold fP at a0 aS aX;change fz _ _ _ _ (eh s.set)=_ at a0;change fz _ _ _ _ (dA s.bQ)=_ at aS;change fz _ _ _ _ (aU s.bM)=_ at aX;simp[fP,a0];refine c0.cq ?_;simp[aS];refine c0.r8 (by exact mx hI rfl (by simp)) rfl ?_;simp[aQ,gm,aX];refine c0.r8 (by exact mx fO rfl (by simp)) rfl ?_;simp[bF,hr,bz];refine aV _ (l.length+2) (by omega) ⟨by simp,fun b ag=>ats ag⟩ (mx z0 rfl (by simp[cT]))
set_option maxHeartbeats 4000000 in
theorem als (s:ck) (ap:lr s) {l:am} {K:U->am->Prop} (aV:∀ l' j,l.length<=j->HX l l'->bJ 38 l' (.au 38 j 0 s.bQ.l.length s.bQ.l.length (s.bQ.l.length*38)) j (s.bQ.l.map cd)->
   K (.aM [.int .i64 s.dB,eh (some s.set.l),.au 38 j 0 s.bQ.l.length s.bQ.l.length (s.bQ.l.length*38),aU (some s.bM.l)]) l') :
  c7 Tryz.prog GS 16 [.aM (fP s)] l (c:=⟨K⟩) :=by
 apply bj Tryz.func16 [[[0],[1],[2],[3],[4],[5],[8],[9],[10],[11],[14],[15],[16],[6,16,14,11,8,1],[7],[12,16,14,1],[13],[17,1]]];have ax:ct=140737488355328:=rfl;have z0:∀ x∈s.set.l,(c5 x).length=33:=fun x af=>nN (ap.set x af)
 have hI:∀ x∈s.bQ.l,(cd x).length=38:=fun x af=>iQ (ap.bQ x af).id
 have fO:∀ x∈s.bM.l,(aR x).length=32:=fun x af=>cQ (ap.bM x af)
 have l1:=ap.ls;have b5:=ap.n1;have dU:=ap.rj;obtain⟨A,cz⟩:∃ A,A=a2.cells 4 (fP s) :=⟨_,rfl⟩
 obtain⟨C,nQ⟩:∃ C,C=a2.cells 4 [U.int .i64 0,.a1,.a1,.a1] :=⟨_,rfl⟩
 obtain⟨X,cT⟩:∃ X,X=a2.cells (s.bQ.l.length*38) (s.bQ.l.map cd).flatten:=⟨_,rfl⟩
 have a0:=pt (enc:=c5) (by_:=48) (l++[A,C,.cells 0 [],.cells 0 [],.cells 0 []]) (l.length+2) (by simp) s.set z0 (by omega) (by omega) (by rw[ax]; omega);have aS:=pt (enc:=cd) (by_:=96) (l++[A,C,.dead,.cells 0 [],.cells 0 []]) (l.length+3) (by simp) s.bQ hI (by omega) (by omega) (by rw[ax]; omega);have aX:=pt (enc:=aR) (by_:=32) (l++[A,C,.dead,X,.cells 0 []]) (l.length+4) (by simp) s.bM fO (by omega) (by omega) (by rw[ax]; omega);have gw:U.bD 33 (s.set.l.map c5)=eh (some s.set.l) :=rfl;have LR:=BD (some s.set.l);have bF:U.bD 32 (s.bM.l.map aR)=aU (some s.bM.l) :=rfl;have hr:=BC (some s.bM.l);rw[<-cT] at aS;rw[cz,nQ] at a0 aS aX;unfold fP at a0 aS aX;change fz _ _ _ _ (eh s.set)=_ at a0;change fz _ _ _ _ (dA s.bQ)=_ at aS;change fz _ _ _ _ (aU s.bM)=_ at aX;simp[fP,a0];refine c0.r8 (by exact mx z0 rfl (by simp)) rfl ?_;simp[gw,LR,aS];refine c0.cq ?_;simp[aX];refine c0.r8 (by exact mx fO rfl (by simp)) rfl ?_;simp[bF,hr,bz];refine aV _ (l.length+3) (by omega) ⟨by simp,fun b ag=>ats ag⟩ (mx hI rfl (by simp[cT]))
set_option maxHeartbeats 4000000 in
theorem alr (s:ck) (ap:lr s) {l:am} {K:U->am->Prop} (aV:∀ l' j,l.length<=j->HX l l'->bJ 32 l' (.au 32 j 0 s.bM.l.length s.bM.l.length (s.bM.l.length*32)) j (s.bM.l.map aR)->
   K (.aM [.int .i64 s.dB,eh (some s.set.l),dA (some s.bQ.l),.au 32 j 0 s.bM.l.length s.bM.l.length (s.bM.l.length*32)]) l') :
  c7 Tryz.prog GS 16 [.aM (fP s)] l (c:=⟨K⟩) :=by
 apply bj Tryz.func16 [[[0],[1],[2],[3],[4],[5],[8],[9],[10],[11],[14],[15],[16],[6,16,14,11,8,1],[7],[12,16,14,1],[13],[17,1]]];have ax:ct=140737488355328:=rfl;have z0:∀ x∈s.set.l,(c5 x).length=33:=fun x af=>nN (ap.set x af)
 have hI:∀ x∈s.bQ.l,(cd x).length=38:=fun x af=>iQ (ap.bQ x af).id
 have fO:∀ x∈s.bM.l,(aR x).length=32:=fun x af=>cQ (ap.bM x af)
 have l1:=ap.ls;have b5:=ap.n1;have dU:=ap.rj;obtain⟨A,cz⟩:∃ A,A=a2.cells 4 (fP s) :=⟨_,rfl⟩
 obtain⟨C,nQ⟩:∃ C,C=a2.cells 4 [U.int .i64 0,.a1,.a1,.a1] :=⟨_,rfl⟩
 obtain⟨X,cT⟩:∃ X,X=a2.cells (s.bM.l.length*32) (s.bM.l.map aR).flatten:=⟨_,rfl⟩
 have a0:=pt (enc:=c5) (by_:=48) (l++[A,C,.cells 0 [],.cells 0 [],.cells 0 []]) (l.length+2) (by simp) s.set z0 (by omega) (by omega) (by rw[ax]; omega);have aS:=pt (enc:=cd) (by_:=96) (l++[A,C,.dead,.cells 0 [],.cells 0 []]) (l.length+3) (by simp) s.bQ hI (by omega) (by omega) (by rw[ax]; omega);have aX:=pt (enc:=aR) (by_:=32) (l++[A,C,.dead,.dead,.cells 0 []]) (l.length+4) (by simp) s.bM fO (by omega) (by omega) (by rw[ax]; omega);have gw:U.bD 33 (s.set.l.map c5)=eh (some s.set.l) :=rfl;have LR:=BD (some s.set.l);have aQ:U.bD 38 (s.bQ.l.map cd)=dA (some s.bQ.l) :=rfl;have gm:=zg (some s.bQ.l);rw[<-cT] at aX;rw[cz,nQ] at a0 aS aX;unfold fP at a0 aS aX;change fz _ _ _ _ (eh s.set)=_ at a0;change fz _ _ _ _ (dA s.bQ)=_ at aS;change fz _ _ _ _ (aU s.bM)=_ at aX;simp[fP,a0];refine c0.r8 (by exact mx z0 rfl (by simp)) rfl ?_;simp[gw,LR,aS];refine c0.r8 (by exact mx hI rfl (by simp)) rfl ?_;simp[aQ,gm,aX];refine c0.cq ?_;simp[bz];refine aV _ (l.length+4) (by omega) ⟨by simp,fun b ag=>ats ag⟩ (mx fO rfl (by simp[cT]))
theorem Yl (v:gK) :eU (cW v) (cW v)=true:=by simp[cW,eU,U.beq]
theorem ajt {s:ck} (aE:ob s=0) (k:List UInt8) :(s3 s k).1=oD s.set.l k/\(s3 s k).2.2=0 ∧
  (¬ 0<=hW k (s.bQ.l.map bR.key) 0->(s3 s k).2.1=ij)/\(0<=hW k (s.bQ.l.map bR.key) 0->(s3 s k).2.1=(mC s.bQ.l (hW k (s.bQ.l.map bR.key) 0).toNat).val) :=by
 obtain⟨_,h1,ad,_⟩:=Nb aE;unfold s3;rw[if_pos aE];refine⟨?_,rfl,fun h=>?_,fun h=>?_⟩
 ·show zI _ _=_;rw[adt]; unfold J0; rw[h1]; simp
 ·show (nP _ _).1=_;rw[Sq]; unfold E6; rw[if_pos ad,if_neg h]
 ·show (nP _ _).1=_;rw[Sq]; unfold E6; rw[if_pos ad,if_pos h]
theorem aaN {l:am} {h5 ca eV e1 iP h6:a2} (ak:7<=l.length) (aE:l[0]? = some h5) (h1:l[1]? = some ca) (aj:l[3]? = some eV) (aF:l[4]? = some e1) (aW:l[5]? = some iP) (bt:l[6]? = some h6) :∃ cy,l=h5::ca::cy::eV::e1::iP::h6::l.drop 7:=by
 match l,ak with
 | a0::aS::aX::a3::a4::a5::u5::m,_=>
  simp at aE h1 aj aF aW bt;subst aE h1 aj aF aW bt;exact⟨aX,rfl⟩
theorem Mf {α:Type} {enc:α->List U} {z:Nat} {l:am} {b n:Nat} {a:List α} (h:bJ z l (.au z b 0 n n (n*z)) b (a.map enc)) :l[b]? = some (.cells (n*z) (a.map enc).flatten) :=by
 generalize aq:U.au z b 0 n n (n*z)=w at h;generalize ao:a.map enc=es at h;cases h with
 | nil=>cases aq
 | au j n2 cap sz cs es ag ak aC aw ah cS ce=>
  injection aq with gw aQ bF dz j0 BR
  subst dz j0 BR;rw[atr (by rw[ak]; exact att _)] at ce;rw[<-ce]; exact ag
theorem Il {h5 ca cy eV e1 iP h6:a2} {m:am} {t n z by_:Nat} {es:List (List U)} {X:List U} (ag:m[t]? = some (.cells (n*z) es.flatten)) (aC:es.length=n) (aw:∀ e∈es,e.length=z) (cT:X.length=z) (aE:z≠0) (dD:by_≠0) (df:(n+1)*by_<=ct) :
  fz (h5::ca::cy::eV::e1::iP::h6::(m++[a2.cells z X])) z by_ (.au z (t+7) 0 n n (n*z)) (.au z (m.length+1+1+1+1+1+1+1) 0 1 1 z) =
   some (.au z (t+7) 0 (n+1) (n+1) ((n+1)*z),h5::ca::cy::eV::e1::iP::h6::((m++[a2.cells z X]).set t (.cells ((n+1)*z) (es++[X]).flatten))) :=by
 have aI:=fc ag;have:=ZB (l:=h5::ca::cy::eV::e1::iP::h6::(m++[a2.cells z X])) (z:=z) (by_:=by_) (b:=t+7) (n:=n) (m:=1) (sz:=n*z) (es:=es) (xs:=[X]) (x:=.au z (m.length+1+1+1+1+1+1+1) 0 1 1 z)
  (by simp only[at5]; rw[ats aI]; exact ag) (by simp[dp,cT,atr]) aC rfl rfl aw aE dD df
 rw[this];simp only[avo]
theorem LV {m gm:am} {t u:Nat} {X Y c:a2} (h:m[u]? = some c) (bx:t≠u) (hm:∀ u,u≠t->gm[u]? = ((m++[X]).set t Y)[u]?) :gm[u]? = some c:=by
 rw[hm u bx.symm,atF bx,ats (fc h)]; exact h
theorem Jh {K:U->am->Prop} {h5 ca cy eV e1 iP h6:a2} {m:am} {t n z:Nat} {es:List (List U)} (h:bJ z (h5::ca::cy::eV::e1::iP::h6::m) (.au z (t+7) 0 n n (n*z)) (t+7) es)
  (aV:∀ gm,(∀ u,u≠t->gm[u]? = m[u]?)->K (.bD z es) (h5::ca::cy::eV::e1::iP::h6::gm)) :c0 (.au z (t+7) 0 n n (n*z)) (h5::ca::cy::eV::e1::iP::h6::m) (c:=⟨K⟩) :=
 c0.r8 h rfl (by simp only[avo]; exact aV _ fun u aJ=>atF (Ne.symm aJ))
theorem LW {m:am} {t:Nat} {X Y c:a2} {h5 ca cy eV e1 iP h6:a2} (h:m[t]? = some c) :(h5::ca::cy::eV::e1::iP::h6::((m++[X]).set t Y))[t+7]? = some Y:=by
 simp only[at5];exact atO (by have:=fc h; simp; omega)
theorem ab2 {g:bg} (ar:fG g) (aE:eW g=0) :(ma g).set.l.length<=60/\(ma g).bM.l.length<=60:=by
 obtain⟨⟨_,_,h1⟩,ad,_⟩:=Nb (R4 ar aE);refine⟨?_,h1⟩;unfold jw at ad;split at ad
 ·cases ad
 ·omega
def NW:List B:=List.replicate 32 0#8
theorem I9 {j n:Nat} (h:n<=j) :∃ t,j=t+n:=⟨j - n,by omega⟩
set_option maxHeartbeats 16000000 in
theorem ab4 (gU:bw Tryz.prog GS 9 [] (.bool true)) (g:bg) (alb:H9 g) (k:List UInt8) :
  c7 Tryz.prog GS 3 [db g,.str k] [] (c:=⟨fun r _=>r=.bool true⟩) :=by
 apply bj Tryz.func3 [[],[[0],[2],[4],[6],[8],[9],[10],[11],[1,11,10,9,8,6,4,2],[3,11,10,9,8,6,4],[5,11,10,9,8,6],[7,11,10,9,8]],[[0],[1],[2],[3],[4,2]]];have eN:=gM g.ids;have dj:=mU g.ops;have xq:=ai2 g;unfold db dS at xq;simp[db,dS];refine bf gU rfl ?_;simp;refine bf xq (by simp[bm,U.closed,eN,dj]) ?_;cases aj:vB g with
 | true=>simp
 | false=>
  have Dp:=aib alb aj;have dr:=ai1 g Dp;unfold db dS at dr;simp;refine bf dr (by simp[bm,U.closed,eN,dj]) ?_;by_cases aE:eW g=0
  ·by_cases aF:100<k.length
   ·have sd:(100:Int)<(k.length:Int) :=by omega
    simp[aE,aF,sd]
   ·have sd:¬ (100:Int)<(k.length:Int) :=by omega
    have V:=qh aE;have cz:=al6 g Dp;rw[aE] at cz;have eZ:=ab3 Dp;have b0:(ma g).set.l.length<=60/\(ma g).bM.l.length<=60:=ab2 Dp aE;obtain⟨S,jf⟩:∃ S,S=ma g:=⟨_,rfl⟩
    have eB:=R4 Dp aE;have nW:S.bQ.l.length<=60:=by
     obtain⟨_,_,eX,_⟩:=Nb (s:=S) (by rw[jf]; exact eB);exact (Jq eX).1
    rw[<-jf] at cz eZ eB b0;obtain⟨ec,fg,pa,ry⟩:=ajt eB k;have gT:=amj S eZ k;rw[ec,fg] at gT;have qN:=ai4 S.set eZ.set eZ.ls k;have cT:=aiX S.bQ eZ.bQ eZ.n1 k;have tF:=tD S.bQ;have tG:=qG S.set;have py:=gM S.bM;obtain⟨gd,fa⟩:∃ gd,gd=hW k (S.bQ.l.map bR.key) 0:=⟨_,rfl⟩
    rw[<-fa] at cT pa ry;obtain⟨v,aq⟩:∃ v,v=(s3 S k).2.1:=⟨_,rfl⟩
    rw[<-aq] at gT pa ry;have oR:=NH v ij;have k8:∀ Z:List U,Z.length=4->bz [U.int .i64 0,.a1,.a1,.a1] 0 Z=Z:=fun Z aw=>fE (by rw[aw]; rfl)
    have vW:∀ Z:List U,Z.length=4->bz [U.int .u8 0,.int .i64 0,.int .u64 0,.str []] 0 Z=Z:=fun Z aw=>fE (by rw[aw]; rfl)
    have sg:(cW v).length=4:=rfl;have apa:(fP S).length=4:=rfl;unfold db dS at cz;unfold fP at cz gT;simp[aE,aF,sd];refine bf cz (by simp[bm,U.closed,eN,dj]) ?_;simp[k8];refine bf gT (by simp[bm,U.closed,tG,tF,py]) ?_;simp[sg,vW];have m5:∀ a:Bool,gi Tryz.prog .neq 4 (.bool a) (.bool a)=some (.bool false) :=fun a=>by cases a<;>kernel_rfl
    refine bf qN (by simp[bm,U.closed,tG]) ?_;simp[m5];refine bf cT (by simp[bm,U.closed,tF]) ?_;have aw:([.int .u8 0,.int .i64 0,.int .u64 0,.str []] :List U)=cW ij:=rfl;have Fr:=ajj S eZ;unfold fP at Fr;by_cases av:gd<0
    all_goals first
     | (
       have yd:=pa (by omega);have fC:¬ 0<=gd:=by omega
       rw[yd,Yl] at oR;rw[yd];rw[<-aw] at oR ⊢;simp[av,fC,oR,atr])
     | (
       have yd:=ry (by omega);have fC:0<=gd:=by omega
       obtain⟨i,qZ,kE⟩:=UX (by rw[<-fa]; exact fC:0<=hW k (S.bQ.l.map bR.key) 0);rw[<-fa] at qZ;have du:=(atq.1 kE).1;rw[atU] at du;obtain⟨r,ax,x6⟩:=bA du;rw[qZ,auq,mD ax] at yd;have nV:=NH v v;rw[Yl] at nV;have cc:cj (.au 38) (dA S.bQ) (.int .i64 (i:Int))=some (.b6 (cd r) 0) :=by simp[dA,ax]
       have CP:(cd r).length=38:=iQ (eZ.bQ r x6).id;have afx:(cd r).tail.take 4=cW v:=by rw[yd]; rfl
       have La:(cW v).take 4=cW v:=rfl;have FT:¬ (i:Int)<0:=by omega
       rw[qZ];simp[FT,cc,nV,CP,afx,La,sg])
    all_goals
     refine bf Fr (by simp[bm,U.closed,tG,tF,py]) ?_;simp;refine alt S eZ (fun l1 cZ Km fk Dn=>?_);have dH:=fk.2 0 (by simp);have q1:=fk.2 1 (by simp);have kP:=fk.2 3 (by simp);have wx:=fk.2 4 (by simp);have yA:=fk.2 5 (by simp);have uI:=fk.2 6 (by simp);simp at dH q1 kP wx yA uI;simp[dH,q1,kP,wx,yA,uI];refine als S eZ (fun b5 aqf aex e9 VY=>?_);have fW:7<=l1.length:=by have:=fk.1; simpa using this
     have p:∀ i,i<7->b5[i]? = l1[i]?:=fun i av=>e9.2 i (by omega)
     simp[p,dH,q1,kP,wx,yA,uI];refine alr S eZ (fun dU Gu aey mc ah8=>?_);have gX:7<=b5.length:=by have:=e9.1; omega
     have oN:7<=dU.length:=by have:=mc.1; omega
     have bI:∀ i,i<7->dU[i]? = b5[i]?:=fun i av=>mc.2 i (by omega)
     obtain⟨cy,ah⟩:=aaN oN (by rw[bI 0 (by omega),p 0 (by omega)]; exact dH) (by rw[bI 1 (by omega),p 1 (by omega)]; exact q1) (by rw[bI 3 (by omega),p 3 (by omega)]; exact kP) (by rw[bI 4 (by omega),p 4 (by omega)]; exact wx) (by rw[bI 5 (by omega),p 5 (by omega)]; exact yA) (by rw[bI 6 (by omega),p 6 (by omega)]; exact uI);obtain⟨s9,rfl⟩:=I9 (auV (show 7<=_ by simp) Km);obtain⟨Nq,rfl⟩:=I9 (auV fW aex);obtain⟨Nr,rfl⟩:=I9 (auV gX aey);have agH:=Dn.lt.resolve_left (by intro e; cases e);have agI:=VY.lt.resolve_left (by intro e; cases e);have D4:=Mf Dn;have HK:=Mf VY;have NE:=Mf ah8;rw[<-e9.2 _ agH,<-mc.2 _ (by have:=e9.1; omega)] at D4;rw[<-mc.2 _ agI] at HK;have J2:s9≠Nq:=by omega
     have oF:Nq≠Nr:=by omega
     have adC:s9≠Nr:=by have:=e9.1; omega
     obtain⟨m,hm⟩:∃ m,m=dU.drop 7:=⟨_,rfl⟩
     rw[<-hm] at ah;rw[ah] at D4 HK NE;simp only[at5] at D4 HK NE;simp[bI,p,dH,q1,kP,wx,yA,uI];have KR:bz (rep 32 (U.int .u8 0)) 0 (rep 32 (U.int .u8 0))=rep 32 (.int .u8 0) :=fE rfl;have ax:ct=140737488355328:=rfl;have ls:=eZ.ls;have n1:=eZ.n1;have rj:=eZ.rj;have aL:=fun h5 ca cy eV e1 iP h6=>@Il h5 ca cy eV e1 iP h6 m s9 S.set.l.length 33 48 _ (.str [] ::rep 32 (.int .u8 0)) D4 (by simp) (fun e ao=>by obtain⟨x,af,rfl⟩:=atV.1 ao; exact nN (eZ.set x af)) rfl (by omega) (by omega) (by rw[ax]; omega)
     obtain⟨nC,xv⟩:∃ nC,nC=S.set.l++[⟨[],NW⟩] :=⟨_,rfl⟩
     have acJ:nC.length=S.set.l.length+1:=by rw[xv]; simp
     have acK:∀ x∈nC,(c5 x).length=33:=fun x af=>by
      rw[xv] at af;rcases atQ.1 af with h | h
      ·exact nN (eZ.set x h)
      ·rw[atM.1 h]; rfl
     have acL:U.bD 33 (nC.map c5)=eh (some nC) :=rfl;have Jy:=BD (some nC);rw[ah];simp[KR,aL];refine Jh (mx (enc:=c5) (a:=nC) acK acJ (by rw[LW D4,xv]; simp; rfl)) (fun gm fD=>?_);have Yd:=LV HK J2 fD;have alI:=LV NE adC fD;simp[acL,Jy,KR];have aT:=fun h5 ca cy eV e1 iP h6=>@Il h5 ca cy eV e1 iP h6 gm Nq S.bQ.l.length 38 96 _ (.str [] ::.int .u8 0::.int .i64 0::.int .u64 0::.str [] ::.int .u64 0::rep 32 (.int .u8 0)) Yd (by simp) (fun e ao=>by obtain⟨x,af,rfl⟩:=atV.1 ao; exact iQ (eZ.bQ x af).id) rfl (by omega) (by omega) (by rw[ax]; omega)
     obtain⟨nE,JA⟩:∃ nE,nE=S.bQ.l++[⟨[],ij,0,NW⟩] :=⟨_,rfl⟩
     have acS:nE.length=S.bQ.l.length+1:=by rw[JA]; simp
     have SF:∀ x∈nE,y3 x:=fun x af=>by
      rw[JA] at af;rcases atQ.1 af with h | h
      ·exact eZ.bQ x h
      ·rw[atM.1 h]; exact⟨rfl,by unfold Ay ij; simp⟩
     have acT:∀ x∈nE,(cd x).length=38:=fun x af=>iQ (SF x af).id
     have acU:U.bD 38 (nE.map cd)=dA (some nE) :=rfl;have JB:=zg (some nE);simp[aT];refine Jh (mx (enc:=cd) (a:=nE) acT acS (by rw[LW Yd,JA]; simp; rfl)) (fun hr iY=>?_);have Ye:=LV alI oF iY;simp[acU,JB,KR];have a8:=fun h5 ca cy eV e1 iP h6=>@Il h5 ca cy eV e1 iP h6 hr Nr S.bM.l.length 32 32 _ (rep 32 (.int .u8 0)) Ye (by simp) (fun e ao=>by obtain⟨x,af,rfl⟩:=atV.1 ao; exact cQ (eZ.bM x af)) rfl (by omega) (by omega) (by rw[ax]; omega)
     obtain⟨nF,JG⟩:∃ nF,nF=S.bM.l++[NW] :=⟨_,rfl⟩
     have acW:nF.length=S.bM.l.length+1:=by rw[JG]; simp
     have SG:∀ x∈nF,x.length=32:=fun x af=>by
      rw[JG] at af;rcases atQ.1 af with h | h
      ·exact eZ.bM x h
      ·rw[atM.1 h]; rfl
     have acX:∀ x∈nF,(aR x).length=32:=fun x af=>cQ (SG x af)
     have acY:U.bD 32 (nF.map aR)=aU (some nF) :=rfl;have acZ:=BC (some nF);simp[a8];refine Jh (mx (enc:=aR) (a:=nF) acX acW (by rw[LW Ye,JG]; simp; rfl)) (fun rn T4=>?_);have apU:S.dB=(g.ops.l.length:Int) :=by rw[jf]; unfold ma; rw[if_pos aE]
     have afR:IntKind.i64.wrap (S.dB+1)=S.dB+1:=by rw[IntKind.wrap_i64]; have:=V.n60; omega
     have ah3:lr ⟨S.dB,some nC,some S.bQ.l,some S.bM.l⟩:=⟨fun x af=>by
      have sx:x∈nC:=af;rw[xv] at sx;rcases atQ.1 sx with h | h
      ·exact eZ.set x h
      ·rw[atM.1 h]; rfl,eZ.bQ,eZ.bM,by show nC.length<=_; have:=b0.1; omega,eZ.n1,eZ.rj⟩
     have ah4:lr ⟨S.dB,some S.set.l,some nE,some S.bM.l⟩:=⟨eZ.set,SF,eZ.bM,eZ.ls,by show nE.length<=_; omega,eZ.rj⟩
     have ah5:lr ⟨S.dB,some S.set.l,some S.bQ.l,some nF⟩:=⟨eZ.set,eZ.bQ,SG,eZ.ls,eZ.n1,by show nF.length<=_; have:=b0.2; omega⟩
     have ah6:lr ⟨S.dB+1,some S.set.l,some S.bQ.l,some S.bM.l⟩:=⟨eZ.set,eZ.bQ,eZ.bM,eZ.ls,eZ.n1,eZ.rj⟩
     have s0:=D9 S (td S) eZ (alq eZ);rw[show rC S (td S)=true from (yJ _ _).2 ⟨rfl,rfl,rfl,rfl⟩] at s0;have c9:=D9 S _ eZ ah6;have f1:rC S (⟨S.dB+1,some S.set.l,some S.bQ.l,some S.bM.l⟩:ck)=false:=avb.2 fun h=>by have:=((yJ _ _).1 h).1; simp at this; omega
     rw[f1] at c9;have hE:=D9 S _ eZ ah3;have f2:rC S (⟨S.dB,some nC,some S.bQ.l,some S.bM.l⟩:ck)=false:=avb.2 fun h=>by have ad:S.set.l=nC:=((yJ _ _).1 h).2.1; have:=congrArg List.length ad; omega
     rw[f2] at hE;have qk:=D9 S _ eZ ah4;have f3:rC S (⟨S.dB,some S.set.l,some nE,some S.bM.l⟩:ck)=false:=avb.2 fun h=>by have ad:S.bQ.l=nE:=((yJ _ _).1 h).2.2.1; have:=congrArg List.length ad; omega
     rw[f3] at qk;have M1:=D9 S _ eZ ah5;have f4:rC S (⟨S.dB,some S.set.l,some S.bQ.l,some nF⟩:ck)=false:=avb.2 fun h=>by have ad:S.bM.l=nF:=((yJ _ _).1 h).2.2.2; have:=congrArg List.length ad; omega
     rw[f4] at M1;have ca:=qG (some S.set.l);have cy:=tD (some S.bQ.l);have eV:=gM (some S.bM.l);have e1:=qG (some nC);have iP:=tD (some nE);have h6:=gM (some nF);have JR:(td S).dB=S.dB:=rfl;have S0:(td S).set=some S.set.l:=rfl;have SZ:(td S).bQ=some S.bQ.l:=rfl;have SY:(td S).bM=some S.bM.l:=rfl;unfold fP at s0 c9 hE qk M1;simp only[JR,S0,SZ,SY] at Fr s0;simp[acY,acZ,JR,S0,SZ,SY,afR];refine bf Fr (by simp[bm,U.closed,tG,tF,py]) ?_;simp;refine bf s0 (by simp[bm,U.closed,tG,tF,py,ca,cy,eV]) ?_;simp;refine bf c9 (by simp[bm,U.closed,tG,tF,py,ca,cy,eV]) ?_;simp;refine bf hE (by simp[bm,U.closed,tG,tF,py,ca,cy,eV,e1]) ?_;simp;refine bf qk (by simp[bm,U.closed,tG,tF,py,ca,cy,eV,iP]) ?_;simp;refine bf M1 (by simp[bm,U.closed,tG,tF,py,ca,cy,eV,h6]) ?_;simp
  ·simp[aE]
end Op

end Go.b2

namespace Go.b2
open Go Go.Proofs
set_option maxRecDepth 1000000
set_option maxHeartbeats 8000000
abbrev U5:List U:=[]
abbrev Vb:U:=.bD 11 [[.int .u32 (1024)]++[.bD 32 []]++[.int .u64 (0)]++[.int .u8 2]++[.str [107]]++[.int .u8 0]++[mq (0)]++[.int .u64 (0)]++[.str []]++[.int .u32 (129255048)]++[.int .u32 (399478955)],[.int .u32 (1024)]++[.bD 32 []]++[.int .u64 (0)]++[.int .u8 4]++[.str [107]]++[.int .u8 1]++[mq (7)]++[.int .u64 (0)]++[.str []]++[.int .u32 (245198832)]++[.int .u32 (480132016)],[.int .u32 (1024)]++[.bD 32 [cZ [139,155,127,40,157,97,234,61,221,237,220,81,93,150,154,229,203,104,132,176,229,187,23,160,167,158,35,130,160,158,225,157],cZ [198,167,169,49,131,208,119,134,47,60,235,0,68,166,241,20,47,240,141,206,85,173,27,225,253,102,77,118,55,125,153,21]]]++[.int .u64 (0)]++[.int .u8 3]++[.str [107]]++[.int .u8 0]++[mq (0)]++[.int .u64 (0)]++[.str []]++[.int .u32 (182053779)]++[.int .u32 (1858103)]]
theorem agM:ja Tryz.prog GS 31 U5 Vb:=
 AH (P:=Tryz.prog) Tryz.checked.mixed bC (ws (nD.mem (nG DK (w9)))) yO (orc:=sS [AM]) (fuel:=100000) (k:=60) (by kernel_rfl)
abbrev U6:List U:=[.aM ([.int .u32 (1024)]++[.bD 32 []]++[.int .u64 (0)]++[.int .u8 2]++[.str [107]]++[.int .u8 0]++[mq (0)]++[.int .u64 (0)]++[.str []]++[.int .u32 (129255048)]++[.int .u32 (399478955)])]
abbrev Vc:U:=mq (0)
theorem agN:ja Tryz.prog GS 39 U6 Vc:=
 AH (P:=Tryz.prog) Tryz.checked.mixed bC (ws (nD.mem (nG DK (w9)))) yO (orc:=sS [AM]) (fuel:=100000) (k:=60) (by kernel_rfl)
abbrev U7:List U:=[.aM ([.int .u32 (1024)]++[.bD 32 []]++[.int .u64 (0)]++[.int .u8 4]++[.str [107]]++[.int .u8 1]++[mq (7)]++[.int .u64 (0)]++[.str []]++[.int .u32 (245198832)]++[.int .u32 (480132016)])]
abbrev Vd:U:=mq (0)
theorem agO:ja Tryz.prog GS 39 U7 Vd:=
 AH (P:=Tryz.prog) Tryz.checked.mixed bC (ws (nD.mem (nG DK (w9)))) yO (orc:=sS [AM]) (fuel:=100000) (k:=60) (by kernel_rfl)
abbrev U8:List U:=[.aM ([.int .u32 (1024)]++[.bD 32 [cZ [139,155,127,40,157,97,234,61,221,237,220,81,93,150,154,229,203,104,132,176,229,187,23,160,167,158,35,130,160,158,225,157],cZ [198,167,169,49,131,208,119,134,47,60,235,0,68,166,241,20,47,240,141,206,85,173,27,225,253,102,77,118,55,125,153,21]]]++[.int .u64 (0)]++[.int .u8 3]++[.str [107]]++[.int .u8 0]++[mq (0)]++[.int .u64 (0)]++[.str []]++[.int .u32 (182053779)]++[.int .u32 (1858103)])]
abbrev Ve:U:=mq (0)
theorem agP:ja Tryz.prog GS 39 U8 Ve:=
 AH (P:=Tryz.prog) Tryz.checked.mixed bC (ws (nD.mem (nG DK (w9)))) yO (orc:=sS [AM]) (fuel:=100000) (k:=60) (by kernel_rfl)
abbrev U9:List U:=[.aM ([.bD 32 [cZ [139,155,127,40,157,97,234,61,221,237,220,81,93,150,154,229,203,104,132,176,229,187,23,160,167,158,35,130,160,158,225,157],cZ [198,167,169,49,131,208,119,134,47,60,235,0,68,166,241,20,47,240,141,206,85,173,27,225,253,102,77,118,55,125,153,21]]]++[.bD 11 [[.int .u32 (1024)]++[.bD 32 []]++[.int .u64 (0)]++[.int .u8 2]++[.str [107]]++[.int .u8 0]++[mq (0)]++[.int .u64 (0)]++[.str []]++[.int .u32 (129255048)]++[.int .u32 (399478955)],[.int .u32 (1024)]++[.bD 32 []]++[.int .u64 (0)]++[.int .u8 4]++[.str [107]]++[.int .u8 1]++[mq (7)]++[.int .u64 (0)]++[.str []]++[.int .u32 (245198832)]++[.int .u32 (480132016)]]])]
abbrev Vf:U:=mq (0)
theorem agQ:ja Tryz.prog GS 52 U9 Vf:=
 AH (P:=Tryz.prog) Tryz.checked.mixed bC (ws (nD.mem (nG Wk (nG XO (nG Wv (w9)))))) yO (orc:=sS [Mm,kS,Mr]) (fuel:=100000) (k:=60) (by kernel_rfl)
abbrev Va:List U:=[.aM ([.bD 32 [cZ [19,192,83,140,11,154,95,228,143,182,229,182,185,39,203,208,159,174,42,110,68,131,221,11,111,210,177,169,5,229,204,24],cZ [139,155,127,40,157,97,234,61,221,237,220,81,93,150,154,229,203,104,132,176,229,187,23,160,167,158,35,130,160,158,225,157],cZ [198,167,169,49,131,208,119,134,47,60,235,0,68,166,241,20,47,240,141,206,85,173,27,225,253,102,77,118,55,125,153,21]]]++[.bD 11 [[.int .u32 (1024)]++[.bD 32 [cZ [139,155,127,40,157,97,234,61,221,237,220,81,93,150,154,229,203,104,132,176,229,187,23,160,167,158,35,130,160,158,225,157],cZ [198,167,169,49,131,208,119,134,47,60,235,0,68,166,241,20,47,240,141,206,85,173,27,225,253,102,77,118,55,125,153,21]]]++[.int .u64 (0)]++[.int .u8 3]++[.str [107]]++[.int .u8 0]++[mq (0)]++[.int .u64 (0)]++[.str []]++[.int .u32 (182053779)]++[.int .u32 (1858103)],[.int .u32 (1024)]++[.bD 32 []]++[.int .u64 (0)]++[.int .u8 2]++[.str [107]]++[.int .u8 0]++[mq (0)]++[.int .u64 (0)]++[.str []]++[.int .u32 (129255048)]++[.int .u32 (399478955)],[.int .u32 (1024)]++[.bD 32 []]++[.int .u64 (0)]++[.int .u8 4]++[.str [107]]++[.int .u8 1]++[mq (7)]++[.int .u64 (0)]++[.str []]++[.int .u32 (245198832)]++[.int .u32 (480132016)]]])]
abbrev Vg:U:=mq (0)
theorem agR:ja Tryz.prog GS 52 Va Vg:=
 AH (P:=Tryz.prog) Tryz.checked.mixed bC (ws (nD.mem (nG Wk (nG XO (nG Wv (w9)))))) yO (orc:=sS [Mm,kS,Mr]) (fuel:=100000) (k:=60) (by kernel_rfl)
theorem agS:c7 Tryz.prog GS 9 [] [] (c:=⟨fun r _=>r=.bool true⟩) :=
 aaj (ws (nD.mem (nG DK (nG (Hb (y7 agQ (y7 agR (Ij)))) (nG (Hb (y7 agN (y7 agO (y7 agP (Ij))))) (nG (Hb (y7 agM (Ij))) (w9))))))) yO (orc:=sS [AM,(52,true,AD [(U9,Vf),(Va,Vg)]),(39,true,AD [(U6,Vc),(U7,Vd),(U8,Ve)]),(31,true,AD [(U5,Vb)])]) (fuel:=100000) (k:=60) (by kernel_rfl)
theorem Zp:bw Tryz.prog GS 9 [] (.bool true) :=
 bP Tryz.checked.mixed bC (by
  obtain⟨r,l,h1,ad,aj⟩:=agS;exact⟨r,l,h1,ad,aP aj rfl⟩)
end Go.b2

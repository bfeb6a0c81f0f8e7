/-
  Indices (shards). The graph of an index, in the reference.
-/
import Derived.Test.YtidejmkknleijaaGreatDoorBk
set_option linter.unusedVariables false
set_option linter.unusedSimpArgs false
set_option linter.unnecessarySimpa false
namespace Go.b0
open Go Go.Proofs
set_option maxRecDepth 100000
namespace Op
open hl
theorem hk.Vd {l:ao} {ch bU:U} {eN eE n:Nat} {ids:List (List B)} {ops:List br} (h:hk l ch bU eN eE n ids ops) {X:List U} {x:List B} (cn:X=aY x) (af:X.length=32) {c:Nat} (ah:l[c]? = some (.cells 32 X)) (aD:n<=l.length) (al:ids.length<=1000000) :
  ∃ a6 b7 l',gX l 32 32 ch (.aq 32 c 0 1 1 32)=some (a6,l')/\hk l' a6 bU b7 eE n (ids++[x]) ops/\l.length<=l'.length/\(∀ b,b<l.length->ch=.aH\/b≠eN->l'[b]? = l[b]?)/\(l.length<=b7\/(ch≠.aH/\b7=eN)) :=by
 have az:cw=140737488355328:=rfl;obtain⟨a6,b7,l',a2,a9,bV,ey,go,g6⟩:=xO (by_:=32) (x:=.aq 32 c 0 1 1 32) (xs:=[X]) h.hS (by simp[dD,ah,af,aul]) (by simp[af]) (by omega) (by omega) (by rw[az]; simp; omega);have fw:cF a6=false:=by rw[g6]; simp
 have jl:a6≠.aH:=fun e=>by rw[e] at fw; cases fw
 have eD:n<=b7:=by
  rcases go with e | ⟨aP,bw⟩ | e
  ·omega
  ·rw[bw]; exact h.c1.resolve_left aP
  ·exact absurd e jl
 refine⟨a6,b7,l',a2,⟨?_,?_,by rw[fw]; simp,h.mz,.inr eD,h.dx,?_⟩,bV,ey,?_⟩
 ·rw[auH,auL,avP,<-cn]; exact a9
 ·refine h.gI.lg ?_;rcases h.gI.lt with e | e
  ·exact .inl e
  ·by_cases gh:bU=.aH
   ·exact .inl gh
   ·refine .inr (ey _ e ?_);rcases h.ne with q | q | q
    ·exact .inl q
    ·exact absurd q gh
    ·exact .inr fun e=>q e.symm
 ·by_cases gh:bU=.aH
  ·exact .inr (.inl gh)
  ·refine .inr (.inr fun e=>?_);have ae:=h.gI.lt.resolve_left gh;rcases go with q | ⟨q1,cV⟩ | q
   ·omega
   ·rcases h.ne with p | p | p
    ·exact q1 p
    ·exact gh p
    ·exact p (by omega)
   ·exact jl q
 ·rcases go with e | ⟨aP,bw⟩ | e
  ·exact .inl e
  ·exact .inr ⟨aP,bw⟩
  ·exact absurd e jl
theorem hk.WH {l:ao} {ch bU:U} {eN eE n:Nat} {ids:List (List B)} {ops:List br} (h:hk l ch bU eN eE n ids ops) {O:List U} {o:br} (eu:O=a3 o) {c:Nat} (ah:l[c]? = some (.cells 11 O)) (aD:n<=l.length) (al:ops.length<=1000000) :
  ∃ a6 b7 l',gX l 11 112 bU (.aq 11 c 0 1 1 11)=some (a6,l')/\hk l' ch a6 eN b7 n ids (ops++[o])/\l.length<=l'.length/\(∀ b,b<l.length->bU=.aH\/b≠eE->l'[b]? = l[b]?) :=by
 have az:cw=140737488355328:=rfl;have af:O.length=11:=by rw[eu]; rfl
 obtain⟨a6,b7,l',a2,a9,bV,ey,go,g6⟩:=xO (by_:=112) (x:=.aq 11 c 0 1 1 11) (xs:=[O]) h.gI (by simp[dD,ah,af,aul]) (by simp[af]) (by omega) (by omega) (by rw[az]; simp; omega);have fw:cF a6=false:=by rw[g6]; simp
 have jl:a6≠.aH:=fun e=>by rw[e] at fw; cases fw
 have eD:n<=b7:=by
  rcases go with e | ⟨aP,bw⟩ | e
  ·omega
  ·rw[bw]; exact h.dx.resolve_left aP
  ·exact absurd e jl
 refine⟨a6,b7,l',a2,⟨?_,?_,h.iP,by rw[fw]; simp,h.c1,.inr eD,?_⟩,bV,ey⟩
 ·refine h.hS.lg ?_;rcases h.hS.lt with e | e
  ·exact .inl e
  ·by_cases gh:ch=.aH
   ·exact .inl gh
   ·refine .inr (ey _ e ?_);rcases h.ne with q | q | q
    ·exact absurd q gh
    ·exact .inl q
    ·exact .inr q
 ·rw[auH,auL,avP,<-eu]; exact a9
 ·by_cases gh:ch=.aH
  ·exact .inl gh
  ·refine .inr (.inr fun e=>?_);have ae:=h.hS.lt.resolve_left gh;rcases go with q | ⟨q1,cV⟩ | q
   ·omega
   ·rcases h.ne with p | p | p
    ·exact gh p
    ·exact q1 p
    ·exact p (by omega)
   ·exact jl q
structure eI where
 parts:db bp
 dB:dv
 eg:Int
def kr (s:db bp) :U:=cE 2 bR s
def dN (s:eI) :List U:=[kr s.parts,aB s.dB,.int .i64 s.eg]
structure nm (s:eI) :Prop where
 parts:∀ g∈s.parts.l,gn g/\g.ids.l.length<=100/\g.ops.l.length<=100
 wP:s.parts.l.length<=10
 dB:eQ s.dB
 Nf:s.dB.l.length<=1000000
theorem zW (s:db bp) :(kr s).closed=true:=Co zV s
theorem Cn (s:eI) :a5 (dN s)=true:=by simp[dN,a5,U.closed,zW,dd]
def la (p:bp) (x:List B) :Option br:=if 0<=g3 x p.ids.l 0/\g3 x p.ids.l 0<(p.ops.l.length:Int) then p.ops.l[(g3 x p.ids.l 0).toNat]? else none
def g8 (l:List bp) (k:Nat) :bp:=l.getD k ⟨none,none⟩
theorem h5 {l:List bp} {k:Nat} {g:bp} (h:l[k]? = some g) :g8 l k=g:=by unfold g8; rw[auB,h]; rfl
def iv (ps:List bp) (x:List B) :Nat->List (List B × br)
 | 0=>[]
 | k+1=>iv ps x k++match la (g8 ps k) x with | some o=>[(x,o)] | none=>[]
def jV (ps:List bp) (ids:List (List B)) :Nat->List (List B × br)
 | 0=>[]
 | i+1=>jV ps ids i++iv ps (b1 ids i) ps.length
def jc (ps:List bp) :Nat->List (List B)
 | 0=>[]
 | k+1=>jc ps k++(g8 ps k).ids.l
def hy (s:eI) :List (List B) :=BC (jc s.parts.l s.parts.l.length)
def et (s:eI) :List (List B × br) :=jV s.parts.l (hy s) (hy s).length
def fh (s:eI) :bp:=gu (dy (et s))
theorem JE {ps:List bp} {x:List B}:∀ {k:Nat},k<=ps.length->(x∈jc ps k<->∃ j p,j<k/\ps[j]? = some p/\x∈p.ids.l)
 | 0,_=>⟨fun h=>(by cases h),fun ⟨j,p,ai,_⟩=>by omega⟩
 | k+1,ar=>by
  obtain⟨p,av,_⟩:=bI (l:=ps) (k:=k) (by omega);show x∈jc ps k++(g8 ps k).ids.l<->_;rw[avi,JE (by omega),h5 av];constructor
  ·rintro (⟨j,q,ad,ae⟩ | h)
   ·exact⟨j,q,by omega,ae⟩
   ·exact⟨k,p,by omega,av,h⟩
  ·rintro⟨j,q,ad,ae,aj⟩;by_cases e:j=k
   ·subst e; rw[av] at ae; obtain rfl:=Option.some.inj ae; exact .inr aj
   ·exact .inl ⟨j,q,by omega,ae,aj⟩
theorem FB {s:eI} (h:nm s) :∀ {k:Nat},k<=s.parts.l.length->(jc s.parts.l k).length<=100*k
 | 0,_=>by simp[jc]
 | k+1,ar=>by
  obtain⟨p,av,gS⟩:=bI (l:=s.parts.l) (k:=k) (by omega);have:=FB h (k:=k) (by omega);have ae:=(h.parts p gS).2.1;show (jc s.parts.l k++(g8 s.parts.l k).ids.l).length<=_;rw[auu,h5 av]; omega
theorem Po {s:eI} (h:nm s) {k:Nat} (ar:k<=s.parts.l.length) :eQ (dm (jc s.parts.l k)) :=fun x af=>by
 rw[ec,JE ar] at af;obtain⟨j,p,_,av,af⟩:=af;exact (h.parts p (aut av)).1.ids x af
theorem Zn {s:eI} (h:nm s) :(hy s).length<=1000:=by
 unfold hy BC;have ad:=Oh (l:=jc s.parts.l s.parts.l.length) (k:=(jc s.parts.l s.parts.l.length).length);have ae:=FB h (aun s.parts.l.length);have aj:=h.wP;omega
theorem Zo {s:eI} (h:nm s) :eQ (dm (hy s)) :=fun x af=>by
 rw[ec] at af;unfold hy at af;rw[Ys] at af;exact Po h (aun _) x (by rw[ec]; exact af)
theorem aaB {p:bp} {x:List B} {o:br} (h:la p x=some o) :o∈p.ops.l:=by
 unfold la at h;split at h
 ·exact aut h
 ·cases h
theorem Jd {ps:List bp} {x:List B} {q:List B × br}:∀ {k:Nat},k<=ps.length->(q∈iv ps x k<->∃ j p,j<k/\ps[j]? = some p/\la p x=some q.2/\q.1=x)
 | 0,_=>⟨fun h=>(by cases h),fun ⟨j,p,ai,_⟩=>by omega⟩
 | k+1,ar=>by
  obtain⟨p,av,_⟩:=bI (l:=ps) (k:=k) (by omega);show q∈iv ps x k++(match la (g8 ps k) x with | some o=>[(x,o)] | none=>[])<->_;rw[avi,Jd (by omega),h5 av];constructor
  ·rintro (⟨j,r,ad,ae⟩ | h)
   ·exact⟨j,r,by omega,ae⟩
   ·cases aC:la p x with
    | none=>rw[aC] at h; cases h
    | some o=>
     rw[aC] at h;rw[avk.1 h];exact⟨k,p,by omega,av,aC,rfl⟩
  ·rintro⟨j,r,ad,ae,aj,aG⟩;by_cases e:j=k
   ·subst e; rw[av] at ae; obtain rfl:=Option.some.inj ae;right; rw[aj]; simp[<-aG]
   ·exact .inl ⟨j,r,by omega,ae,aj,aG⟩
theorem Jc {ps:List bp} {ids:List (List B)} {q:List B × br}:∀ {i:Nat},i<=ids.length->(q∈jV ps ids i<->∃ a,a<i/\ids[a]? = some q.1/\∃ p∈ps,la p q.1=some q.2)
 | 0,_=>⟨fun h=>(by cases h),fun ⟨j,ai,_⟩=>by omega⟩
 | i+1,ay=>by
  obtain⟨x,af,_⟩:=bI (l:=ids) (k:=i) (by omega);show q∈jV ps ids i++iv ps (b1 ids i) ps.length<->_;rw[avi,Jc (by omega),gi af,Jd (aun _)];constructor
  ·rintro (⟨a,ad,ae⟩ | ⟨j,p,ad,ae,aj,aG⟩)
   ·exact⟨a,by omega,ae⟩
   ·exact⟨i,by omega,by rw[aG]; exact af,p,aut ae,by rw[aG]; exact aj⟩
  ·rintro⟨a,ad,ae,p,aj,aG⟩;by_cases e:a=i
   ·subst e;rw[af] at ae;have bh:=Option.some.inj ae;obtain⟨j,ai⟩:=aur.1 aj;exact .inr ⟨j,p,(auk.1 ai).1,ai,by rw[bh]; exact aG,bh.symm⟩
   ·exact .inl ⟨a,by omega,ae,p,aj,aG⟩
theorem Zw {ps:List bp} {x:List B}:∀ {k:Nat},(iv ps x k).length<=k
 | 0=>by simp[iv]
 | k+1=>by
  have:=Zw (ps:=ps) (x:=x) (k:=k);show (iv ps x k++(match la (g8 ps k) x with | some o=>[(x,o)] | none=>[])).length<=_;rw[auu];split<;>simp<;>omega
theorem Zu {ps:List bp} {ids:List (List B)}:∀ {i:Nat},(jV ps ids i).length<=ps.length*i
 | 0=>by simp[jV]
 | i+1=>by
  have ad:=Zu (ps:=ps) (ids:=ids) (i:=i);have ae:=Zw (ps:=ps) (x:=b1 ids i) (k:=ps.length);show (jV ps ids i++iv ps (b1 ids i) ps.length).length<=_;rw[auu,Nat.mul_succ]; omega
theorem Zq {s:eI} (h:nm s) :(et s).length<=10000:=by
 have ad:=Zu (ps:=s.parts.l) (ids:=hy s) (i:=(hy s).length);have ae:=Zn h;have aj:s.parts.l.length*(hy s).length<=10*1000:=Nat.mul_le_mul h.wP ae;unfold et; omega
theorem xy {s:eI} (h:nm s) :gn (dy (et s)) :=by
 have hm:∀ q∈et s,q.1.length=32/\iY q.2:=fun q a7=>by
  obtain⟨a,ad,ae,p,aj,aG⟩:=(Jc (aun _)).1 a7;exact⟨Zo h q.1 (by rw[ec]; exact aut ae),(h.parts p aj).1.ops _ (aaB aG)⟩
 exact Gj (fun q a7=>(hm q a7).1) (fun q a7=>(hm q a7).2) (by have:=Zq h; omega)
theorem yU (s:db bp) :ce (.aq 2) (kr s)=some (.int .i64 s.l.length) :=by simp[kr]
theorem sW {s:db bp} {k:Nat} {g:bp} (h:s.l[k]? = some g) :cL (.aq 2) (kr s) (.int .i64 (k:Int))=some (.bM (bR g) 0) :=by simp[kr,h]
theorem aj4 {α:Type} {z:Nat} {enc:α->List U} {l:ao} {v:U} {j:Nat} {xs:List α} (s:db α) (h:bK z l v j (xs.map enc)) (aD:cF v=s.isNone) (ak:s.l=xs) {f:FuncId} {K:U->ao->Prop}
  (ah:∀ bj,bj.length=l.length->(∀ b,v=.aH\/b≠j->bj[b]? = l[b]?)->c0 Tryz.prog GS f [cE z enc s] bj (c:=⟨K⟩)) :c0 Tryz.prog GS f [v] l (c:=⟨K⟩) :=by
 obtain⟨l1,bL,dh,aP,f1⟩:=Io s h aD ak;refine FR Tryz.checked.mixed bn (args2:=[cE z enc s]) bL (by omega) rfl (fun j c b9 ad ae=>?_) (ah l1 aP f1);obtain⟨rfl,rfl⟩:=Ak ad;obtain⟨_,rfl⟩:=Ak ae;exact dh
structure aak (s:eI) (k:Nat) (σ:bc) (l:ao) :Prop where
 aK:σ 1=.ptr 0 0 3
 aU:σ 2=.ptr 1 0 2
 bl:σ 4=.int .i64 k
 ex:∃ v j rest,l=.cells 3 (dN s) ::.cells 2 [.aH,.aH] ::rest/\σ 3=v/\bK 32 l v j ((jc s.parts.l k).map aY)/\(v=.aH\/2<=j)/\cF v=(jc s.parts.l k).isEmpty
structure Pd (s:eI) (b:Nat) (i m:Nat) (out:List (List B × br)) (σ:bc) (l:ao) :Prop where
 aK:σ 1=.ptr 0 0 3
 aU:σ 2=.ptr 1 0 2
 a1:σ 3=aB (dm (hy s))
 bo:σ 5=.ptr b 0 2
 cu:σ 6=.int .i64 i
 cy:l[0]? = some (.cells 3 (dN s))
 q1:l[1]? = some (.cells 2 [.aH,.aH])
 ex:∃ ch bU eN eE,l[b]? = some (.cells 2 [ch,bU])/\hk l ch bU eN eE (b+1) (out.map (·.1)) (out.map (·.2))/\out.length<=m
set_option maxHeartbeats 16000000 in
theorem Xz (s:eI) (ak:nm s) :bz Tryz.prog GS 50 [.aF (dN s)] (cH (fh s)) :=by
 refine bX Tryz.checked.mixed bn ?_;apply bq Tryz.func50 [[],[[0],[1],[2],[3],[4],[5],[6],[8],[9],[10],[11],[12],[13],[14],[15],[16],[17],[18],[19],[7,19,18,15,11,9],[21],[20]]];have az:cw=140737488355328:=rfl;have gb:=yU s.parts;have UA:=ak.wP;have bS:(dN s).length=3:=rfl;have fO:∀ h,(dN s)[0]'h=kr s.parts:=fun _=>rfl
 simp[bS];refine cl s.parts.l.length (aak s) ?_ ⟨by simp,by simp,by simp,.aH,0,[],rfl,by simp,.nil 0,.inl rfl,rfl⟩;rintro k σ l ar ⟨aK,aU,bl,v,j,rest,rfl,a1,kT,ai,iA⟩;obtain⟨σ,rfl⟩:=iE aK aU a1 bl;clear aK aU a1 bl;have aP:IntKind.i64.wrap ((k:Int)+1)=((k+1:Nat) :Int) :=by rw[IntKind.wrap_i64]; omega
 by_cases bv:k<s.parts.l.length
 ·obtain⟨p,av,gS⟩:=bI bv;have hD:=(ak.parts p gS).1;have gE:=(ak.parts p gS).2.1;have bY:=sW av;have hb:=FB ak (avY bv);have b5:jc s.parts.l (k+1)=jc s.parts.l k++p.ids.l:=by show jc s.parts.l k++(g8 s.parts.l k).ids.l=_; rw[h5 av]
  have lk:∀ h,(bR p)[0]'h=aB p.ids:=fun _=>rfl
  have jJ:(bR p).length=2:=rfl;obtain⟨a6,b7,cB,a2,a9,bV,ey⟩:=xP (by_:=32) (pre:=[.cells 3 (dN s),.cells 2 [.aH,.aH]]) (rest:=rest) kT ai (x:=aB p.ids) (xs:=p.ids.l.map aY)
   (by simp[aB]) (fun e am=>by obtain⟨y,aJ,rfl⟩:=auR.1 am; exact c2 (hD.ids y aJ)) (by omega) (by omega) (by rw[az]; simp; omega)
  simp only[avj,avp] at a2;simp[bS,fO,gb,bv,bY,lk,jJ,a2];refine c7.cd ?_;simp[aP];refine⟨bv,by simp,by simp,by simp,a6,b7,cB,rfl,by simp,?_,by simpa using bV,?_⟩
  ·rw[b5,auH]; exact a9
  ·rw[ey,iA,b5];cases jc s.parts.l k<;>cases p.ids.l<;>simp
 ·have dK:k=s.parts.l.length:=by omega
  subst dK;clear ar bv aP;have hb:=FB ak (aun s.parts.l.length);have qn:=ak1 (dm (jc s.parts.l s.parts.l.length)) (Po ak (aun _)) (by rw[ec]; omega);rw[ec] at qn;change bz _ _ _ _ (aB (dm (hy s))) at qn;have rk:=dd (dm (jc s.parts.l s.parts.l.length));have dH:=Zn ak;have mq:=Zo ak;simp[bS,fO,gb];refine aj4 (dm (jc s.parts.l s.parts.l.length)) kT (by rw[qI]; exact iA) (ec _) (fun bj bw f2=>?_);have kg:bj[0]? = some (.cells 3 (dN s)) :=by rw[f2 0 (by rcases ai with e | e; exact .inl e; exact .inr (by omega))]; rfl
  have iS:bj[1]? = some (.cells 2 [.aH,.aH]) :=by rw[f2 1 (by rcases ai with e | e; exact .inl e; exact .inr (by omega))]; rfl
  have dW:2<=bj.length:=by rw[bw]; simp
  clear f2 kT ai iA;refine a4 qn (by simp[a5]; exact rk) ?_;simp;obtain⟨b,ag⟩:∃ b,b=bj.length:=⟨_,rfl⟩
  have aqd:2<=b:=by omega
  have dp:ce (.aq 32) (aB (dm (hy s)))=some (.int .i64 (hy s).length) :=by simp[aB,ec]
  refine cl (hy s).length (fun i σ l=>Pd s b i (10*i) (jV s.parts.l (hy s) i) σ l/\b<l.length) ?_ ⟨⟨by simp,by simp,by simp,by simp[ag],by simp,by rw[aum (by omega)]; exact kg,by rw[aum (by omega)]; exact iS,.aH,.aH,0,0,by rw[ag]; simp,by simpa [jV] using Ii _ _,by simp[jV]⟩,by simp[ag]⟩;rintro i σ l ay ⟨⟨aK,aU,a1,bo,cu,cy,q1,ch,bU,eN,eE,tg,hs,cS⟩,fP⟩;obtain⟨σ,rfl⟩:=lC aK aU a1 bo cu;clear aK aU a1 bo cu;have aP:IntKind.i64.wrap ((i:Int)+1)=((i+1:Nat) :Int) :=by rw[IntKind.wrap_i64]; omega
  by_cases Lj:i<(hy s).length
  ·obtain⟨x,af,cT⟩:=bI Lj;have eW:=mq x (by rw[ec]; exact cT);have bd:=c2 eW;have eX:=fE x;have ds:cL (.aq 32) (aB (dm (hy s))) (.int .i64 (i:Int))=some (.bM (aY x) 0) :=by simp[aB,ec,af]
   obtain⟨X,cn⟩:∃ X,X=aY x:=⟨_,rfl⟩
   have KQ:X=aY x:=cn;rw[<-cn] at bd eX ds;have fG:X.take 32=X:=aul (by omega);have hE:a8 (rep 32 (.int .u8 0)) 0 X=X:=gq (by rw[bd]; rfl);simp[dp,Lj];refine cl s.parts.l.length (fun k σ l=>(Pd s b i (10*i+k) (jV s.parts.l (hy s) i++iv s.parts.l x k) σ l/\σ 7=.int .i64 k)/\b<l.length) ?_ ⟨⟨⟨by simp,by simp,by simp,by simp,by simp,cy,q1,ch,bU,eN,eE,tg,by simpa [iv] using hs,by simpa [iv] using cS⟩,by simp⟩,fP⟩;clear hs cS tg cy q1 fP;rintro k σ l ar ⟨⟨⟨aK,aU,a1,bo,cu,cy,q1,ch,bU,eN,eE,tg,hs,cS⟩,dU⟩,fP⟩;obtain⟨σ,rfl⟩:=xm aK aU a1 bo cu dU;clear aK aU a1 bo cu dU;have bw:IntKind.i64.wrap ((k:Int)+1)=((k+1:Nat) :Int) :=by rw[IntKind.wrap_i64]; omega
   by_cases bv:k<s.parts.l.length
   ·obtain⟨p,av,gS⟩:=bI bv;obtain⟨hD,LN,LO⟩:=ak.parts p gS;have bY:=sW av;have lk:∀ h,(bR p)[0]'h=aB p.ids:=fun _=>rfl
    have pa:∀ h,(bR p)[1]'h=bx p.ops:=fun _=>rfl
    have jJ:(bR p).length=2:=rfl;have i6:=dd p.ids;have cM:ce (.aq 11) (bx p.ops)=some (.int .i64 p.ops.l.length) :=by simp[bx]
    have ez:=zc p.ids hD.ids hD.li x eW;have b5:iv s.parts.l x (k+1)=iv s.parts.l x k++match la p x with | some o=>[(x,o)] | none=>[] :=by
     show iv s.parts.l x k++(match la (g8 s.parts.l k) x with | some o=>[(x,o)] | none=>[])=_;rw[h5 av]
    have GD:la p x=if 0<=g3 x p.ids.l 0/\g3 x p.ids.l 0<(p.ops.l.length:Int) then p.ops.l[(g3 x p.ids.l 0).toNat]? else none:=rfl
    obtain⟨e6,afl⟩:∃ e6,e6=g3 x p.ids.l 0:=⟨_,rfl⟩
    rw[<-afl] at ez GD;rw[<-cn] at ez;have Wd:0<l.length:=b6 cy;simp[cy,bS,fO,gb,bv,bY,lk,pa,jJ,ds,bd,fG];refine a4 ez (by simp[a5,U.closed,i6,eX]) ?_;by_cases cQ:0<=e6/\e6<(p.ops.l.length:Int)
    ·obtain⟨ad,ae⟩:=cQ;obtain⟨a,rfl⟩:=avr ad;have gC:a<p.ops.l.length:=by omega
     obtain⟨o,au,en⟩:=bI gC;rw[if_pos ⟨ad,ae⟩,auS,au] at GD;rw[GD] at b5;have hr:cL (.aq 11) (bx p.ops) (.int .i64 (a:Int))=some (.bM (a3 o) 0) :=by simp[bx,au]
     have mu:(a3 o).length=11:=rfl;obtain⟨O,eu⟩:∃ O,O=a3 o:=⟨_,rfl⟩
     rw[<-eu] at hr mu;have Ap:O.take 11=O:=aul (by omega);have kU:a8 [U.int .u32 0,.aH,.int .u64 0,.int .u8 0,.str [],.int .u8 0,.int .i64 0,.int .u64 0,.str [],.int .u32 0,.int .u32 0] 0 O=O:=gq (by rw[mu]; rfl);have ap3:l.length<=1000000000000\/True:=.inr trivial;have fU:∀ m:ao,(l++m)[0]? = some (.cells 3 (dN s)) :=fun m=>by rw[aum Wd]; exact cy
     have anL:∀ (m:ao) (h:0<(l++m).length),(l++m)[0]'h=.cells 3 (dN s) :=fun m h=>(auk.1 (fU m)).2
     have Zl:∀ m:ao,(l++m)[b]? = some (.cells 2 [ch,bU]) :=fun m=>by rw[aum fP]; exact tg
     have aef:b+1<=(l++[aV.cells 32 X,.cells 11 O]).length:=by simp; omega
     have LH:hk (l++[aV.cells 32 X,.cells 11 O]) ch bU eN eE (b+1) ((jV s.parts.l (hy s) i++iv s.parts.l x k).map (·.1)) ((jV s.parts.l (hy s) i++iv s.parts.l x k).map (·.2)) :=hs.frame fun c _ ah=>aum ah
     have kw:(jV s.parts.l (hy s) i++iv s.parts.l x k).length<=1000000:=by omega
     obtain⟨jx,rM,l1,a2,a9,bV,ey,go⟩:=LH.Vd (c:=l.length) KQ bd (by simp) aef (by rw[auw]; exact kw);have bZ:=hs.hS.lt;have f:∀ c,c<l.length->ch=.aH\/c≠eN->l1[c]? = l[c]?:=fun c ah we=>by rw[ey c (by simp; omega) we,aum ah]
     have CE:l1[l.length+1]? = some (.cells 11 O) :=by
      rw[ey (l.length+1) (by simp) (by rcases bZ with e | e; exact .inl e; exact .inr (by omega))]; simp
     have fZ:ch=.aH\/b+1<=eN:=hs.c1;have f0:l1[0]? = some (.cells 3 (dN s)) :=by rw[f 0 Wd (by rcases fZ with e | e; exact .inl e; exact .inr (by omega))]; exact cy
     have f1:l1[1]? = some (.cells 2 [.aH,.aH]) :=by rw[f 1 (b6 q1) (by rcases fZ with e | e; exact .inl e; exact .inr (by omega))]; exact q1
     have Kq:l1[b]? = some (.cells 2 [ch,bU]) :=by rw[f b fP (by rcases fZ with e | e; exact .inl e; exact .inr (by omega))]; exact tg
     have aen:=b6 Kq;obtain⟨ob,uM,bj,b3,b9,ho,fD⟩:=a9.WH (c:=l.length+1) eu CE (by omega) (by rw[auw]; exact kw);have dW:bU=.aH\/b+1<=eE:=hs.dx;have cb:bj[0]? = some (.cells 3 (dN s)) :=by rw[fD 0 (b6 f0) (by rcases dW with e | e; exact .inl e; exact .inr (by omega))]; exact f0
     have aK:bj[1]? = some (.cells 2 [.aH,.aH]) :=by rw[fD 1 (b6 f1) (by rcases dW with e | e; exact .inl e; exact .inr (by omega))]; exact f1
     have S1:bj[b]? = some (.cells 2 [ch,bU]) :=by rw[fD b aen (by rcases dW with e | e; exact .inl e; exact .inr (by omega))]; exact Kq
     have aeo:=b6 S1;have gs:∀ y:aV,(bj.set b y)[b]? = some y:=fun y=>auz aeo
     simp[cy,tg,fU,anL,Zl,bS,fO,bY,lk,pa,jJ,cM,ad,ae,gC,ds,bd,fG,hE,hr,mu,Ap,kU,a2];refine c7.cd ?_;have adH:(bR p)[1]? = some (bx p.ops) :=rfl;simp[f0,Kq,CE,bS,fO,b3,mu,Ap,adH];refine c7.cd ?_;have eo:=r0 a9.hS;have ej:=r0 b9.gI;simp[S1,gs,eo,ej,a8,bw];have US:jV s.parts.l (hy s) i++iv s.parts.l x (k+1)=(jV s.parts.l (hy s) i++iv s.parts.l x k)++[(x,o)] :=by rw[b5,au3]
     have af9:∀ y:aV,hk (bj.set b y) jx ob rM uM (b+1) ((jV s.parts.l (hy s) i++iv s.parts.l x (k+1)).map (·.1)) ((jV s.parts.l (hy s) i++iv s.parts.l x (k+1)).map (·.2)) :=fun y=>by
      have hm:∀ Z:List (List B × br),(Z++[(x,o)]).map (·.1)=Z.map (·.1)++[x]/\(Z++[(x,o)]).map (·.2)=Z.map (·.2)++[o] :=fun Z=>⟨by rw[auH]; rfl,by rw[auH]; rfl⟩
      rw[US,(hm _).1,(hm _).2];exact b9.frame fun c ah _=>auy (Nat.ne_of_lt ah)
     exact⟨bv,⟨by simp,by simp,by simp,by simp,by simp,by rw[auy (by omega)]; exact cb,by rw[auy (by omega)]; exact aK,jx,ob,rM,uM,gs _,af9 _,by rw[US,auu,List.length_singleton]; omega⟩,by omega⟩
    ·have cR:la p x=none:=by rw[GD,if_neg cQ]
     rw[cR,auV] at b5;have yj:(decide (0<=e6)&&decide (e6<(p.ops.l.length:Int)))=false:=by
      cases h:(decide (0<=e6)&&decide (e6<(p.ops.l.length:Int))) with
      | false=>rfl
      | true=>rw[aus,decide_eq_true_eq,decide_eq_true_eq] at h; exact absurd h cQ
     by_cases ad:0<=e6
     ·have ae:¬ e6<(p.ops.l.length:Int) :=fun h=>cQ ⟨ad,h⟩
      simp[cy,bS,fO,bY,lk,pa,jJ,cM,ad,ae,bw];exact⟨bv,⟨by simp,by simp,by simp,by simp,by simp,cy,q1,ch,bU,eN,eE,tg,by rw[b5]; exact hs,by rw[b5]; omega⟩,fP⟩
     ·simp[ad,bw];exact⟨bv,⟨by simp,by simp,by simp,by simp,by simp,cy,q1,ch,bU,eN,eE,tg,by rw[b5]; exact hs,by rw[b5]; omega⟩,fP⟩
   ·have dK:k=s.parts.l.length:=by omega
    subst dK;have wn:jV s.parts.l (hy s) (i+1)=jV s.parts.l (hy s) i++iv s.parts.l x s.parts.l.length:=by
     show jV s.parts.l (hy s) i++iv s.parts.l (b1 (hy s) i) s.parts.l.length=_;rw[gi af]
    simp[cy,bS,fO,gb,aP];exact⟨Lj,⟨by simp,by simp,by simp,by simp,by simp,cy,q1,ch,bU,eN,eE,tg,by rw[wn]; exact hs,by rw[wn]; omega⟩,fP⟩
  ·have cQ:i=(hy s).length:=by omega
   subst cQ;have pk:=Xy _ (xy ak);change bz _ _ _ _ (cH (fh s)) at pk;have eo:=kp (fh s).ids;have ej:=o3 (fh s).ops;have b3:=dd (fh s).ids;have b9:=jE (fh s).ops;have ho:=dd (dm ((et s).map (·.1)));have fD:=jE (dm ((et s).map (·.2)));unfold cH bR at pk;simp[dp,tg];refine hs.call fun eY dh dY=>?_
   have cY:eY[1]? = some (.cells 2 [.aH,.aH]) :=by rw[dY 1 (by omega)]; exact q1
   have zg:=b6 cY;have gs:∀ y:aV,(eY.set 1 y)[1]? = some y:=fun y=>auz zg
   refine a4 pk (by simp[a5,U.closed]; exact⟨ho,fD⟩) ?_;simp[cY,gs,eo,ej,a8];exact aQ rfl (show (U.aF [aB (fh s).ids,bx (fh s).ops]).closed=true by simp[U.closed,a5,b3,b9])
theorem aj5 {α:Type} {z:Nat} {enc:α->List U} {l:ao} {a v:U} {j:Nat} {xs:List α} (s:db α) (h:bK z l v j (xs.map enc)) (aD:cF v=s.isNone) (ak:s.l=xs) {f:FuncId} {K:U->ao->Prop}
  (ah:∀ bj,bj.length=l.length->(∀ b,v=.aH\/b≠j->bj[b]? = l[b]?)->c0 Tryz.prog GS f [a,cE z enc s] bj (c:=⟨K⟩)) :c0 Tryz.prog GS f [a,v] l (c:=⟨K⟩) :=by
 obtain⟨l1,bL,dh,aP,f1⟩:=Io s h aD ak;refine FR Tryz.checked.mixed bn (args2:=[a,cE z enc s]) bL (by omega) rfl (fun j c b9 ad ae=>?_) (ah l1 aP f1);rcases p6 ad with ⟨rfl,rfl⟩ | ⟨rfl,rfl⟩
 ·rcases p6 ae with ⟨_,rfl⟩ | ⟨h,_⟩
  ·exact .same _
  ·omega
 ·rcases p6 ae with ⟨h,_⟩ | ⟨_,rfl⟩
  ·omega
  ·exact dh
def num (x:List B) (n:Nat) :Nat:=(x.getD 0 0).toNat % n
def nb (g:bp) (n i:Nat) :List (List B) :=g.ids.l.filter fun x=>decide (num x n=i)
def lv (g:bp) (n:Nat) :Nat->List bp
 | 0=>[]
 | i+1=>lv g n i++[jT g (nb g n i)]
theorem uU (g:bp) (n:Nat) :∀ i,(lv g n i).length=i
 | 0=>rfl
 | i+1=>by show (lv g n i++_).length=_; rw[auu,uU g n i]; rfl
theorem H7 (g:bp) (n:Nat) :∀ {i k:Nat},k<i->(lv g n i)[k]? = some (jT g (nb g n k))
 | i+1,k,ar=>by
  show (lv g n i++_)[k]? = _;by_cases h:k<i
  ·rw[aum (by rw[uU]; exact h)]; exact H7 g n h
  ·have:k=i:=by omega
   subst this;rw[auJ (by rw[uU]; exact aun _),uU]; simp
def oN (g:bp) (n:Nat) :eI:=⟨some (lv g n n),dm (h7 g),g.ids.l.length⟩
theorem Wx {x:List B} (af:x.length=32) :∃ b r,x=b::r/\num x=fun n=>b.toNat % n:=by
 cases x with
 | nil=>cases af
 | cons b r=>exact⟨b,r,rfl,rfl⟩
theorem WT {z by_:Nat} {l:ao} {w:U} {gd n c:Nat} {es:List (List U)} {X:List U} (h:bK z l w gd es) (ag:w=.aH\/n<=gd) (aD:n<=l.length) (ah:l[c]? = some (.cells z X)) (cn:X.length=z) (aI:z≠0) (dQ:by_≠0) (dL:(es.length+1)*by_<=cw) :
  ∃ w' s2 l',gX l z by_ w (.aq z c 0 1 1 z)=some (w',l')/\bK z l' w' s2 (es++[X])/\cF w'=false/\n<=s2/\l.length<=l'.length/\(∀ b,b<l.length->w=.aH\/b≠gd->l'[b]? = l[b]?)/\(l.length<=s2\/(w≠.aH/\s2=gd)) :=by
 obtain⟨a6,b7,l',a2,a9,bV,ey,go,g6⟩:=xO (by_:=by_) (x:=.aq z c 0 1 1 z) (xs:=[X]) h (by simp[dD,ah,cn,aul]) (by simp[cn]) aI dQ (by simpa using dL);have fw:cF a6=false:=by rw[g6]; simp
 have jl:a6≠.aH:=fun e=>by rw[e] at fw; cases fw
 refine⟨a6,b7,l',a2,a9,fw,?_,bV,ey,?_⟩
 ·rcases go with e | ⟨aP,bw⟩ | e
  ·omega
  ·rw[bw]; exact ag.resolve_left aP
  ·exact absurd e jl
 ·rcases go with e | ⟨aP,bw⟩ | e
  ·exact .inl e
  ·exact .inr ⟨aP,bw⟩
  ·exact absurd e jl
theorem aj8 {z:Nat} {l l' : ao} {w v:U} {gd s2 j:Nat} {es:List (List U)} (o:bK z l v j es) (ne:w=.aH\/v=.aH\/gd≠j) (fo:∀ b,b<l.length->w=.aH\/b≠gd->l'[b]? = l[b]?) (acR:l.length<=s2\/(w≠.aH/\s2=gd)) :bK z l' v j es/\(v=.aH\/s2≠j) :=by
 by_cases ap:v=.aH
 ·refine⟨?_,.inl ap⟩;subst ap;have:=o.q.Ia;subst this;exact .nil _
 ·have ai:=o.lt.resolve_left ap;have we:w=.aH\/j≠gd:=by
   rcases ne with q | q | q
   ·exact .inl q
   ·exact absurd q ap
   ·exact .inr fun e=>q e.symm
  refine⟨o.lg (.inr (fo j ai we)),.inr fun e=>?_⟩;rcases acR with q | ⟨q1,cV⟩
  ·omega
  ·rcases we with p | p
   ·exact q1 p
   ·exact p (by omega)
structure Z4 (g:bp) (n i:Nat) (σ:bc) (l:ao) :Prop where
 aK:σ 1=.int .i64 n
 aU:σ 2=.ptr 0 0 2
 bl:σ 4=.ptr 1 0 3
 bo:σ 5=.ptr 2 0 3
 cu:σ 6=.int .i64 i
 ex:∃ v j rest,l=.cells 2 [aB g.ids,bx g.ops] ::.cells 3 [.aH,.aH,.int .i64 0] ::.cells 3 [v,aB (dm (h7 g)),.int .i64 g.ids.l.length] ::rest/\bK 2 l v j ((lv g n i).map bR)/\(v=.aH\/3<=j)/\cF v=(lv g n i).isEmpty
structure Z5 (g:bp) (n i:Nat) (v:U) (j:Nat) (k:Nat) (σ:bc) (l:ao) :Prop where
 aK:σ 1=.int .i64 n
 aU:σ 2=.ptr 0 0 2
 bl:σ 4=.ptr 1 0 3
 bo:σ 5=.ptr 2 0 3
 cu:σ 6=.int .i64 i
 e4:σ 8=.int .i64 k
 ex:∃ w gd rest,l=.cells 2 [aB g.ids,bx g.ops] ::.cells 3 [.aH,.aH,.int .i64 0] ::.cells 3 [v,aB (dm (h7 g)),.int .i64 g.ids.l.length] ::rest/\bK 2 l v j ((lv g n i).map bR)/\σ 7=w ∧
  bK 32 l w gd (((g.ids.l.take k).filter fun x=>decide (num x n=i)).map aY)/\(w=.aH\/3<=gd)/\cF w=((g.ids.l.take k).filter fun x=>decide (num x n=i)).isEmpty/\(w=.aH\/v=.aH\/gd≠j)
set_option maxHeartbeats 16000000 in
theorem akN (g:bp) (aw:gn g) (aI:gp g=0) (n:Nat) (sL:1<=n) (rx:n<=100) :bz Tryz.prog GS 92 [cH g,.int .i64 n] (.aF (dN (oN g n))) :=by
 refine bX Tryz.checked.mixed bn ?_;apply bq Tryz.func92 [[[0],[2],[3],[4],[6],[1,6,3],[5]],[[0],[1],[2],[3],[4,1]]];have az:cw=140737488355328:=rfl;have V:=nW aI;have DH:=V.n60;have iL:=V.len;have fj:=dd g.ids;have dJ:=jE g.ops;have dp:ce (.aq 32) (aB g.ids)=some (.int .i64 g.ids.l.length) :=by simp[aB]
 have UW:=ak3 g aw aI;have ai8:=kp (dm (h7 g));unfold cH bR at UW;simp[cH,bR,dp];refine a4 UW (by simp[a5,U.closed,fj,dJ]) ?_;simp[ai8,a8];refine cl n (Z4 g n) ?_ ⟨by simp,by simp,by simp,by simp,by simp,.aH,0,[],rfl,.nil 0,.inl rfl,rfl⟩;rintro i σ l ay ⟨aK,aU,bl,bo,cu,v,j,rest,rfl,kT,ai,iA⟩;obtain⟨σ,rfl⟩:=lC aK aU bl bo cu;clear aK aU bl bo cu;have aP:IntKind.i64.wrap ((i:Int)+1)=((i+1:Nat) :Int) :=by rw[IntKind.wrap_i64]; omega
 by_cases cQ:i<n
 ·simp[cQ];refine cl g.ids.l.length (Z5 g n i v j) ?_ ⟨by simp,by simp,by simp,by simp,by simp,by simp,.aH,0,rest,rfl,kT,by simp,.nil 0,.inl rfl,rfl,.inl rfl⟩;clear kT;rintro k σ l ar ⟨aK,aU,bl,bo,cu,e4,w,gd,rest,rfl,kT,dU,aX,AF,sP,bP⟩;obtain⟨σ,rfl⟩:=Fc aK aU bl bo cu dU e4;clear aK aU bl bo cu dU e4;have bw:IntKind.i64.wrap ((k:Int)+1)=((k+1:Nat) :Int) :=by rw[IntKind.wrap_i64]; omega
  by_cases bv:k<g.ids.l.length
  ·obtain⟨x,af,cT⟩:=bI bv;have eW:=aw.ids x cT;have bd:=c2 eW;have bY:cL (.aq 32) (aB g.ids) (.int .i64 (k:Int))=some (.bM (aY x) 0) :=by simp[aB,af]
   have b5:g.ids.l.take (k+1)=g.ids.l.take k++[x] :=by rw[auP,af]; rfl
   obtain⟨oi,r,HI,uz⟩:=Wx eW;have Da:∀ h,(aY x)[0]'h=bA oi:=fun h=>by subst HI; rfl
   have K0:oi.toNat<256:=oi.isLt;have rJ:IntKind.i64.wrap (u oi)=(oi.toNat:Int) :=by unfold u; rw[IntKind.wrap_i64]; omega
   have Ax:=zL oi.toNat (n:Int) (by omega)
   rw[auS] at Ax;obtain⟨X,cn⟩:∃ X,X=aY x:=⟨_,rfl⟩
   rw[<-cn] at bd bY;simp only[<-cn] at Da;have fG:X.take 32=X:=aul (by omega);have hE:a8 (rep 32 (.int .u8 0)) 0 X=X:=gq (by rw[bd]; rfl);have a7:((oi.toNat:Int) % (n:Int)=(i:Int))<->num x n=i:=by
    rw[uz,<-Int.natCast_emod];exact⟨fun h=>Int.ofNat.inj h,fun h=>by rw[<-h]⟩
   have hp:((g.ids.l.take k).filter fun x=>decide (num x n=i)).length<=1000000:=au7 (avE _ _) (by rw[auA]; omega);by_cases yC:num x n=i
   ·have wn:(g.ids.l.take (k+1)).filter (fun x=>decide (num x n=i))=(g.ids.l.take k).filter (fun x=>decide (num x n=i))++[x] :=by rw[b5,avV]; simp[yC]
    obtain⟨w',s2,l',a2,a9,bV,ey,go,g6,zG⟩:=WT (by_:=32) (n:=3) (c:=rest.length+1+1+1) (aX.more [aV.cells 32 X]) AF (by simp) (by simp) bd (by omega) (by omega) (by rw[az]; simp; omega);obtain⟨c1,dx⟩:=aj8 (kT.more [aV.cells 32 X]) bP g6 zG;have fo:∀ b,b<3->l'[b]? = (aV.cells 2 [aB g.ids,bx g.ops] ::aV.cells 3 [.aH,.aH,.int .i64 0] ::aV.cells 3 [v,aB (dm (h7 g)),.int .i64 g.ids.l.length] ::rest)[b]?:=fun b ag=>by
     rw[g6 b (by simp; omega) (by rcases AF with e | e; exact .inl e; exact .inr (by omega)),aum (by simp; omega)]
    obtain⟨cB,rfl⟩:=vb (fo 0 (by omega)) (fo 1 (by omega)) (fo 2 (by omega));simp only[avj] at a2;simp[dp,bv,bY,bd,Da,rJ,Ax,a7,yC,fG,hE,a2];refine c7.cd ?_;simp[bw];refine⟨bv,by simp,by simp,by simp,by simp,by simp,by simp,w',s2,cB,rfl,c1,by simp,?_,.inr ey,by rw[wn,bV]; simp,?_⟩
    ·rw[wn,auH,auL,avP,<-cn]; exact a9
    ·exact .inr dx
   ·have wn:(g.ids.l.take (k+1)).filter (fun x=>decide (num x n=i))=(g.ids.l.take k).filter (fun x=>decide (num x n=i)) :=by rw[b5,avV]; simp[yC]
    simp[dp,bv,bY,bd,Da,rJ,Ax,a7,yC,bw];exact⟨by simp,by simp,by simp,by simp,by simp,by simp,w,gd,rest,rfl,kT,by simp,by rw[wn]; exact aX,AF,by rw[wn]; exact sP,bP⟩
  ·have dK:k=g.ids.l.length:=by omega
   subst dK;rw[auU] at aX sP;change bK 32 _ w gd ((nb g n i).map aY) at aX;change cF w=(nb g n i).isEmpty at sP;have uB:=akR g aw (by omega) (dm (nb g n i)) (fun x af=>by rw[ec] at af; exact aw.ids x (ave.1 af).1) (by rw[ec]; have:=avE (fun x=>decide (num x n=i)) g.ids.l; unfold nb; omega) (by omega);rw[ec] at uB;have fp:=dd (dm (nb g n i));have b5:lv g n (i+1)=lv g n i++[jT g (nb g n i)] :=rfl;have j6:=uU g n i;unfold cH bR at uB;obtain⟨Q,jh⟩:∃ Q,Q=bR (jT g (nb g n i)) :=⟨_,rfl⟩
   have Gs:Q.length=2:=by rw[jh]; rfl
   have adZ:Q.take 2=Q:=aul (by omega);have adY:a8 [U.aH,.aH] 0 Q=Q:=gq (by rw[Gs]; rfl);change bz _ _ _ _ (.aF (bR (jT g (nb g n i)))) at uB;rw[<-jh] at uB;simp[dp];refine aj5 (dm (nb g n i)) aX (by rw[qI]; exact sP) (ec _) (fun bj f1 f2=>?_);have agd:bK 2 bj v j ((lv g n i).map bR) :=kT.lg (by
    rcases bP with q | q | q
    ·exact .inr (f2 j (.inl q))
    ·exact .inl q
    ·exact .inr (f2 j (.inr fun e=>q e.symm)))
   have fo:∀ b,b<3->bj[b]? = (aV.cells 2 [aB g.ids,bx g.ops] ::aV.cells 3 [.aH,.aH,.int .i64 0] ::aV.cells 3 [v,aB (dm (h7 g)),.int .i64 g.ids.l.length] ::rest)[b]?:=fun b ag=>f2 b (by rcases AF with e | e; exact .inl e; exact .inr (by omega))
   obtain⟨dY,rfl⟩:=vb (fo 0 (by omega)) (fo 1 (by omega)) (fo 2 (by omega));refine a4 uB (by simp[a5,U.closed,fj,dJ]; exact fp) ?_;obtain⟨a6,b7,l',a2,a9,bV,ey,go,g6,zG⟩:=WT (by_:=48) (n:=3) (c:=dY.length+1+1+1) (agd.more [aV.cells 2 Q]) ai (by simp) (by simp) Gs (by omega) (by omega) (by rw[az]; simp; omega);have Kv:∀ b,b<3->l'[b]? = (aV.cells 2 [aB g.ids,bx g.ops] ::aV.cells 3 [.aH,.aH,.int .i64 0] ::aV.cells 3 [v,aB (dm (h7 g)),.int .i64 g.ids.l.length] ::dY)[b]?:=fun b ag=>by
    rw[g6 b (by simp; omega) (by rcases ai with e | e; exact .inl e; exact .inr (by omega)),aum (by simp; omega)]
   obtain⟨nX,rfl⟩:=vb (Kv 0 (by omega)) (Kv 1 (by omega)) (Kv 2 (by omega));simp only[avj] at a2;simp[Gs,adZ,adY,a2];refine c7.cd ?_;have rI:=r0 a9;simp[rI,a8,aP];refine⟨cQ,by simp,by simp,by simp,by simp,by simp,a6,b7,nX,rfl,?_,.inr ey,by rw[bV,b5]; simp⟩;rw[b5,auH,auL,avP,<-jh];refine a9.lg (.inr ?_);obtain⟨j9,rfl⟩:∃ j9,b7=j9+3:=⟨b7 - 3,by omega⟩
   rfl
 ·have afd:i=n:=by omega
  subst afd;simp;have m6:jz (aV.cells 2 [aB g.ids,bx g.ops] ::aV.cells 3 [v,aB (dm (h7 g)),.int .i64 g.ids.l.length] ::aV.cells 3 [v,aB (dm (h7 g)),.int .i64 g.ids.l.length] ::rest) v (kr (some (lv g i i))) :=by
   refine (kT.lg (l':=aV.cells 2 [aB g.ids,bx g.ops] ::aV.cells 3 [v,aB (dm (h7 g)),.int .i64 g.ids.l.length] ::aV.cells 3 [v,aB (dm (h7 g)),.int .i64 g.ids.l.length] ::rest) ?_).q.u5 zV (some (lv g i i)) ?_ rfl
   ·rcases ai with h | h
    ·exact .inl h
    ·right;obtain⟨j9,rfl⟩:∃ j9,j=j9+3:=⟨j - 3,by omega⟩
     rfl
   ·rw[iA];have:=uU g i i;cases hm:lv g i i with
    | nil=>rw[hm] at this; simp at this; omega
    | cons=>rfl
  have qa:=dd (dm (h7 g));refine .aF _ _ rfl fun j c c' ah eB=>?_
  rcases j with _ | _ | _ | j
  ·simp[dN,oN] at ah eB; subst ah eB; exact m6
  ·simp[dN,oN] at ah eB; subst ah eB; exact .same _ qa
  ·simp[dN,oN] at ah eB; subst ah eB; exact .same _ rfl
  ·simp at ah
structure Fx (s:eI) :Prop where
 parts:∀ g∈s.parts.l,gn g
 wP:s.parts.l.length<=1000000
 dB:eQ s.dB
 Nf:s.dB.l.length<=1000000
theorem nm.w {s:eI} (h:nm s) :Fx s:=⟨fun g aw=>(h.parts g aw).1,by have:=h.wP; omega,h.dB,h.Nf⟩
def pB (a b:eI) :Bool:=decide (a.parts.l.length=b.parts.l.length)&&(decide (a.eg=b.eg)&&(decide (a.dB.l=b.dB.l)&&decide (∀ k,k<a.parts.l.length->r5 (g8 a.parts.l k) (g8 b.parts.l k)=true)))
theorem zh (a b:eI) :pB a b=true<->a.parts.l.length=b.parts.l.length/\a.eg=b.eg/\a.dB.l=b.dB.l/\∀ k,k<a.parts.l.length->r5 (g8 a.parts.l k) (g8 b.parts.l k)=true:=by
 unfold pB;simp only[aus,decide_eq_true_eq]
set_option maxHeartbeats 8000000 in
theorem akW (a b:eI) (aC:Fx a) (ag:Fx b) :bz Tryz.prog GS 52 [.aF (dN a),.aF (dN b)] (.bool (pB a b)) :=by
 refine bX Tryz.checked.mixed bn ?_;apply bq Tryz.func52 [];have nJ:=yU a.parts;have j5:=yU b.parts;have i6:=zW a.parts;have aqj:=zW b.parts;have qa:=dd a.dB;have ln:=dd b.dB;have kt:=N4 a.dB b.dB aC.dB ag.dB aC.Nf;by_cases ad:a.parts.l.length=b.parts.l.length
 ·by_cases ae:a.eg=b.eg
  ·by_cases aj:a.dB.l=b.dB.l
   ·simp[dN,nJ,j5,ad,ae];refine a4 kt (by simp[a5,U.closed,qa,ln]) ?_;simp[aj];refine cl a.parts.l.length (fun k σ l=>l=[.cells 3 [kr a.parts,aB a.dB,.int .i64 a.eg],.cells 3 [kr b.parts,aB b.dB,.int .i64 b.eg]]/\σ 2=.ptr 0 0 3/\σ 3=.ptr 1 0 3/\σ 5=.int .i64 k/\∀ j,j<k->r5 (g8 a.parts.l j) (g8 b.parts.l j)=true) ?_ ⟨by simp[ae],by simp,by simp,by simp,fun j ai=>by omega⟩;rintro k σ l ar ⟨rfl,aU,a1,bo,ak⟩;obtain⟨σ,rfl⟩:=lB aU a1 bo;clear aU a1 bo;have aP:IntKind.i64.wrap ((k:Int)+1)=((k+1:Nat) :Int) :=by rw[IntKind.wrap_i64]; have:=aC.wP; omega
    by_cases bv:k<a.parts.l.length
    ·obtain⟨p,av,gS⟩:=bI bv;obtain⟨q,a7,agt⟩:=bI (l:=b.parts.l) (k:=k) (by omega);have bY:=sW av;have hr:=sW a7;have HA:=akU p q (aC.parts p gS) (ag.parts q agt);have afu:k<b.parts.l.length:=by omega
     have jJ:(bR p).length=2:=rfl;have Th:(bR q).length=2:=rfl;have C2:=zV p;have Tg:=zV q;have lo:=h5 av;have T0:=h5 a7;change bz _ _ _ [.aF (bR p),.aF (bR q)] _ at HA;obtain⟨tC,pa⟩:∃ tC,tC=bR p:=⟨_,rfl⟩
     obtain⟨Fs,adI⟩:∃ Fs,Fs=bR q:=⟨_,rfl⟩
     rw[<-pa] at bY HA jJ C2;rw[<-adI] at hr HA Th Tg;have t1:tC.take 2=tC:=aul (by omega);have t2:Fs.take 2=Fs:=aul (by omega);simp[nJ,j5,bv,afu,bY,hr,jJ,Th,t1,t2];refine a4 HA (by simp[a5,U.closed,C2,Tg]) ?_;cases j7:r5 p q with
     | true=>
      simp[aP];refine⟨bv,fun j ai=>?_⟩;by_cases gR:j=k
      ·subst gR; rw[lo,T0]; exact j7
      ·exact ak j (by omega)
     | false=>
      have aE:pB a b=false:=av5.2 fun h=>by
       have:=((zh a b).1 h).2.2.2 k bv;rw[lo,T0,j7] at this; cases this
      simp;exact aQ (congrArg U.bool aE.symm) rfl
    ·have dK:k=a.parts.l.length:=by omega
     subst dK;have aW:pB a b=true:=(zh a b).2 ⟨ad,ae,aj,ak⟩;simp[nJ];exact aQ (congrArg U.bool aW.symm) rfl
   ·have aE:pB a b=false:=av5.2 fun h=>aj ((zh a b).1 h).2.2.1
    simp[dN,nJ,j5,ad,ae];refine a4 kt (by simp[a5,U.closed,qa,ln]) ?_;simp[aj];exact aQ (congrArg U.bool aE.symm) rfl
  ·have aE:pB a b=false:=av5.2 fun h=>ae ((zh a b).1 h).2.1
   simp[dN,nJ,j5,ad,ae];exact aQ (congrArg U.bool aE.symm) rfl
 ·have aE:pB a b=false:=av5.2 fun h=>ad ((zh a b).1 h).1
  have ef:¬ (a.parts.l.length:Int)=b.parts.l.length:=by omega
  simp[dN,nJ,j5,ad,ef];exact aQ (congrArg U.bool aE.symm) rfl
theorem ake {g:bp} (aw:gn g) (L:List (List B)) :gn (jT g L) :=by
 unfold jT;refine YZ (Gj (fun p av=>aw.ids _ (Bo (auG (ave.1 av).1)).1) (fun p av=>aw.ops _ (Bo (auG (ave.1 av).1)).2) ?_);have ad:=NB (g:=g) (L:=L) (k:=(gj g).length);have ae:(gj g).length<=g.ids.l.length:=by unfold gj; rw[axo]; omega
 have:=aw.li;omega
theorem aiV {g:bp} (aw:gn g) {n:Nat} (aD:n<=1000) :Fx (oN g n) :=by
 refine⟨fun p av=>?_,?_,fun x af=>?_,?_⟩
 ·have iC:p∈lv g n n:=av;obtain⟨k,ar⟩:=aur.1 iC;have bv:=(auk.1 ar).1;rw[uU] at bv;rw[H7 g n bv] at ar;obtain rfl:=Option.some.inj ar;exact ake aw _
 ·show (lv g n n).length<=_;rw[uU]; omega
 ·have pl:x∈(dm (h7 g)).l:=af;rw[ec] at pl;exact aw.ids x (ave.1 pl).1
 ·show (dm (h7 g)).l.length<=_;rw[ec];have:=avE (lR g) g.ids.l;have:=aw.li;unfold h7; omega
theorem Zp {s:eI} (h:nm s) :gn (fh s) :=YZ (xy h)
noncomputable def n4 (s:eI) :Int:=if 1<=s.parts.l.length/\s.parts.l.length<=4 then (if gp (fh s)=0/\pB s (oN (fh s) s.parts.l.length)=true then 0 else 8) else 8
set_option maxHeartbeats 8000000 in
theorem akY (s:eI) (ak:nm s) :bz Tryz.prog GS 58 [.aF (dN s)] (.int .i64 (n4 s)) :=by
 refine bX Tryz.checked.mixed bn ?_;apply bq Tryz.func58 [[[0],[1],[2],[3],[4],[5],[6],[7],[8],[9,4]]];have gb:=yU s.parts;have bS:(dN s).length=3:=rfl;have fO:∀ h,(dN s)[0]'h=kr s.parts:=fun _=>rfl
 have g1:=Cn s;have g9:(dN s).take 3=dN s:=rfl;by_cases ad:1<=s.parts.l.length
 ·by_cases aG:s.parts.l.length<=4
  ·have cU:¬ (s.parts.l.length:Int)<1:=by omega
   have gc:¬ (4:Int)<(s.parts.l.length:Int) :=by omega
   have Mm:¬ 4<s.parts.l.length:=by omega
   have aX:=Xz s ak;have wT:=Zp ak;have ei:=akF (fh s) wT;have eo:=kp (fh s).ids;have ej:=o3 (fh s).ops;have b3:=dd (fh s).ids;have b9:=jE (fh s).ops;unfold cH bR at aX ei;have c5:n4 s=if gp (fh s)=0/\pB s (oN (fh s) s.parts.l.length)=true then 0 else 8:=by unfold n4; rw[if_pos ⟨ad,aG⟩]
   simp[bS,fO,g9,gb,cU,gc,Mm];refine a4 aX (by simp[a5,U.closed,g1]) ?_;simp[a8];refine a4 ei (by simp[a5,U.closed,b3,b9]) ?_;by_cases aI:gp (fh s)=0
   ·have hm:=akN (fh s) wT aI s.parts.l.length ad (by omega);have j7:=akW s (oN (fh s) s.parts.l.length) ak.w (aiV wT (by omega));have adR:=Cn (oN (fh s) s.parts.l.length);unfold cH bR at hm;simp[aI,bS,fO,g9,gb];refine a4 hm (by simp[a5,U.closed,b3,b9]) ?_;simp[bS,g9];refine a4 j7 (by simp[a5,U.closed,g1,adR]) ?_;cases ag:pB s (oN (fh s) s.parts.l.length) with
    | true=>
     rw[ag,if_pos ⟨aI,rfl⟩] at c5;rw[c5];simp;exact aQ rfl rfl
    | false=>
     rw[ag,if_neg (by simp)] at c5;rw[c5];simp;exact aQ rfl rfl
   ·rw[if_neg (fun h=>aI h.1)] at c5;rw[c5];simp[aI];exact aQ rfl rfl
  ·have c5:n4 s=8:=by unfold n4; rw[if_neg (fun h=>aG h.2)]
   have cU:¬ (s.parts.l.length:Int)<1:=by omega
   have gc:(4:Int)<(s.parts.l.length:Int) :=by omega
   have Mm:4<s.parts.l.length:=by omega
   rw[c5];simp[bS,fO,gb,cU,gc,Mm];exact aQ rfl rfl
 ·have c5:n4 s=8:=by unfold n4; rw[if_neg (fun h=>ad h.1)]
  have cU:(s.parts.l.length:Int)<1:=by omega
  rw[c5];simp[bS,fO,gb,cU];exact aQ rfl rfl
structure ew where
 cap:Int
 cX:eI
 order:dv
def c8 (s:ew) :List U:=[.int .i64 s.cap,kr s.cX.parts,aB s.cX.dB,.int .i64 s.cX.eg,aB s.order]
structure qU (s:ew) :Prop where
 cX:nm s.cX
 order:eQ s.order
 no:s.order.l.length<=1000
theorem vL (s:ew) :a5 (c8 s)=true:=by simp[c8,a5,U.closed,zW,dd]
def oP (g:bp) (l:List (List B)) (i:Nat) :Bool:=decide (b1 l i∈g.ids.l)&&(!decide (b1 l i∈l.take i)&&k9 (l.take i) (eO g.ops.l (g3 (b1 l i) g.ids.l 0).toNat))
def pu (g:bp) (l:List (List B)) :Bool:=decide (∀ i,i<l.length->oP g l i=true)
noncomputable def g4 (s:ew) :Int:=if 1<=s.cap/\s.cap<=40/\n4 s.cX=0/\s.cX.eg<=s.cap/\(s.order.l.length:Int)=s.cX.eg then (if pu (fh s.cX) s.order.l=true then 0 else 8) else 8
theorem Yg {s:eI} (h:n4 s=0) :1<=s.parts.l.length/\s.parts.l.length<=4/\gp (fh s)=0/\pB s (oN (fh s) s.parts.l.length)=true:=by
 unfold n4 at h;split at h
 ·rename_i ad;split at h
  ·rename_i ae; exact⟨ad.1,ad.2,ae⟩
  ·cases h
 ·cases h
theorem ahP {x:List B} {l:List (List B)} {i:Nat} (ay:l[i]? = some x) :g3 x l 0<(i:Int)<->x∈l.take i:=by
 obtain⟨n,aD,af,yx⟩:∃ n:Nat,g3 x l 0=(n:Int)/\l[n]? = some x/\∀ (j:Nat) (y:List B),j<n->l[j]? = some y->y≠x:=by
  have key:∀ (m:Nat),l[m]? = some x->∃ n:Nat,l[n]? = some x/\∀ (j:Nat) (y:List B),j<n->l[j]? = some y->y≠x:=by
   intro m
   induction m using Nat.strongRecOn with
   | _ m aR=>
    intro hm;by_cases h:∃ j,j<m/\l[j]? = some x
    ·obtain⟨j,ai,Hb⟩:=h;exact aR j ai Hb
    ·exact⟨m,hm,fun j y ai aJ e=>h ⟨j,ai,by rw[aJ,e]⟩⟩
  obtain⟨n,ad,ae⟩:=key i ay;exact⟨n,by have:=Ee (n:=0) ad ae; simpa using this,ad,ae⟩
 rw[aD];constructor
 ·intro h;have h' : n<i:=by omega
  exact aur.2 ⟨n,by rw[auI h']; exact af⟩
 ·intro h;obtain⟨k,ar⟩:=aur.1 h;have bv:=(auk.1 ar).1;rw[auA] at bv;rw[auI (by omega)] at ar;by_cases e:n<=k
  ·omega
  ·exact absurd rfl (yx k x (by omega) ar)
theorem Ef {l:List (List B)} (ai:mJ l) {i:Nat} {x:List B} (ay:l[i]? = some x) :g3 x l 0=(i:Int) :=by
 have:=Ee (n:=0) ay (fun j y jL aJ e=>by rw[e] at aJ; have:=ai j i x aJ ay; omega);simpa using this
theorem Mt (a:dv) {k:Nat} (h:k<=a.l.length) :fl (.aq 32) (aB a) none (some (.int .i64 (k:Int))) none=some (aB (gV a k)) :=YN h
set_option maxHeartbeats 16000000 in
theorem ak2 (s:ew) (ak:qU s) :bz Tryz.prog GS 31 [.aF (c8 s)] (.int .i64 (g4 s)) :=by
 refine bX Tryz.checked.mixed bn ?_;apply bq Tryz.func31 [[],[[0],[1],[2],[3],[4],[5],[6],[7],[8],[9],[11],[10]]];have cM:ce (.aq 32) (aB s.order)=some (.int .i64 s.order.l.length) :=by simp[aB]
 have uq:=akY s.cX ak.cX;have uo:=zW s.cX.parts;have ye:=dd s.cX.dB;have dJ:=dd s.order;have cR:=ak.no;unfold dN at uq;by_cases ad:1<=s.cap
 ·by_cases ae:s.cap<=40
  ·have cU:¬ s.cap<1:=by omega
   have dX:¬ (40:Int)<s.cap:=by omega
   by_cases aj:n4 s.cX=0
   ·by_cases aG:s.cX.eg<=s.cap
    ·have gc:¬ s.cap<s.cX.eg:=by omega
     by_cases bh:(s.order.l.length:Int)=s.cX.eg
     ·obtain⟨_,_,aI,_⟩:=Yg aj;have V:=nW aI;have wT:=Zp ak.cX;have iL:=V.len;have DH:=V.n60;have aX:=Xz s.cX ak.cX;have c5:g4 s=if pu (fh s.cX) s.order.l=true then 0 else 8:=by unfold g4; rw[if_pos ⟨ad,ae,aj,aG,bh⟩]
      have ik:∀ i,i<s.order.l.length->oP (fh s.cX) s.order.l i=false->g4 s=8:=fun i ay aE=>by
       rw[c5,if_neg];unfold pu;rw[decide_eq_true_eq];intro h;have:=h i ay;rw[aE] at this; cases this
      have eo:=kp (fh s.cX).ids;have ej:=o3 (fh s.cX).ops;have b3:=dd (fh s.cX).ids;unfold cH bR dN at aX;obtain⟨g,aw⟩:∃ g,g=fh s.cX:=⟨_,rfl⟩
      rw[<-aw] at aX wT iL DH eo ej b3 ik V c5 aI;simp[c8,cU,dX];refine a4 uq (by simp[a5,U.closed,uo,ye]) ?_;simp[aj,gc,cM,bh];refine a4 aX (by simp[a5,U.closed,uo,ye]) ?_;simp[a8];refine cl s.order.l.length (fun k σ l=>l=[.cells 5 [.int .i64 s.cap,kr s.cX.parts,aB s.cX.dB,.int .i64 s.cX.eg,aB s.order],.cells 2 [aB g.ids,bx g.ops]]/\σ 1=.ptr 0 0 5/\σ 3=.ptr 1 0 2/\σ 4=.int .i64 k/\∀ j,j<k->oP g s.order.l j=true) ?_ ⟨rfl,by simp,by simp,by simp,fun j ai=>by omega⟩;rintro k σ l ar ⟨rfl,aK,a1,bl,j3⟩;obtain⟨σ,rfl⟩:=lB aK a1 bl;clear aK a1 bl;have aP:IntKind.i64.wrap ((k:Int)+1)=((k+1:Nat) :Int) :=by rw[IntKind.wrap_i64]; omega
      by_cases bv:k<s.order.l.length
      ·obtain⟨x,af,cT⟩:=bI bv;have eW:=ak.order x cT;have bd:=c2 eW;have eX:=fE x;have bY:cL (.aq 32) (aB s.order) (.int .i64 (k:Int))=some (.bM (aY x) 0) :=by simp[aB,af]
       have ez:=zc g.ids wT.ids wT.li x eW;have KX:=zc s.order ak.order (by omega) x eW;have hit:=ahP af;have c4:oP g s.order.l k=(decide (x∈g.ids.l)&&(!decide (x∈s.order.l.take k)&&k9 (s.order.l.take k) (eO g.ops.l (g3 x g.ids.l 0).toNat))) :=by unfold oP; rw[gi af]
       have jj:=uL x g.ids.l 0;obtain⟨ME,afk⟩:∃ ME,ME=g3 x s.order.l 0:=⟨_,rfl⟩
       rw[<-afk] at KX hit;by_cases hm:x∈g.ids.l
       ·obtain⟨a,aC⟩:=aur.1 hm;have KW:=Ef (qs V.di) aC;obtain⟨o,au,en⟩:=bI (l:=g.ops.l) (k:=a) (by rw[<-iL]; exact (auk.1 aC).1);have lV:=wT.ops o en;rw[KW] at ez c4;rw[decide_eq_true hm,auS,tf au,avR] at c4;have hb:=(auk.1 aC).1;have mq:cL (.aq 11) (bx g.ops) (.int .i64 (a:Int))=some (.bM (a3 o) 0) :=by simp[bx,au]
        have cS:(a3 o).length=11:=rfl;have kO:∀ h,(a3 o)[1]'h=aB o.bi:=fun _=>rfl
        have i6:=dd o.bi;have bS:=Mt s.order (k:=k) (by omega);have Hp:eQ (gV s.order k) :=fun z ax=>ak.order z (by rw[mG] at ax; exact auG ax)
        have dV:=NG (gV s.order k) Hp (by rw[mG,auA]; omega) o.bi lV.ids lV.len;rw[mG] at dV;have Dm:=dd (gV s.order k);have sM:¬ (a:Int)<0:=by omega
        obtain⟨X,cn⟩:∃ X,X=aY x:=⟨_,rfl⟩
        obtain⟨O,eu⟩:∃ O,O=a3 o:=⟨_,rfl⟩
        rw[<-cn] at bY bd eX ez KX;rw[<-eu] at mq cS;simp only[<-eu] at kO;have fG:X.take 32=X:=aul (by omega);simp[cM,bv,bY,bd,fG];refine a4 ez (by simp[a5,U.closed,b3,eX]) ?_;simp[sM,bY,bd,fG];refine a4 KX (by simp[a5,U.closed,dJ,eX]) ?_;by_cases bF:x∈s.order.l.take k
        ·have o8:=hit.2 bF;rw[decide_eq_true bF] at c4;have:=ik k bv (by rw[c4]; simp);simp[o8];exact aQ (by rw[this]) rfl
        ·have o8:¬ ME<(k:Int) :=fun h=>bF (hit.1 h)
         rw[decide_eq_false bF] at c4;simp[o8,bS,mq,cS,kO];refine a4 dV (by simp[a5,U.closed,Dm,i6]) ?_;cases dz:k9 (s.order.l.take k) o.bi.l with
         | true=>
          rw[dz] at c4;simp[aP];refine⟨bv,fun j ai=>?_⟩;by_cases gR:j=k
          ·rw[gR,c4]; rfl
          ·exact j3 j (by omega)
         | false=>
          rw[dz] at c4;have:=ik k bv (by rw[c4]; rfl);simp;exact aQ (by rw[this]) rfl
       ·have aD:g3 x g.ids.l 0<0:=by
         have:¬ 0<=g3 x g.ids.l 0:=fun h=>hm (jj.1 h)
         omega
        rw[decide_eq_false hm,awF] at c4;have:=ik k bv c4;obtain⟨X,cn⟩:∃ X,X=aY x:=⟨_,rfl⟩
        rw[<-cn] at bY bd eX ez;have fG:X.take 32=X:=aul (by omega);simp[cM,bv,bY,bd,fG];refine a4 ez (by simp[a5,U.closed,b3,eX]) ?_;simp[aD];exact aQ (by rw[this]) rfl
      ·have dK:k=s.order.l.length:=by omega
       subst dK;have:pu g s.order.l=true:=by unfold pu; exact decide_eq_true j3
       rw[this,if_pos rfl] at c5;rw[c5];simp[cM];exact aQ rfl rfl
     ·have c5:g4 s=8:=by unfold g4; rw[if_neg (fun h=>bh h.2.2.2.2)]
      rw[c5];simp[c8,cU,dX];refine a4 uq (by simp[a5,U.closed,uo,ye]) ?_;simp[aj,gc,cM,bh];exact aQ rfl rfl
    ·have c5:g4 s=8:=by unfold g4; rw[if_neg (fun h=>aG h.2.2.2.1)]
     have gc:s.cap<s.cX.eg:=by omega
     rw[c5];simp[c8,cU,dX];refine a4 uq (by simp[a5,U.closed,uo,ye]) ?_;simp[aj,gc];exact aQ rfl rfl
   ·have c5:g4 s=8:=by unfold g4; rw[if_neg (fun h=>aj h.2.2.1)]
    rw[c5];simp[c8,cU,dX];refine a4 uq (by simp[a5,U.closed,uo,ye]) ?_;simp[aj];exact aQ rfl rfl
  ·have c5:g4 s=8:=by unfold g4; rw[if_neg (fun h=>ae h.2.1)]
   have cU:¬ s.cap<1:=by omega
   have dX:(40:Int)<s.cap:=by omega
   rw[c5];simp[c8,cU,dX];exact aQ rfl rfl
 ·have c5:g4 s=8:=by unfold g4; rw[if_neg (fun h=>ad h.1)]
  have cU:s.cap<1:=by omega
  rw[c5];simp[c8,cU];exact aQ rfl rfl
def tP (p:bp) :Bool:=decide (16<p.ops.l.length)||(decide (16<p.ids.l.length)||uc p)
def p7 (s:eI) :Bool:=(s.parts.l.take 7).any tP||(decide (6<s.parts.l.length)||decide (60<s.dB.l.length))
def CW (s:ew) :Bool:=p7 s.cX||decide (70<s.order.l.length)
set_option maxHeartbeats 8000000 in
theorem akI (s:eI) :bz Tryz.prog GS 57 [.aF (dN s)] (.bool (p7 s)) :=by
 refine bX Tryz.checked.mixed bn ?_;apply bq Tryz.func57 [];have gb:=yU s.parts;have bS:(dN s).length=3:=rfl;have fO:∀ h,(dN s)[0]'h=kr s.parts:=fun _=>rfl
 have KO:∀ h,(dN s)[1]'h=aB s.dB:=fun _=>rfl
 have afB:ce (.aq 32) (aB s.dB)=some (.int .i64 s.dB.l.length) :=by simp[aB]
 simp[bS];obtain⟨n,aD⟩:∃ n,n=min s.parts.l.length 7:=⟨_,rfl⟩
 refine cl n (fun k σ l=>l=[.cells 3 (dN s)]/\σ 1=.ptr 0 0 3/\σ 3=.int .i64 k/\∀ j,j<k->tP (g8 s.parts.l j)=false) ?_ ⟨rfl,by simp,by simp,fun j ai=>by omega⟩;rintro k σ l ar ⟨rfl,aK,a1,j3⟩;obtain⟨σ,rfl⟩:=pG aK a1;clear aK a1;have aP:IntKind.i64.wrap ((k:Int)+1)=((k+1:Nat) :Int) :=by rw[IntKind.wrap_i64]; omega
 by_cases bv:k<s.parts.l.length
 ·by_cases Hd:k<=6
  ·have Dy:(k:Int)<=6:=by omega
   obtain⟨p,av,gS⟩:=bI bv;have bY:=sW av;have h8:=akG p;have lo:=h5 av;have jJ:(bR p).length=2:=rfl;have lk:∀ h,(bR p)[0]'h=aB p.ids:=fun _=>rfl
   have pa:∀ h,(bR p)[1]'h=bx p.ops:=fun _=>rfl
   have C2:=zV p;have cM:ce (.aq 11) (bx p.ops)=some (.int .i64 p.ops.l.length) :=by simp[bx]
   have dp:ce (.aq 32) (aB p.ids)=some (.int .i64 p.ids.l.length) :=by simp[aB]
   change bz _ _ _ [.aF (bR p)] _ at h8;have ik:tP p=true->p7 s=true:=fun h=>by
    unfold p7;rw[awc.2 ⟨p,aur.2 ⟨k,by rw[auI (by omega)]; exact av⟩,h⟩]; rfl
   obtain⟨tC,Te⟩:∃ tC,tC=bR p:=⟨_,rfl⟩
   rw[<-Te] at bY h8 jJ C2;simp only[<-Te] at lk pa;have ui:tC.take 2=tC:=aul (by omega);by_cases ad:16<p.ops.l.length
   ·have ef:(16:Int)<(p.ops.l.length:Int) :=by omega
    have:=ik (by unfold tP; rw[decide_eq_true ad]; rfl);simp[bS,fO,gb,bv,Hd,Dy,bY,jJ,pa,cM,ad,ef];exact aQ (by rw[this]) rfl
   ·have ef:¬ (16:Int)<(p.ops.l.length:Int) :=by omega
    by_cases ae:16<p.ids.l.length
    ·have gC:(16:Int)<(p.ids.l.length:Int) :=by omega
     have:=ik (by unfold tP; rw[decide_eq_true ae]; simp);simp[bS,fO,gb,bv,Hd,Dy,bY,jJ,lk,pa,cM,dp,ad,ef,ae,gC];exact aQ (by rw[this]) rfl
    ·have gC:¬ (16:Int)<(p.ids.l.length:Int) :=by omega
     simp[bS,fO,gb,bv,Hd,Dy,bY,jJ,lk,pa,cM,dp,ad,ef,ae,gC,ui];refine a4 h8 (by simp[a5,U.closed,C2]) ?_;cases aj:uc p with
     | true=>
      have:=ik (by unfold tP; rw[aj]; simp);simp;exact aQ (by rw[this]) rfl
     | false=>
      simp[aP];refine⟨by omega,fun j ai=>?_⟩;by_cases gR:j=k
      ·rw[gR,lo]; unfold tP; rw[decide_eq_false ad,decide_eq_false ae,aj]; rfl
      ·exact j3 j (by omega)
  ·have Dy:¬ (k:Int)<=6:=by omega
   have dz:6<s.parts.l.length:=by omega
   have rg:(6:Int)<(s.parts.l.length:Int) :=by omega
   have:p7 s=true:=by unfold p7; rw[decide_eq_true dz]; simp
   simp[bS,fO,gb,bv,Hd,Dy,dz,rg];exact aQ (by rw[this]) rfl
 ·have cR:(s.parts.l.take 7).any tP=false:=av5.2 fun h=>by
   obtain⟨q,a7,ag⟩:=awc.1 h;obtain⟨j,ai⟩:=aur.1 (auG a7);have:=j3 j (by have:=(auk.1 ai).1; omega);rw[h5 ai,ag] at this; cases this
  by_cases dz:6<s.parts.l.length
  ·have rg:(6:Int)<(s.parts.l.length:Int) :=by omega
   have:p7 s=true:=by unfold p7; rw[decide_eq_true dz]; simp
   simp[bS,fO,gb,bv,dz,rg];exact aQ (by rw[this]) rfl
  ·have rg:¬ (6:Int)<(s.parts.l.length:Int) :=by omega
   have:p7 s=decide (60<s.dB.l.length) :=by unfold p7; rw[cR,decide_eq_false dz]; rfl
   have a7:decide ((60:Int)<(s.dB.l.length:Int))=decide (60<s.dB.l.length) :=decide_eq_decide.2 (by omega);simp[bS,fO,KO,gb,afB,bv,dz,rg,a7];exact aQ (by rw[this]) rfl
theorem akJ (s:ew) :bz Tryz.prog GS 30 [.aF (c8 s)] (.bool (CW s)) :=by
 refine bX Tryz.checked.mixed bn ?_;apply bq Tryz.func30 [];have h8:=akI s.cX;have cM:ce (.aq 32) (aB s.order)=some (.int .i64 s.order.l.length) :=by simp[aB]
 have uo:=zW s.cX.parts;have ye:=dd s.cX.dB;have a7:decide ((70:Int)<(s.order.l.length:Int))=decide (70<s.order.l.length) :=decide_eq_decide.2 (by omega);unfold dN at h8;simp[c8];refine a4 h8 (by simp[a5,U.closed,uo,ye]) ?_;unfold CW;cases h:p7 s.cX with
 | true=>
  simp;exact aQ rfl rfl
 | false=>
  simp[cM,a7];exact aQ (by simp) rfl
structure aoa (s:eI) (k:Nat) (σ:bc) (l:ao) :Prop where
 aK:σ 1=.ptr 0 0 3
 aU:σ 2=.ptr 1 0 3
 a1:σ 3=.ptr 3 0 3
 bl:σ 4=.int .i64 k
 ex:∃ v j rest,l=.cells 3 [kr s.parts,aB s.dB,.int .i64 s.eg] ::.cells 3 [.aH,.aH,.int .i64 0] ::.dead::.cells 3 [v,aB (some s.dB.l),.int .i64 s.eg] ::rest/\bK 2 l v j (((s.parts.l.take k).map gu).map bR)/\(v=.aH\/4<=j)/\cF v=(s.parts.l.take k).isEmpty
theorem ajx (x:List B) (af:x.length=32) (n:Nat) (ad:1<=n) (ae:n<=100) :bz Tryz.prog GS 164 [.aF (aY x),.int .i64 n] (.int .i64 (num x n)) :=by
 refine bX Tryz.checked.mixed bn ?_;apply bq Tryz.func164 [];have bd:=c2 af;obtain⟨oi,r,HI,uz⟩:=Wx af;have Da:∀ h,(aY x)[0]'h=bA oi:=fun h=>by subst HI; rfl
 have K0:oi.toNat<256:=oi.isLt;have rJ:IntKind.i64.wrap (u oi)=(oi.toNat:Int) :=by unfold u; rw[IntKind.wrap_i64]; omega
 have Ax:=zL oi.toNat (n:Int) (by omega)
 rw[auS] at Ax;have sK:¬ n=0:=by omega
 simp[bd,Da,bA,zS,rJ,Ax];refine aQ ?_ rfl;rw[uz];simp
theorem ajX (n i:Nat) (ad:1<=n) (ae:n<=100) {l:ao} {nu FI:Nat} (aD:l[nu]? = some (.cells 1 [.int .i64 (n:Int)])) (ay:l[FI]? = some (.cells 1 [.int .i64 (i:Int)])) (xs:List (List B)) (af:∀ p∈xs,p.length=32) :
  xD 175 [.ptr nu 0 1,.ptr FI 0 1] l xs (fun p=>!decide (num p n=i)) :=by
 intro p av l1 am K aT;apply bq Tryz.func175 [[[0],[1],[3],[2,3]]];have hD:=af p av;have gE:=c2 hD;have LM:=fE p;have q1:l1[nu]? = some (.cells 1 [.int .i64 (n:Int)]) :=by rw[am.2 _ (b6 aD)]; exact aD
 have cV:l1[FI]? = some (.cells 1 [.int .i64 (i:Int)]) :=by rw[am.2 _ (b6 ay)]; exact ay
 have aK:∀ c:aV,(l1++[c])[nu]? = some (.cells 1 [.int .i64 (n:Int)]) :=fun c=>by rw[aum (b6 q1)]; exact q1
 have aU:∀ c:aV,(l1++[c])[FI]? = some (.cells 1 [.int .i64 (i:Int)]) :=fun c=>by rw[aum (b6 cV)]; exact cV
 have afY:=ajx p hD n ad ae;simp[aK,aU,gE,aul];refine a4 afY (by simp[a5,U.closed,LM]) ?_;have c5:decide (((num p n:Nat) :Int)=(i:Int))=decide (num p n=i) :=by
  by_cases h:num p n=i
  ·simp[h]
  ·have:¬ ((num p n:Nat) :Int)=(i:Int) :=by omega
   simp[h]; exact this
 simp[q1,cV,aK,aU,c5];have:=aT (l1++[aV.cells 32 (aY p)]) ⟨by simp,fun b ag=>aum ag⟩;exact this
theorem HM (s:dv) (au:eQ s) (ak:s.l.length<=1000000) :bz Tryz.prog GS 61 [aB s] (aB s) :=by
 refine bX Tryz.checked.mixed bn ?_;refine Mr s au ak fun v l' h=>?_
 exact h.rd fE s rfl rfl
theorem Wt (s:db br) :gN Tryz.prog .eql 45 (bx s) .aH=some (.bool s.isNone) :=JR (e:=94) (by kernel_rfl) 11 a3 s
theorem SD (l:List br) :(l.map a3).flatten.length=l.length*11:=x2 (z:=11) (enc:=a3) (fun _ _=>rfl)
theorem aby (s:db br) (ak:s.l.length<=1000000) {l:ao} {K:U->ao->Prop} (aI:s=none->K .aH l)
  (ad:∀ a,s=some a->K (.aq 11 l.length 0 a.length a.length (a.length*11)) (l++[.cells (a.length*11) (a.map a3).flatten])) :
  c0 Tryz.prog GS 121 [bx s] l (c:=⟨K⟩) :=by
 apply bq Tryz.func121 [];have az:cw=140737488355328:=rfl;cases s with
 | none=>
  simp[Wt];exact aI rfl
 | some a=>
  simp at ak;have hp:=SD a;have j1:gX (l++[aV.cells 0 []]) 11 112 (.aq 11 l.length 0 0 0 0) (bx (some a))=some (.aq 11 l.length 0 a.length a.length (a.length*11),l++[.cells (a.length*11) (a.map a3).flatten]) :=by
   unfold gX bx;rw[vS];simp only[db.A9];unfold jB;by_cases ax:a.length=0
   ·have:a=[] :=au4.1 ax;subst this;simp
   ·rw[if_neg ax,if_neg (by omega)];simp[az];exact⟨by omega,fun h=>by simp[h]⟩
  simp[Wt,j1];refine c7.cd ?_;simp;exact ad a rfl
theorem XB {l:ao} {a b dj bg:U} (ad:jz l a dj) (ae:jz l b bg) :jz l (.aF [a,b]) (.aF [dj,bg]) :=by
 refine .aF _ _ rfl fun j x OS af pl=>?_
 rcases p6 af with ⟨rfl,rfl⟩ | ⟨rfl,rfl⟩
 ·rcases p6 pl with ⟨_,rfl⟩ | ⟨h,_⟩
  ·exact ad
  ·omega
 ·rcases p6 pl with ⟨h,_⟩ | ⟨_,rfl⟩
  ·omega
  ·exact ae
theorem WG (o:br) :a8 (a3 o) 1 [aB o.bi]=a3 o:=by
 unfold a8 a3; simp
set_option maxHeartbeats 4000000 in
theorem amo (g:bp) (aw:gn g) :bz Tryz.prog GS 125 [cH g] (cH g) :=by
 refine bX Tryz.checked.mixed bn ?_;apply bq Tryz.func125 [[[0],[1],[3],[4],[7],[2,7,4],[5,7],[6]],[[0],[1],[2],[3],[4],[5],[6],[7],[8],[9,1]]];have fj:=dd g.ids;have dJ:=jE g.ops;have ea:=HM g.ids aw.ids aw.li;have M6:=kp g.ids;simp[cH,bR];refine a4 ea (by simp[a5,U.closed,fj]) ?_;simp;refine aby g.ops aw.cJ (fun aD=>?_) (fun a aC=>?_)
 ·simp[M6,a8];refine cl 0 (fun k σ l=>l=[aV.cells 2 [aB g.ids,bx g.ops],aV.cells 2 [.aH,.aH],aV.cells 2 [aB g.ids,.aH]]/\σ 2=.ptr 1 0 2/\σ 3=.ptr 2 0 2/\σ 14=.int .i64 0/\σ 15=.int .i64 k) ?_ ⟨rfl,by simp,by simp,by simp,by simp⟩;rintro k σ l ar ⟨rfl,aU,a1,CK,tW⟩;obtain⟨σ,rfl⟩:=iE aU a1 CK tW;clear aU a1 CK tW;have:k=0:=by omega
  subst this;simp[M6,a8,aD];have:cH g=.aF [aB g.ids,.aH] :=by unfold cH bR; rw[aD]; rfl
  exact aQ this.symm (su g)
 ·simp[M6,a8];have hb:a.length<=1000000:=by have:=aw.cJ; rw[aC] at this; exact this
  have Gz:∀ o∈a,iY o:=fun o au=>aw.ops o (by rw[aC]; exact au)
  have hp:=SD a;have ax:∀ e∈a.map a3,e.length=11:=fun e am=>by obtain⟨y,_,rfl⟩:=auR.1 am; rfl
  refine cl a.length (fun k σ l=>l=[aV.cells 2 [aB g.ids,bx g.ops],aV.cells 2 [.aH,.aH],aV.cells 2 [aB g.ids,U.aq 11 3 0 a.length a.length (a.length*11)],aV.cells (a.length*11) (a.map a3).flatten]/\σ 2=.ptr 1 0 2/\σ 3=.ptr 2 0 2/\σ 14=.int .i64 a.length/\σ 15=.int .i64 k) ?_ ⟨rfl,by simp,by simp,by simp,by simp⟩;rintro k σ l ar ⟨rfl,aU,a1,CK,tW⟩;obtain⟨σ,rfl⟩:=iE aU a1 CK tW;clear aU a1 CK tW;have aP:IntKind.i64.wrap ((k:Int)+1)=((k+1:Nat) :Int) :=by rw[IntKind.wrap_i64]; omega
  by_cases bv:k<a.length
  ·obtain⟨o,au,en⟩:=bI bv;have lV:=Gz o en;have i6:=dd o.bi;have aew:=HM o.bi lV.ids lV.len;have Ly:(a.map a3)[k]? = some (a3 o) :=by rw[auq,au]; rfl
   have Lc:(a.map a3).flatten[k*11+1]? = some (aB o.bi) :=z9 ax Ly (by omega);have rF:a8 (a.map a3).flatten (k*11+1) [aB o.bi]=(a.map a3).flatten:=by
    rw[acV ax Ly (show 1+[aB o.bi].length<=11 by simp)];rw[WG o];congr 1;exact avf fun j=>by
     by_cases e:k=j
     ·subst e; rw[auz (by simpa using bv),Ly]
     ·rw[auy e]
   have mp:=kp o.bi;simp[bv,Lc];refine a4 aew (by simp[a5,i6]) ?_;simp[rF,mp,aP];exact⟨bv,by omega,bv⟩
  ·have dK:k=a.length:=by omega
   subst dK;simp[a8];exact XB (.same _ fj) ((Bl (enc:=a3) (z:=11) (b:=3) (n:=a.length) (a:=a) (fun _ _=>rfl) rfl (by rfl)).q.u5 kM g.ops (by rw[aC]; rfl) (by rw[aC]; rfl))
def fJ (bG:List Nat) (i:Nat) :Nat:=bG.getD i 0
theorem Ic {bG:List Nat} {i n:Nat} (h:bG[i]? = some n) :fJ bG i=n:=by unfold fJ; rw[auB,h]; rfl
theorem EB {bG:List Nat} {i j n:Nat} (ai:j<bG.length) :fJ (bG.set j n) i=if i=j then n else fJ bG i:=by
 by_cases h:i=j
 ·subst h; rw[if_pos rfl]; exact Ic (auz ai)
 ·rw[if_neg h]; unfold fJ; rw[auB,auB,auy (fun e=>h e.symm)]
def qH:List Nat->Nat
 | []=>0
 | a::l=>a+qH l
theorem YJ:∀ {l:List Nat} {j:Nat},j<l.length->qH (l.set j (fJ l j+1))=qH l+1
 | a::l,0,_=>by show (a+1)+qH l=a+qH l+1; omega
 | a::l,j+1,h=>by
  have:=YJ (l:=l) (j:=j) (by simpa using h);show a+qH (l.set j (fJ l j+1))=a+qH l+1;omega
theorem YI {c:Nat}:∀ {l:List Nat},(∀ i,i<l.length->fJ l i<=c)->qH l<=c*l.length
 | [],_=>by simp[qH]
 | a::l,h=>by
  have ad:=YI (c:=c) (l:=l) fun i ay=>h (i+1) (by simpa using ay)
  have ae:a<=c:=h 0 (by simp);show a+qH l<=c*(l.length+1)
  rw[Nat.mul_succ]; omega
theorem ams (n:Nat) :qH (List.replicate n 0)=0:=by
 induction n with
 | zero=>rfl
 | succ n aR=>rw[avc]; show 0+_=0; omega
theorem Wy (n i:Nat) :fJ (List.replicate n 0) i=0:=by
 unfold fJ; rw[auB,axk]; split<;>rfl
def ii (ps:List bp) (bG:List Nat) (i:Nat) :List B:=b1 (g8 ps i).ids.l (fJ bG i)
def my (ps:List bp) (bG:List Nat) (i:Nat) (r:Option Nat) :Option Nat:=
 if fJ bG i<(g8 ps i).ids.l.length then (match r with | none=>some i | some j=>if cg (ii ps bG i) (ii ps bG j)<0 then some i else some j) else r
def nS (ps:List bp) (bG:List Nat) :Nat->Option Nat
 | 0=>none
 | i+1=>my ps bG i (nS ps bG i)
theorem Wb (ps:List bp) (bG:List Nat) (i:Nat) (r:Option Nat) :(¬ fJ bG i<(g8 ps i).ids.l.length/\my ps bG i r=r)\/(fJ bG i<(g8 ps i).ids.l.length/\((r=none/\my ps bG i r=some i)\/∃ j,r=some j/\((cg (ii ps bG i) (ii ps bG j)<0/\my ps bG i r=some i)\/(¬ cg (ii ps bG i) (ii ps bG j)<0/\my ps bG i r=some j)))) :=by
 unfold my;by_cases h:fJ bG i<(g8 ps i).ids.l.length
 ·rw[if_pos h];right; refine⟨h,?_⟩;cases r with
  | none=>exact .inl ⟨rfl,rfl⟩
  | some j=>
   right; refine⟨j,rfl,?_⟩;by_cases ae:cg (ii ps bG i) (ii ps bG j)<0
   ·left; exact⟨ae,by simp[ae]⟩
   ·right; exact⟨ae,by simp[ae]⟩
 ·rw[if_neg h]; exact .inl ⟨h,rfl⟩
theorem M0 {ps:List bp} {bG:List Nat}:∀ {k:Nat},nS ps bG k=none->∀ i,i<k->¬ fJ bG i<(g8 ps i).ids.l.length
 | 0,_,i,ay=>by omega
 | k+1,h,i,ay=>by
  change my ps bG k (nS ps bG k)=none at h;rcases Wb ps bG k (nS ps bG k) with ⟨ad,ae⟩ | ⟨_,⟨_,ae⟩ | ⟨j,_,⟨_,ae⟩ | ⟨_,ae⟩⟩⟩
  ·by_cases e:i=k
   ·subst e; exact ad
   ·exact M0 (by rw[<-ae]; exact h) i (by omega)
  all_goals rw[ae] at h; cases h
theorem Bc {ps:List bp} {bG:List Nat}:∀ {k j:Nat},nS ps bG k=some j->j<k/\fJ bG j<(g8 ps j).ids.l.length/\∀ i,i<k->fJ bG i<(g8 ps i).ids.l.length->cg (ii ps bG j) (ii ps bG i)<=0
 | 0,j,h=>by cases h
 | k+1,j,h=>by
  change my ps bG k (nS ps bG k)=some j at h;rcases Wb ps bG k (nS ps bG k) with ⟨ad,ae⟩ | ⟨ad,⟨aj,ae⟩ | ⟨m,aj,⟨aG,ae⟩ | ⟨aG,ae⟩⟩⟩
  ·rw[ae] at h;obtain⟨a,b,c⟩:=Bc h;exact⟨by omega,b,fun i ay al=>by
    by_cases e:i=k
    ·subst e; exact absurd al ad
    ·exact c i (by omega) al⟩
  ·rw[ae] at h; obtain rfl:=Option.some.inj h;exact⟨by omega,ad,fun i ay al=>by
    by_cases e:i=k
    ·subst e; rw[q7]; exact Int.le_refl _
    ·exact absurd al (M0 aj i (by omega))⟩
  ·rw[ae] at h; obtain rfl:=Option.some.inj h;obtain⟨a,b,c⟩:=Bc aj;exact⟨by omega,ad,fun i ay al=>by
    by_cases e:i=k
    ·subst e; rw[q7]; exact Int.le_refl _
    ·have ah:=c i (by omega) al;by_cases ax:cg (ii ps bG m) (ii ps bG i)=0
     ·rw[<-zX ax]; omega
     ·have:=zY _ _ _ aG (show cg (ii ps bG m) (ii ps bG i)<0 by omega);omega⟩
  ·rw[ae] at h; obtain rfl:=Option.some.inj h;obtain⟨a,b,c⟩:=Bc aj;exact⟨by omega,b,fun i ay al=>by
    by_cases e:i=k
    ·subst e; have:=Cp (ii ps bG i) (ii ps bG m); omega
    ·exact c i (by omega) al⟩
structure vm (ps:List bp) :Prop where
 len:∀ p∈ps,p.ids.l.length=p.ops.l.length
 di:∀ p∈ps,di p.ids.l=true
 Sd:∀ (i j:Nat) (x:List B) (p q:bp),ps[i]? = some p->ps[j]? = some q->x∈p.ids.l->x∈q.ids.l->i=j
structure xF (ps:List bp) (bG:List Nat) (O:List (List B × br)) :Prop where
 nl:bG.length=ps.length
 le:∀ (i:Nat) (p:bp),ps[i]? = some p->fJ bG i<=p.ids.l.length
 Yn:O.Pairwise fun a b=>ib a.1 b.1=true
 Wl:∀ q,q∈O<->∃ (i:Nat) (p:bp) (a:Nat),ps[i]? = some p/\a<fJ bG i/\p.ids.l[a]? = some q.1/\p.ops.l[a]? = some q.2
 ay:∀ q∈O,∀ (i:Nat) (p:bp) (a:Nat) (x:List B),ps[i]? = some p->fJ bG i<=a->p.ids.l[a]? = some x->ib q.1 x=true
 fM:qH bG=O.length
theorem ai7 (ps:List bp) :xF ps (List.replicate ps.length 0) [] :=
 ⟨by simp,fun i p _=>by rw[Wy]; exact avu _,.nil,fun q=>⟨fun h=>(by cases h),fun ⟨i,p,a,_,h,_⟩=>by rw[Wy] at h; omega⟩,fun q a7=>(by cases a7),by rw[ams]; rfl⟩
theorem ai5 {ps:List bp} {bG:List Nat} {O:List (List B × br)} (h:xF ps bG O) {c:Nat} (ah:∀ p∈ps,p.ids.l.length<=c) :O.length<=c*ps.length:=by
 rw[<-h.fM,<-h.nl];refine YI fun i ay=>?_
 obtain⟨p,av,gS⟩:=bI (l:=ps) (k:=i) (by rw[<-h.nl]; exact ay);exact au7 (h.le i p av) (ah p gS)
theorem ai6 {ps:List bp} (W:vm ps) {bG:List Nat} {O:List (List B × br)} (h:xF ps bG O) {j:Nat} (ai:nS ps bG ps.length=some j) {p:bp} (av:ps[j]? = some p) {x:List B} {o:br} (af:p.ids.l[fJ bG j]? = some x) (au:p.ops.l[fJ bG j]? = some o) :
  xF ps (bG.set j (fJ bG j+1)) (O++[(x,o)]) :=by
 obtain⟨ad,ae,aj⟩:=Bc ai;have gS:=aut av;have eK:j<bG.length:=by rw[h.nl]; exact ad
 rw[h5 av] at ae;have m1:ii ps bG j=x:=by unfold ii; rw[h5 av,gi af]
 have GY:∀ i,i<ps.length->fJ bG i<=fJ (bG.set j (fJ bG j+1)) i:=fun i _=>by rw[EB eK]; split<;>simp_all
 refine⟨by rw[List.length_set]; exact h.nl,fun i q a7=>?_,?_,fun q=>?_,fun q a7 i r a y az aC aJ=>?_,?_⟩
 ·rw[EB eK];split
  ·rename_i e; subst e; rw[av] at a7; obtain rfl:=Option.some.inj a7; omega
  ·exact h.le i q a7
 ·rw[awT];refine⟨h.Yn,axl _ _,fun a aC b ag=>?_⟩;rw[avk.1 ag];exact h.ay a aC j p _ x av (aun _) af
 ·rw[avi,h.Wl,avk];constructor
  ·rintro (⟨i,r,a,q1,cV,fy⟩ | e)
   ·exact⟨i,r,a,q1,avU cV (GY i (auk.1 q1).1),fy⟩
   ·subst e; exact⟨j,p,fJ bG j,av,by rw[EB eK,if_pos rfl]; omega,af,au⟩
  ·rintro⟨i,r,a,q1,cV,fy,pz⟩;rw[EB eK] at cV;split at cV
   ·rename_i e; subst e;rw[av] at q1; obtain rfl:=Option.some.inj q1;by_cases e:a=fJ bG i
    ·right;rw[e,af] at fy; rw[e,au] at pz;rw[Option.some.inj fy,Option.some.inj pz]
    ·exact .inl ⟨i,p,a,av,by omega,fy,pz⟩
   ·exact .inl ⟨i,r,a,q1,cV,fy,pz⟩
 ·have m2:fJ bG i<=a:=au7 (GY i (auk.1 az).1) aC;rcases avi.1 a7 with a7 | a7
  ·exact h.ay q a7 i r a y az m2 aJ
  ·rw[avk.1 a7];by_cases e:i=j
   ·subst e;rw[av] at az; obtain rfl:=Option.some.inj az;rw[EB eK,if_pos rfl] at aC;exact (nT _ _).2 (qD (W.di p gS) (show fJ bG i<a by omega) af aJ)
   ·have wk:=aut az;have hb:=(auk.1 aJ).1;obtain⟨z,ax,AZ⟩:=bI (l:=r.ids.l) (k:=fJ bG i) (by omega);have aG:=aj i (auk.1 az).1 (by rw[h5 az]; omega);have fj:ii ps bG i=z:=by unfold ii; rw[h5 az,gi ax]
    rw[m1,fj] at aG;have bP:cg x z≠0:=fun fu=>e (by
     have:=zX fu;subst this;exact W.Sd i j x r p az av AZ (aut af))
    have aL:ib x z=true:=(nT _ _).2 (by omega);by_cases q9:a=fJ bG i
    ·rw[q9,ax] at aJ; rw[<-Option.some.inj aJ]; exact aL
    ·exact H2 _ _ _ aL ((nT _ _).2 (qD (W.di r wk) (show fJ bG i<a by omega) ax aJ))
 ·rw[YJ eK,h.fM,auu]; rfl
theorem ai3 {ps:List bp} {bG:List Nat} {O:List (List B × br)} (h:xF ps bG O) (aD:nS ps bG ps.length=none) (q:List B × br) :q∈O<->∃ p∈ps,∃ a:Nat,p.ids.l[a]? = some q.1/\p.ops.l[a]? = some q.2:=by
 rw[h.Wl];constructor
 ·rintro⟨i,p,a,ad,_,ae,aj⟩; exact⟨p,aut ad,a,ae,aj⟩
 ·rintro⟨p,av,a,ae,aj⟩;obtain⟨i,ay⟩:=aur.1 av;have:=M0 aD i (auk.1 ay).1;rw[h5 ay] at this;have:=(auk.1 ae).1;exact⟨i,p,a,ay,by omega,ae,aj⟩
theorem Xd {l m:List (List B × br)} (al:l.Pairwise fun a b=>ib a.1 b.1=true) (hm:m.Pairwise fun a b=>ib a.1 b.1=true) (h:∀ q,q∈l<->q∈m) :l=m:=
 Yp (lt:=fun a b:List B × br=>ib a.1 b.1) (fun a=>Wc a.1) (fun a b c=>H2 a.1 b.1 c.1) al hm h
theorem PH {p:bp} (al:p.ids.l.length=p.ops.l.length) (az:di p.ids.l=true) {x:List B} {o:br}:la p x=some o<->∃ a:Nat,p.ids.l[a]? = some x/\p.ops.l[a]? = some o:=by
 constructor
 ·intro h;unfold la at h;split at h
  ·rename_i ah;obtain⟨a,aC⟩:=aur.1 ((uL x p.ids.l 0).1 ah.1);rw[Ef (qs az) aC,auS] at h;exact⟨a,aC,h⟩
  ·cases h
 ·rintro⟨a,aC,au⟩;unfold la;have:=(auk.1 au).1;rw[Ef (qs az) aC,if_pos ⟨by omega,by omega⟩,auS]; exact au
theorem PG {p:bp} {x:List B} {o:br} (h:la p x=some o) :x∈p.ids.l:=by
 unfold la at h;split at h
 ·rename_i ah; exact (uL x p.ids.l 0).1 ah.1
 ·cases h
theorem Zx {ps:List bp} (W:vm ps) {x:List B}:∀ {k:Nat},k<=ps.length->(iv ps x k).Pairwise fun a b=>ib a.1 b.1=true
 | 0,_=>.nil
 | k+1,ar=>by
  obtain⟨p,av,_⟩:=bI (l:=ps) (k:=k) (by omega);have aR:=Zx W (x:=x) (k:=k) (by omega);show (iv ps x k++(match la (g8 ps k) x with | some o=>[(x,o)] | none=>[])).Pairwise _;rw[h5 av];cases aC:la p x with
  | none=>simpa using aR
  | some o=>
   have:iv ps x k=[] :=List.eq_nil_iff_forall_not_mem.2 fun q a7=>by
    obtain⟨j,r,ad,ae,aj,aG⟩:=(Jd (by omega)).1 a7;have:=W.Sd j k x r p ae av (PG aj) (PG aC);omega
   rw[this];exact axl _ _
theorem Zv {ps:List bp} (W:vm ps) {ids:List (List B)} (az:di ids=true) :∀ {i:Nat},i<=ids.length->(jV ps ids i).Pairwise fun a b=>ib a.1 b.1=true
 | 0,_=>.nil
 | i+1,ay=>by
  obtain⟨x,af,_⟩:=bI (l:=ids) (k:=i) (by omega);show (jV ps ids i++iv ps (b1 ids i) ps.length).Pairwise _;rw[gi af,awT];refine⟨Zv W az (by omega),Zx W (aun _),fun a aC b ag=>?_⟩;obtain⟨m,ad,ae,_⟩:=(Jc (by omega)).1 aC;obtain⟨j,p,_,_,_,aG⟩:=(Jd (aun _)).1 ag;rw[aG];exact (nT _ _).2 (qD az ad ae af)
theorem Zr {s:eI} (W:vm s.parts.l) :(et s).Pairwise fun a b=>ib a.1 b.1=true:=Zv W (amh _) (aun _)
theorem OO {s:eI} (W:vm s.parts.l) (q:List B × br) :q∈et s<->∃ p∈s.parts.l,∃ a:Nat,p.ids.l[a]? = some q.1/\p.ops.l[a]? = some q.2:=by
 unfold et;rw[Jc (aun _)];constructor
 ·rintro⟨a,_,_,p,av,h⟩;exact⟨p,av,(PH (W.len p av) (W.di p av)).1 h⟩
 ·rintro⟨p,av,a,ad,ae⟩;have:q.1∈hy s:=by
   unfold hy;obtain⟨j,ai⟩:=aur.1 av;rw[Ys,JE (aun _)];exact⟨j,p,(auk.1 ai).1,ai,aut ad⟩
  obtain⟨m,hm⟩:=aur.1 this;exact⟨m,(auk.1 hm).1,hm,p,av,(PH (W.len p av) (W.di p av)).2 ⟨a,ad,ae⟩⟩
theorem ai4 {s:eI} (W:vm s.parts.l) {bG:List Nat} {O:List (List B × br)} (h:xF s.parts.l bG O) (aD:nS s.parts.l bG s.parts.l.length=none) :O=et s:=
 Xd h.Yn (Zr W) fun q=>by rw[ai3 h aD,OO W]
def xx (ps:List bp) :Bool:=decide (∀ p∈ps,p.ids.l.length=p.ops.l.length/\di p.ids.l=true)
theorem BQ {ps:List bp}:xx ps=true<->∀ p∈ps,p.ids.l.length=p.ops.l.length/\di p.ids.l=true:=decide_eq_true_iff
def wO (ps:List bp) :Bool:=decide (∀ i,i<ps.length->∀ x∈(g8 ps i).ids.l,num x ps.length=i)
theorem Wu {ps:List bp} (h:wO ps=true) (i j:Nat) (x:List B) (p q:bp) (av:ps[i]? = some p) (a7:ps[j]? = some q) (af:x∈p.ids.l) (aJ:x∈q.ids.l) :i=j:=by
 unfold wO at h;rw[decide_eq_true_eq] at h;have ad:=h i (auk.1 av).1 x (by rw[h5 av]; exact af);have ae:=h j (auk.1 a7).1 x (by rw[h5 a7]; exact aJ);omega
theorem rL {s:dv} {k:Nat} {x:List B} (h:s.l[k]? = some x) :cL (.aq 32) (aB s) (.int .i64 (k:Int))=some (.bM (aY x) 0) :=by simp[aB,h]
theorem Mn {s:db br} {k:Nat} {x:br} (h:s.l[k]? = some x) :cL (.aq 11) (bx s) (.int .i64 (k:Int))=some (.bM (a3 x) 0) :=by simp[bx,h]
theorem aiJ {ps:List bp} {bG:List Nat} {i:Nat} {r:Option Nat} (h:¬ fJ bG i<(g8 ps i).ids.l.length) :my ps bG i r=r:=by unfold my; rw[if_neg h]
theorem aiG {ps:List bp} {bG:List Nat} {i:Nat} (h:fJ bG i<(g8 ps i).ids.l.length) :my ps bG i none=some i:=by unfold my; rw[if_pos h]
theorem aiI {ps:List bp} {bG:List Nat} {i j:Nat} (h:fJ bG i<(g8 ps i).ids.l.length) (ae:cg (ii ps bG i) (ii ps bG j)<0) :my ps bG i (some j)=some i:=by unfold my; rw[if_pos h]; simp[ae]
theorem aiH {ps:List bp} {bG:List Nat} {i j:Nat} (h:fJ bG i<(g8 ps i).ids.l.length) (ae:¬ cg (ii ps bG i) (ii ps bG j)<0) :my ps bG i (some j)=some j:=by unfold my; rw[if_pos h]; simp[ae]
def Ev:Option Nat->Int
 | none=>-1
 | some j=>j
def nA (bG:List Nat) :List U:=bG.map fun (n:Nat)=>U.int .i64 (n:Int)
structure BW (s:eI) (bL w2:U) (bG:List Nat) (l:ao) :Prop where
 cy:l[0]? = some (.cells 3 (dN s))
 q1:l[1]? = some (.cells 2 [.aH,.aH])
 cV:l[2]? = some (.cells 2 [bL,w2])
 fy:l[3]? = some (.cells s.parts.l.length (nA bG))
structure Fv (s:eI) (σ:bc) :Prop where
 aK:σ 1=.ptr 0 0 3
 aU:σ 2=.ptr 1 0 2
 a1:σ 3=.bool false
 bl:σ 4=.ptr 2 0 2
 bo:σ 5=.aq 1 3 0 s.parts.l.length s.parts.l.length s.parts.l.length
def y0 (s:eI) :U:=if xx s.parts.l=true then .bt [cH (dy (et s)),.bool true] else .bt [cH ⟨none,none⟩,.bool false]
set_option maxHeartbeats 16000000 in
theorem ai1 (s:eI) (ak:nm s) (bf:∀ (i j:Nat) (x:List B) (p q:bp),s.parts.l[i]? = some p->s.parts.l[j]? = some q->x∈p.ids.l->x∈q.ids.l->i=j) :bz Tryz.prog GS 176 [.aF (dN s)] (y0 s) :=by
 refine bX Tryz.checked.mixed bn ?_;apply bq Tryz.func176 [[],[],[[0],[1],[2],[3],[4],[5],[6],[7],[8],[9],[10],[11],[12],[13],[14],[16],[17],[18],[19],[20],[21],[22],[23],[24],[25],[26],[27],[28],[29],[30],[15,30,29,27,23,19,17],[32],[31]]];have az:cw=140737488355328:=rfl;have gb:=yU s.parts;have UA:=ak.wP;have bS:(dN s).length=3:=rfl;have fO:∀ h,(dN s)[0]'h=kr s.parts:=fun _=>rfl
 obtain⟨a2,a9⟩:=Ew (z:=1) (by_:=8) (n:=s.parts.l.length) (k:=.i64) (k':=.i64) (zero:=[U.int .i64 0]) (l:=[.cells 3 (dN s),.cells 2 [.aH,.aH],.cells 2 [.aH,.aH]]) rfl (by omega) (by rw[az]; omega);simp only[avX] at a2 a9;simp[bS,fO,gb] at a2 ⊢;simp[a2,fO,bS,gb];have UP:dC [U.int .i64 0] s.parts.l.length=nA (List.replicate s.parts.l.length 0) :=by
  rw[EU]; unfold nA; rw[awE];generalize s.parts.l.length=n
  induction n with
  | zero=>rfl
  | succ n aR=>rw[avc,avc,au9,aR]; rfl
 rw[UP];have ik:xx s.parts.l=false->y0 s=.bt [.aF [.aH,.aH],.bool false] :=fun h=>by unfold y0; rw[h]; rfl
 refine cl s.parts.l.length (fun i σ l=>Fv s σ/\σ 17=kr s.parts/\σ 18=.int .i64 s.parts.l.length/\σ 19=.int .i64 i/\BW s .aH .aH (List.replicate s.parts.l.length 0) l/\∀ (j:Nat) (p:bp),j<i->s.parts.l[j]? = some p->p.ids.l.length=p.ops.l.length/\di p.ids.l=true) ?_ ⟨⟨by simp,by simp,by simp,by simp,by simp⟩,by simp,by simp,by simp,⟨rfl,rfl,rfl,rfl⟩,fun j _ ai=>by omega⟩;rintro i σ l ay ⟨⟨aK,aU,a1,bl,bo⟩,p4,nD,p5,hQ,j3⟩;obtain⟨σ,rfl⟩:=Y6 aK aU a1 bl bo p4 nD p5;clear aK aU a1 bl bo p4 nD p5;have aP:IntKind.i64.wrap ((i:Int)+1)=((i+1:Nat) :Int) :=by rw[IntKind.wrap_i64]; omega
 by_cases dH:i<s.parts.l.length
 ·obtain⟨p,av,gS⟩:=bI dH;obtain⟨hD,LN,LO⟩:=ak.parts p gS;have bY:=sW av;have lk:∀ h,(bR p)[0]'h=aB p.ids:=fun _=>rfl
  have pa:∀ h,(bR p)[1]'h=bx p.ops:=fun _=>rfl
  have jJ:(bR p).length=2:=rfl;have ui:(bR p).take 2=bR p:=rfl;have dp:ce (.aq 32) (aB p.ids)=some (.int .i64 p.ids.l.length) :=by simp[aB]
  have cM:ce (.aq 11) (bx p.ops)=some (.int .i64 p.ops.l.length) :=by simp[bx]
  have w2:∀ lK:aV,(l++[lK])[2]? = some (.cells 2 [.aH,.aH]) :=fun lK=>by rw[aum (b6 hQ.cV)]; exact hQ.cV
  have bL:∀ lK:aV,(l++[lK])[1]? = some (.cells 2 [.aH,.aH]) :=fun lK=>by rw[aum (b6 hQ.q1)]; exact hQ.q1
  have fU:(l++[aV.cells 2 (bR p)])[l.length]? = some (.cells 2 (bR p)) :=avo;have adQ:∀ c:aV,BW s .aH .aH (List.replicate s.parts.l.length 0) (l++[c]) :=fun c=>⟨by rw[aum (b6 hQ.cy)]; exact hQ.cy,bL c,w2 c,by rw[aum (b6 hQ.fy)]; exact hQ.fy⟩
  have cY:∀ c c' : aV,((l++[c]).set 1 c')[1]? = some c':=fun c c'=>auz (by rw[auu]; have:=b6 hQ.q1; omega)
  have yK:a8 [U.aH,.aH] 0 (bR p)=bR p:=gq rfl;simp[dH,bY,lk,pa,jJ,ui,yK,dp,cM];by_cases ad:p.ids.l.length=p.ops.l.length
  ·simp[ad];obtain⟨L,dA⟩:∃ L,L=l++[aV.cells 2 (bR p)] :=⟨_,rfl⟩
   have C6:=adQ (aV.cells 2 (bR p));have Zh:=bL (aV.cells 2 (bR p));have Zi:=w2 (aV.cells 2 (bR p));have zg:=cY (aV.cells 2 (bR p));rw[<-dA] at C6 fU Zh Zi zg ⊢;refine cl p.ids.l.length (fun m σ l'=>l'=L/\Fv s σ/\σ 7=.ptr l.length 0 2/\σ 8=.int .i64 (m+1:Nat)/\σ 17=kr s.parts/\σ 18=.int .i64 s.parts.l.length/\σ 19=.int .i64 i/\∀ k,k<p.ids.l.length->1<=k->k<m+1->cg (b1 p.ids.l (k - 1)) (b1 p.ids.l k)<0) ?_ ⟨rfl,⟨by simp,by simp,by simp,by simp,by simp⟩,by simp,by simp,by simp,by simp,by simp,fun k _ _ _=>by omega⟩;rintro m σ l' hm ⟨rfl,⟨aK,aU,a1,bl,bo⟩,dU,e4,p4,nD,p5,UY⟩;obtain⟨σ,rfl⟩:=am5 aK aU a1 bl bo dU e4 p4 nD p5;clear aK aU a1 bl bo dU e4 p4 nD p5;have bw:IntKind.i64.wrap (((m+1:Nat) :Int)+1)=((m+1+1:Nat) :Int) :=by rw[IntKind.wrap_i64]; omega
   have e3:IntKind.i64.wrap (((m+1:Nat) :Int) - 1)=(m:Int) :=by rw[IntKind.wrap_i64]; omega
   by_cases j6:m+1<p.ids.l.length
   ·obtain⟨x,af,cT⟩:=bI (l:=p.ids.l) (k:=m) (by omega);obtain⟨y,aJ,eL⟩:=bI (l:=p.ids.l) (k:=m+1) (by omega);have rv:((m+1:Nat) :Int)<p.ids.l.length:=by omega
    have eW:=hD.ids x cT;have wr:=hD.ids y eL;have bd:=c2 eW;have fI:=c2 wr;have eX:=fE x;have kX:=fE y;have ds:cL (.aq 32) (aB p.ids) (.int .i64 (m:Int))=some (.bM (aY x) 0) :=by simp[aB,af]
    have lp:=rL aJ;have fp:=vN x y eW wr;change bz Tryz.prog GS _ [.aF (aY x),.aF (aY y)] _ at fp;obtain⟨X,cn⟩:∃ X,X=aY x:=⟨_,rfl⟩
    obtain⟨Y,fY⟩:∃ Y,Y=aY y:=⟨_,rfl⟩
    rw[<-cn] at bd eX ds fp;rw[<-fY] at fI kX lp fp;obtain⟨M,gD⟩:∃ M:Int,M=((m+1:Nat) :Int) :=⟨_,rfl⟩
    rw[<-gD] at bw e3 rv lp ⊢;simp[fU,jJ,lk,dp,rv,e3,ds,lp,bd,fI,aul];refine a4 fp (by simp[a5,U.closed,eX,kX]) ?_;by_cases aL:cg x y<0
    ·have:¬ 0<=cg x y:=by omega
     simp[this,bw];refine⟨by omega,⟨by simp,by simp,by simp,by simp,by simp⟩,fun k ad ae aj=>?_⟩;by_cases ar:k=m+1
     ·subst ar; rw[show m+1 - 1=m by omega,af,aJ]; exact aL
     ·exact UY k ad ae (by omega)
    ·have aI:0<=cg x y:=by omega
     have aX:xx s.parts.l=false:=decide_eq_false fun h=>aL (by
      have:=qD (h p gS).2 (show m<m+1 by omega) af aJ;exact this)
     rw[ik aX];simp[aI,Zi,Zh,zg,a8];exact aQ rfl rfl
   ·have rv:¬ ((m+1:Nat) :Int)<p.ids.l.length:=by omega
    obtain⟨M,gD⟩:∃ M:Int,M=((m+1:Nat) :Int) :=⟨_,rfl⟩
    rw[<-gD] at bw e3 rv ⊢;simp[fU,jJ,lk,dp,rv,aP];refine⟨dH,⟨by simp,by simp,by simp,by simp,by simp⟩,C6,fun j q ai a7=>?_⟩;by_cases jL:j=i
    ·subst jL;rw[av] at a7; obtain rfl:=Option.some.inj a7;exact⟨ad,IG fun k ad ae=>UY k ad ae (by omega)⟩
    ·exact j3 j q (by omega) a7
  ·have aX:xx s.parts.l=false:=decide_eq_false fun h=>ad (h p gS).1
   have ef:¬ (p.ids.l.length:Int)=p.ops.l.length:=by omega
   rw[ik aX];simp[ad,ef,w2,bL,cY,a8];exact aQ rfl rfl
 ·have cQ:i=s.parts.l.length:=by omega
  subst cQ;have aX:xx s.parts.l=true:=BQ.2 fun p av=>by
   obtain⟨j,ai⟩:=aur.1 av;exact j3 j p (auk.1 ai).1 ai
  have W:vm s.parts.l:=⟨fun p av=>(BQ.1 aX p av).1,fun p av=>(BQ.1 aX p av).2,bf⟩
  have sJ:y0 s=.bt [cH (dy (et s)),.bool true] :=by unfold y0; rw[aX]; rfl
  rw[sJ];clear j3 ik sJ ay dH aP a9 a2 UP;simp;refine cl 100000 (fun k σ l=>Fv s σ/\∃ bG O bL w2 eN eE,BW s bL w2 bG l/\hk l bL w2 eN eE 4 (O.map (·.1)) (O.map (·.2))/\xF s.parts.l bG O/\O.length=k) ?_ ⟨⟨by simp,by simp,by simp,by simp,by simp⟩,List.replicate s.parts.l.length 0,[],.aH,.aH,0,0,hQ,by simpa using Ii _ 4,ai7 _,rfl⟩;clear hQ;rintro k σ l ar ⟨⟨aK,aU,a1,bl,bo⟩,bG,O,bL,w2,eN,eE,hQ,hs,gD,aft⟩;obtain⟨σ,rfl⟩:=lC aK aU a1 bl bo;clear aK aU a1 bl bo;have mY:O.length<=1000:=by have:=ai5 gD (c:=100) (fun p av=>(ak.parts p av).2.1); omega
  have cy:=hQ.cy;simp[cy,bS,fO,gb];refine cl s.parts.l.length (fun i σ l=>Fv s σ/\σ 9=.int .i64 (Ev (nS s.parts.l bG i))/\σ 54=kr s.parts/\σ 55=.int .i64 s.parts.l.length/\σ 56=.int .i64 i/\BW s bL w2 bG l/\hk l bL w2 eN eE 4 (O.map (·.1)) (O.map (·.2))) ?_ ⟨⟨by simp,by simp,by simp,by simp,by simp⟩,by simp; rfl,by simp,by simp,by simp,hQ,hs⟩;clear hQ hs cy;rintro i σ l ay ⟨⟨aK,aU,a1,bl,bo⟩,gZ,CR,CS,SZ,hQ,hs⟩;obtain⟨σ,rfl⟩:=Y7 aK aU a1 bl bo gZ CR CS SZ;clear aK aU a1 bl bo gZ CR CS SZ;have aP:IntKind.i64.wrap ((i:Int)+1)=((i+1:Nat) :Int) :=by rw[IntKind.wrap_i64]; omega
  by_cases dH:i<s.parts.l.length
  ·obtain⟨p,av,gS⟩:=bI dH;obtain⟨hD,LN,LO⟩:=ak.parts p gS;have bY:=sW av;have lk:∀ h,(bR p)[0]'h=aB p.ids:=fun _=>rfl
   have pa:∀ h,(bR p)[1]'h=bx p.ops:=fun _=>rfl
   have jJ:(bR p).length=2:=rfl;have ui:(bR p).take 2=bR p:=rfl;have dp:ce (.aq 32) (aB p.ids)=some (.int .i64 p.ids.l.length) :=by simp[aB]
   have yK:a8 [U.aH,.aH] 0 (bR p)=bR p:=gq rfl;obtain⟨L,dA⟩:∃ L,L=l++[aV.cells 2 (bR p)] :=⟨_,rfl⟩
   have wp:L[l.length]? = some (.cells 2 (bR p)) :=by rw[dA]; exact avo
   have Ao:BW s bL w2 bG L:=by
    rw[dA];exact⟨by rw[aum (b6 hQ.cy)]; exact hQ.cy,by rw[aum (b6 hQ.q1)]; exact hQ.q1,by rw[aum (b6 hQ.cV)]; exact hQ.cV,by rw[aum (b6 hQ.fy)]; exact hQ.fy⟩
   have mu:hk L bL w2 eN eE 4 (O.map (·.1)) (O.map (·.2)) :=by rw[dA]; exact hs.frame fun b _ ag=>aum ag
   have kR:=gD.nl;obtain⟨a,aC⟩:∃ a,bG[i]? = some a:=⟨_,auo (by rw[kR]; exact dH)⟩
   have sM:=Ic aC;have dO:=gD.le i p av;rw[sM] at dO;have Lb:(nA bG)[i]? = some (.int .i64 (a:Int)) :=by unfold nA; rw[auq,aC]; rfl
   have fy:=Ao.fy;have lo:=h5 av;have jk:nS s.parts.l bG (i+1)=my s.parts.l bG i (nS s.parts.l bG i) :=rfl;by_cases hb:a<p.ids.l.length
   ·have Dd:fJ bG i<(g8 s.parts.l i).ids.l.length:=by rw[sM,lo]; exact hb
    obtain⟨x,af,cT⟩:=bI hb;have lP:ii s.parts.l bG i=x:=by unfold ii; rw[lo,sM,gi af]
    cases aT:nS s.parts.l bG i with
    | none=>
     rw[aT,aiG Dd] at jk;have ap:Ev none=-1:=rfl;rw[ap];simp[dH,bY,jJ,ui,yK,<-dA,wp,fy,lk,dp,Lb,hb,aP];exact⟨⟨by simp,by simp,by simp,by simp,by simp⟩,by rw[jk]; rfl,Ao,mu⟩
    | some j=>
     rw[aT] at jk;obtain⟨b3,b9,ho⟩:=Bc aT;obtain⟨r,az,wk⟩:=bI (l:=s.parts.l) (k:=j) (by omega);have h8:=h5 az;rw[h8] at b9;obtain⟨y,aJ,eL⟩:=bI b9;have oz:ii s.parts.l bG j=y:=by unfold ii; rw[h8]; exact gi aJ
     obtain⟨b,ag⟩:∃ b,bG[j]? = some b:=⟨_,auo (by rw[kR]; omega)⟩
     have qj:=Ic ag;rw[qj] at aJ;have Do:(nA bG)[j]? = some (.int .i64 (b:Int)) :=by unfold nA; rw[auq,ag]; rfl
     have hr:=sW az;have yc:(bR r)[0]? = some (aB r.ids) :=rfl;have eW:=hD.ids x cT;have wr:=(ak.parts r wk).1.ids y eL;have bd:=c2 eW;have fI:=c2 wr;have eX:=fE x;have kX:=fE y;have ds:=rL af;have lp:=rL aJ;have fp:=vN x y eW wr;change bz Tryz.prog GS _ [.aF (aY x),.aF (aY y)] _ at fp;obtain⟨X,cn⟩:∃ X,X=aY x:=⟨_,rfl⟩
     obtain⟨Y,fY⟩:∃ Y,Y=aY y:=⟨_,rfl⟩
     rw[<-cn] at bd eX ds fp;rw[<-fY] at fI kX lp fp;have ap:Ev (some j)=(j:Int) :=rfl;rw[ap];have yo:¬ (j:Int)<0:=by omega
     have cy:=Ao.cy;have eK:j<s.parts.l.length:=by omega
     simp[dH,bY,jJ,ui,yK,<-dA,wp,fy,lk,dp,Lb,hb,yo,ds,lp,cy,bS,fO,hr,yc,Do,bd,fI,aul];refine⟨eK,a4 fp (by simp[a5,U.closed,eX,kX]) ?_⟩;by_cases aL:cg x y<0
     ·rw[aiI Dd (by rw[lP,oz]; exact aL)] at jk;simp[aL,aP];exact⟨dH,⟨by simp,by simp,by simp,by simp,by simp⟩,by rw[jk]; rfl,Ao,mu⟩
     ·rw[aiH Dd (by rw[lP,oz]; exact aL)] at jk;simp[aL,aP];exact⟨dH,⟨by simp,by simp,by simp,by simp,by simp⟩,by rw[jk]; rfl,Ao,mu⟩
   ·have Dd:¬ fJ bG i<(g8 s.parts.l i).ids.l.length:=by rw[sM,lo]; exact hb
    rw[aiJ Dd] at jk;simp[dH,bY,jJ,ui,yK,<-dA,wp,fy,lk,dp,Lb,hb,aP];exact⟨⟨by simp,by simp,by simp,by simp,by simp⟩,by rw[jk],Ao,mu⟩
  ·have cQ:i=s.parts.l.length:=by omega
   subst cQ;clear ay dH aP;cases aT:nS s.parts.l bG s.parts.l.length with
   | none=>
    have eu:=ai4 W gD aT;have ap:Ev none=-1:=rfl;rw[ap];have hq:gn (dy (et s)) :=xy ak;have pk:=amo _ hq;have ln:=su (dy (et s));have cV:=hQ.cV;unfold cH bR dy at pk ln;subst eu;simp[cV];refine hs.call fun bj iS jr=>?_
    have dh:bj[1]? = some (.cells 2 [.aH,.aH]) :=by rw[jr 1 (by omega)]; exact hQ.q1
    have dY:∀ c:aV,(bj.set 1 c)[1]? = some c:=fun c=>auz (b6 dh)
    refine a4 pk (by simp[a5,ln]) ?_;have eo:=kp (dm ((et s).map (·.1)));have ej:=o3 (dm ((et s).map (·.2)));simp[dh,dY,eo,ej,a8];exact aQ rfl (by simp[U.closed,a5]; exact su _)
   | some j=>
    obtain⟨b3,b9,ho⟩:=Bc aT;obtain⟨r,az,wk⟩:=bI b3;have h8:=h5 az;rw[h8] at b9;obtain⟨agw,aqL,aqM⟩:=ak.parts r wk;have pi:=W.len r wk;obtain⟨x,af,cT⟩:=bI b9;obtain⟨o,au,en⟩:=bI (l:=r.ops.l) (k:=fJ bG j) (by omega);have C6:=ai6 W gD aT az af au;obtain⟨b,ag⟩:∃ b,bG[j]? = some b:=⟨_,auo (by rw[gD.nl]; omega)⟩
    have qj:=Ic ag;rw[qj] at af au C6 b9;have Do:(nA bG)[j]? = some (.int .i64 (b:Int)) :=by unfold nA; rw[auq,ag]; rfl
    have hr:=sW az;have yc:(bR r)[0]? = some (aB r.ids) :=rfl;have Tq:(bR r)[1]? = some (bx r.ops) :=rfl;have eW:=agw.ids x cT;have bd:=c2 eW;have ds:=rL af;have mq:=Mn au;have mu:(a3 o).length=11:=rfl;have ap:Ev (some j)=(j:Int) :=rfl;rw[ap];have yo:¬ (j:Int)<0:=by omega
    have eK:j<s.parts.l.length:=b3;obtain⟨X,cn⟩:∃ X,X=aY x:=⟨_,rfl⟩
    obtain⟨Y,fY⟩:∃ Y,Y=a3 o:=⟨_,rfl⟩
    have KQ:=cn;rw[<-cn] at bd ds;rw[<-fY] at mu mq;have fG:X.take 32=X:=aul (by omega);have Au:Y.take 11=Y:=aul (by omega);have hE:a8 (rep 32 (.int .u8 0)) 0 X=X:=gq (by rw[bd]; rfl);have kU:a8 [U.int .u32 0,.aH,.int .u64 0,.int .u8 0,.str [],.int .u8 0,.int .i64 0,.int .u64 0,.str [],.int .u32 0,.int .u32 0] 0 Y=Y:=gq (by rw[mu]; rfl);have cy:=hQ.cy;have cV:=hQ.cV;have fy:=hQ.fy;have eY:=b6 fy;have jC:∀ (m:ao) (i:Nat) (c:aV),l[i]? = some c->(l++m)[i]? = some c:=fun m i c h=>by rw[aum (b6 h)]; exact h
    have mb:∀ m:ao,(l++m)[0]? = some (.cells 3 (dN s)) :=fun m=>jC m 0 _ cy
    have fV:∀ m:ao,(l++m)[2]? = some (.cells 2 [bL,w2]) :=fun m=>jC m 2 _ cV
    have tw:∀ m:ao,(l++m)[3]? = some (.cells s.parts.l.length (nA bG)) :=fun m=>jC m 3 _ fy
    have an5:∀ (m:ao) (h:0<(l++m).length),(l++m)[0]'h=.cells 3 (dN s) :=fun m h=>(auk.1 (mb m)).2
    have LH:hk (l++[aV.cells 32 X,.cells 11 Y]) bL w2 eN eE 4 (O.map (·.1)) (O.map (·.2)) :=hs.frame fun c _ ah=>aum ah
    obtain⟨jx,rM,l1,a2,a9,bV,ey,go⟩:=LH.Vd (c:=l.length) KQ bd (by simp) (by simp; omega) (by rw[auw]; omega);simp[cy,bS,fO,yo,hr,yc,Tq,cV,fy,mb,an5,fV,tw,Do,eK,ds,bd,fG,hE,mq,mu,Au,kU,a2];have bZ:=hs.hS.lt;have fZ:bL=.aH\/4<=eN:=hs.c1;have dW:w2=.aH\/4<=eE:=hs.dx;have f:∀ (c:Nat) (y:aV),c<4->l[c]? = some y->l1[c]? = some y:=fun c y ah aJ=>by
     rw[ey c (by have:=b6 aJ; simp; omega) (by rcases fZ with e | e; exact .inl e; exact .inr (by omega)),aum (b6 aJ)]; exact aJ
    have CE:l1[l.length+1]? = some (.cells 11 Y) :=by
     rw[ey (l.length+1) (by simp) (by rcases bZ with e | e; exact .inl e; exact .inr (by omega))]; simp
    have hR:=b6 (f 3 _ (by omega) fy);obtain⟨ob,uM,bj,d1,d2,d3,d4⟩:=a9.WH (c:=l.length+1) fY CE (by omega) (by rw[auw]; omega);have g:∀ (c:Nat) (y:aV),c<4->l[c]? = some y->bj[c]? = some y:=fun c y ah aJ=>by
     rw[d4 c (b6 (f c y ah aJ)) (by rcases dW with e | e; exact .inl e; exact .inr (by omega))]; exact f c y ah aJ
    have qC:=g 0 _ (by omega) cy;have dh:=g 1 _ (by omega) hQ.q1;have dY:=g 2 _ (by omega) cV;have nX:=g 3 _ (by omega) fy;have f2:=f 2 _ (by omega) cV;have f0:=f 0 _ (by omega) cy;have f3:=f 3 _ (by omega) fy;have i7:=b6 nX;refine c7.cd ?_;simp[f0,f2,f3,CE,bS,fO,d1,mu,Au];refine⟨⟨Do,Tq⟩,c7.cd ?_⟩;have eo:=r0 a9.hS;have ej:=r0 d2.gI;have hX:∀ c:aV,(bj.set 2 c)[2]? = some c:=fun c=>auz (by omega)
    have alH:∀ c:aV,(bj.set 2 c)[3]? = some (.cells s.parts.l.length (nA bG)) :=fun c=>by rw[auy (by omega)]; exact nX
    have fP:b<r.ids.l.length:=b9;have bw:IntKind.i64.wrap ((b:Int)+1)=(b:Int)+1:=by rw[IntKind.wrap_i64]; omega
    have j4:j<bG.length:=by rw[gD.nl]; omega
    have rF:a8 (nA bG) j [U.int .i64 ((b:Int)+1)]=nA (bG.set j (b+1)) :=by
     rw[Yq (by unfold nA; simpa using j4)];unfold nA; rw[List.map_set]; rfl
    have Of:a8 [bL,w2] 0 [jx]=[jx,w2] :=by simp
    have Og:a8 [jx,w2] 1 [ob]=[jx,ob] :=by simp
    have j6:(O.map (·.1))++[x]=(O++[(x,o)]).map (·.1) :=by rw[auH]; rfl
    have LB:(O.map (·.2))++[o]=(O++[(x,o)]).map (·.2) :=by rw[auH]; rfl
    rw[j6,LB] at d2;simp[dY,hX,alH,eo,ej,Of,Og,Do,bw,rF];refine⟨eK,by omega,by omega,⟨by simp,by simp,by simp,by simp,by simp⟩,bG.set j (b+1),O++[(x,o)],jx,ob,⟨?_,?_,?_,?_⟩,⟨rM,uM,?_⟩,C6,by rw[auu,aft]; rfl⟩
    ·rw[auy (by omega),auy (by omega)]; exact qC
    ·rw[auy (by omega),auy (by omega)]; exact dh
    ·rw[auy (by omega)]; exact hX _
    ·exact auz (by simp; omega)
    ·exact d2.frame fun c ah _=>by rw[auy (by omega),auy (by omega)]
theorem acw (a b:dv) (aC:eQ a) (ag:eQ b) (al:a.l.length<=1000000) :bz Tryz.prog GS 178 [aB a,aB b] (.bool (decide (a.l=b.l))) :=by
 refine bX Tryz.checked.mixed bn ?_;apply bq Tryz.func178 [];have nJ:ce (.aq 32) (aB a)=some (.int .i64 a.l.length) :=by simp[aB]
 have j5:ce (.aq 32) (aB b)=some (.int .i64 b.l.length) :=by simp[aB]
 by_cases ad:a.l.length=b.l.length
 ·have ef:((a.l.length:Int)=b.l.length) :=by omega
  simp[nJ,j5,ad];refine cl a.l.length (fun k σ l=>σ 0=aB a/\σ 1=aB b/\σ 12=.int .i64 a.l.length/\σ 13=.int .i64 k/\∀ j,j<k->a.l[j]? = b.l[j]?) ?_ (by simp[ad]);rintro k σ l ar ⟨cb,aK,lL,lM,ak⟩;obtain⟨σ,rfl⟩:=iE cb aK lL lM;clear cb aK lL lM;simp;refine pm (fun h=>?_) (fun h=>?_)
  ·simp only[decide_eq_true_eq] at h;obtain⟨x,af,cT⟩:=bI h;obtain⟨y,aJ,eL⟩:=bI (l:=b.l) (k:=k) (by omega);have aP:IntKind.i64.wrap ((k:Int)+1)=((k+1:Nat) :Int) :=by rw[IntKind.wrap_i64]; omega
   have bY:cL (.aq 32) (aB a) (.int .i64 (k:Int))=some (.bM (aY x) 0) :=by simp[aB,af]
   have hr:cL (.aq 32) (aB b) (.int .i64 (k:Int))=some (.bM (aY y) 0) :=by simp[aB,aJ]
   have bd:=c2 (aC x cT);have fI:=c2 (ag y eL);have bP:=wy (aC x cT) (ag y eL);obtain⟨X,cn⟩:∃ X,X=aY x:=⟨_,rfl⟩
   obtain⟨Y,fY⟩:∃ Y,Y=aY y:=⟨_,rfl⟩
   rw[<-cn] at bY bd bP;rw[<-fY] at hr fI bP;simp[bY,hr,bd,fI,aul,bP];by_cases am:x=y
   ·simp[am,aP];refine⟨by omega,fun j ai=>?_⟩;by_cases gR:j=k
    ·subst gR; rw[af,aJ,am]
    ·exact ak j (by omega)
   ·simp[am];refine aQ (congrArg U.bool (decide_eq_false fun ha=>am ?_).symm) rfl;rw[ha,aJ] at af; exact (Option.some.inj af).symm
  ·simp[h];have rq:k=a.l.length:=by simp at h; omega
   refine aQ (congrArg U.bool (decide_eq_true ?_).symm) rfl;apply avf;intro j;by_cases ai:j<a.l.length
   ·exact ak j (by omega)
   ·rw[auC (by omega),auC (by omega)]
 ·have ef:¬ ((a.l.length:Int)=b.l.length) :=by omega
  simp[nJ,j5,ad,ef];exact aQ (by rw[decide_eq_false (fun ha=>ad (by rw[ha]))]) rfl
structure mM (s:eI) :Prop where
 iP:1<=s.parts.l.length
 rW:s.parts.l.length<=4
 Bf:wO s.parts.l=true
 wf:xx s.parts.l=true
 eh:gp (dy (et s))=0
 BN:s.eg=((et s).length:Int)
 bf:h7 (dy (et s))=s.dB.l
noncomputable def vf (s:eI) :Bool:=@decide (mM s) (Classical.propDecidable _)
theorem anN {s:eI} (h:mM s) :vf s=true:=@decide_eq_true _ (Classical.propDecidable _) h
theorem anM {s:eI} (h:¬ mM s) :vf s=false:=@decide_eq_false _ (Classical.propDecidable _) h
noncomputable def vg (s:eI) :U:=.bt [cH (if vf s=true then dy (et s) else ⟨none,none⟩),.int .i64 (if vf s=true then 0 else 8)]
theorem xA {s:eI} (h:¬ mM s) :vg s=.bt [.aF [.aH,.aH],.int .i64 8] :=by unfold vg; rw[anM h]; rfl
theorem Zs {s:eI} (h:mM s) :vg s=.bt [cH (dy (et s)),.int .i64 0] :=by unfold vg; rw[anN h]; rfl
theorem Gi (l:List (List B × br)) :(dy l).ids.l.length=l.length:=by unfold dy; simp only[ec]; rw[auw]
set_option maxHeartbeats 16000000 in
theorem anH (s:eI) (ak:nm s) :bz Tryz.prog GS 134 [.aF (dN s)] (vg s) :=by
 refine bX Tryz.checked.mixed bn ?_;apply bq Tryz.func134 [];have gb:=yU s.parts;have UA:=ak.wP;have bS:(dN s).length=3:=rfl;have g9:(dN s).take 3=dN s:=rfl;have fO:∀ h,(dN s)[0]'h=kr s.parts:=fun _=>rfl
 have KO:(dN s)[1]? = some (aB s.dB) :=rfl;have Aq:(dN s)[2]? = some (.int .i64 s.eg) :=rfl;have kN:∀ h,(dN s)[1]'h=aB s.dB:=fun _=>rfl
 have An:∀ h,(dN s)[2]'h=.int .i64 s.eg:=fun _=>rfl
 have g1:=Cn s;by_cases ad:1<=s.parts.l.length
 ·by_cases aG:s.parts.l.length<=4
  ·have cU:¬ (s.parts.l.length:Int)<1:=by omega
   have gc:¬ (4:Int)<(s.parts.l.length:Int) :=by omega
   simp[bS,fO,gb,a8,cU,gc];refine cl s.parts.l.length (fun i σ l=>σ 1=.ptr 0 0 3/\σ 2=.ptr 1 0 2/\σ 4=.ptr 2 0 1/\σ 22=kr s.parts/\σ 23=.int .i64 s.parts.l.length/\σ 24=.int .i64 i/\l[0]? = some (.cells 3 (dN s))/\l[1]? = some (.cells 2 [.aH,.aH])/\l[2]? = some (.cells 1 [.int .i64 s.parts.l.length])/\∀ (j:Nat) (p:bp),j<i->s.parts.l[j]? = some p->∀ x∈p.ids.l,num x s.parts.l.length=j) ?_ ⟨by simp,by simp,by simp,by simp,by simp,by simp,rfl,rfl,rfl,fun j _ ai=>by omega⟩;rintro i σ l ay ⟨aK,aU,bl,tY,tZ,v0,cy,q1,cV,j3⟩;obtain⟨σ,rfl⟩:=xm aK aU bl tY tZ v0;clear aK aU bl tY tZ v0;have aP:IntKind.i64.wrap ((i:Int)+1)=((i+1:Nat) :Int) :=by rw[IntKind.wrap_i64]; omega
   by_cases dH:i<s.parts.l.length
   ·obtain⟨p,av,gS⟩:=bI dH;obtain⟨hD,LN,LO⟩:=ak.parts p gS;have bY:=sW av;have lk:∀ h,(bR p)[0]'h=aB p.ids:=fun _=>rfl
    have jJ:(bR p).length=2:=rfl;have ui:(bR p).take 2=bR p:=rfl;have yK:a8 [U.aH,.aH] 0 (bR p)=bR p:=gq rfl;have i7:=b6 cV;obtain⟨L,dA⟩:∃ L,L=l++[aV.cells 1 [.int .i64 (i:Int)],aV.cells 2 (bR p)] :=⟨_,rfl⟩
    have jC:∀ (k:Nat) (c:aV),l[k]? = some c->L[k]? = some c:=fun k c h=>by rw[dA,aum (b6 h)]; exact h
    have anP:L[l.length]? = some (.cells 1 [.int .i64 (i:Int)]) :=by rw[dA]; simp
    have wp:L[l.length+1]? = some (.cells 2 (bR p)) :=by rw[dA]; simp
    have il:=ajX s.parts.l.length i ad (by omega) (jC 2 _ cV) anP p.ids.l hD.ids;simp[dH,bY,jJ,ui,yK,<-dA,wp,lk];refine R6 p.ids hD.ids hD.li (by kernel_rfl) il fun bj am=>?_
    have ja:=am.2 1 (b6 (jC 1 _ q1));cases Tz:p.ids.l.any fun x=>!decide (num x s.parts.l.length=i) with
    | true=>
     obtain⟨x,af,U7⟩:=awc.1 Tz;have cR:¬ mM s:=fun h=>by
      have aD:=h.Bf;unfold wO at aD;rw[decide_eq_true_eq] at aD;have:=aD i dH x (by rw[h5 av]; exact af);rw[this] at U7; simp at U7
     rw[xA cR];have gw:bj[1]? = some (.cells 2 [.aH,.aH]) :=by rw[ja]; exact jC 1 _ q1
     have fV:∀ c:aV,(bj.set 1 c)[1]? = some c:=fun c=>auz (b6 gw)
     simp[gw,fV,a8];exact aQ rfl rfl
    | false=>
     simp[aP];refine⟨dH,?_,?_,?_,fun j q ai a7 x af=>?_⟩
     ·rw[am.2 0 (b6 (jC 0 _ cy))]; exact jC 0 _ cy
     ·rw[ja]; exact jC 1 _ q1
     ·rw[am.2 2 (b6 (jC 2 _ cV))]; exact jC 2 _ cV
     ·by_cases jL:j=i
      ·subst jL;rw[av] at a7; obtain rfl:=Option.some.inj a7;have:=List.any_eq_false.1 Tz x af;simpa using this
      ·exact j3 j q (by omega) a7 x af
   ·have cQ:i=s.parts.l.length:=by omega
    subst cQ;have sN:wO s.parts.l=true:=by
     unfold wO;rw[decide_eq_true_eq];intro j ai x af;obtain⟨p,av,_⟩:=bI ai;exact j3 j p ai av x (by rw[h5 av] at af; exact af)
    have afN:=ai1 s ak (Wu sN);clear j3 dH ay aP;simp[cy,bS,g9];refine a4 afN (by simp[a5,U.closed,g1]) ?_;have fk:=b6 cV;cases aX:xx s.parts.l with
    | false=>
     have cR:¬ mM s:=fun h=>by have:=h.wf; rw[aX] at this; cases this
     rw[xA cR];unfold y0;rw[aX];have gw:∀ c:aV,(l++[c])[1]? = some (.cells 2 [.aH,.aH]) :=fun c=>by rw[aum (b6 q1)]; exact q1
     have fV:∀ c c' : aV,((l++[c]).set 1 c')[1]? = some c':=fun c c'=>auz (b6 (gw c))
     have eo:(aB none).cells=some [aB none] :=rfl;have ej:(bx none).cells=some [bx none] :=rfl;simp[cH,bR,a8,eo,ej,gw,fV];exact aQ rfl rfl
    | true=>
     have hq:gn (dy (et s)) :=xy ak;have ei:=Fi _ hq;have G7:=anx _ hq;obtain⟨g,aw⟩:∃ g,g=dy (et s) :=⟨_,rfl⟩
     have uu:g.ids.l.length=(et s).length:=by rw[aw]; exact Gi _
     unfold y0;rw[aX,if_pos rfl];rw[<-aw] at hq ei G7 ⊢;have gw:∀ c:aV,(l++[c])[1]? = some (.cells 2 [.aH,.aH]) :=fun c=>by rw[aum (b6 q1)]; exact q1
     have mb:∀ c:aV,(l++[c])[0]? = some (.cells 3 (dN s)) :=fun c=>by rw[aum (b6 cy)]; exact cy
     have fV:∀ c c' : aV,((l++[c]).set 1 c')[1]? = some c':=fun c c'=>auz (b6 (gw c))
     have eo:=kp g.ids;have ej:=o3 g.ops;have fj:=dd g.ids;have dJ:=jE g.ops;have dp:ce (.aq 32) (aB g.ids)=some (.int .i64 g.ids.l.length) :=by simp[aB]
     unfold cH bR at ei G7;simp[cH,bR,a8,eo,ej,mb,gw];refine a4 ei (by simp[a5,U.closed,fj,dJ]) ?_;by_cases aI:gp g=0
     ·have Fq:∀ (c:aV) (h:0<(l++[c]).length),(l++[c])[0]'h=.cells 3 (dN s) :=fun c h=>(auk.1 (mb c)).2
      by_cases ap:s.eg=(g.ids.l.length:Int)
      ·have wo:aB (xw g)=aB (dm (h7 g)) :=by unfold xw; rw[if_pos aI]
       have heq:=acw (dm (h7 g)) s.dB (fun x af=>by rw[ec] at af; exact hq.ids x ((ave.1 af).1)) ak.dB (by rw[ec]; exact au7 (avE _ _) hq.li);rw[ec] at heq;have qa:=dd (dm (h7 g));have cW:=dd s.dB;rw[wo,aI] at G7;simp[aI,mb,Fq,bS,Aq,An,dp,ap];refine a4 G7 (by simp[a5,U.closed,fj,dJ]) ?_;simp[mb,Fq,bS,KO,kN];refine a4 heq (by simp[a5,qa,cW]) ?_;by_cases aS:h7 g=s.dB.l
       ·have Mj:mM s:=⟨ad,aG,sN,aX,by rw[<-aw]; exact aI,by rw[ap,uu],by rw[<-aw]; exact aS⟩
        rw[Zs Mj,<-aw];simp[aS,gw,fV,a8];exact aQ rfl (by simp[U.closed,a5]; exact su g)
       ·have cR:¬ mM s:=fun h=>aS (by rw[aw]; exact h.bf)
        rw[xA cR];simp[aS,gw,fV,a8];exact aQ rfl rfl
      ·have cR:¬ mM s:=fun h=>ap (by rw[h.BN,uu])
       rw[xA cR];simp[aI,mb,gw,fV,Fq,bS,Aq,An,dp,ap,a8];exact aQ rfl rfl
     ·have cR:¬ mM s:=fun h=>aI (by rw[aw]; exact h.eh)
      rw[xA cR];simp[aI,gw,fV,a8];exact aQ rfl rfl
  ·have cU:¬ (s.parts.l.length:Int)<1:=by omega
   have gc:(4:Int)<(s.parts.l.length:Int) :=by omega
   rw[xA fun h=>aG h.rW];simp[bS,fO,gb,a8,cU,gc];exact aQ rfl rfl
 ·have cU:(s.parts.l.length:Int)<1:=by omega
  rw[xA fun h=>ad h.iP];simp[bS,fO,gb,a8,cU];exact aQ rfl rfl
theorem Xc (ops:List br) (i:Nat) :eO (ops.map gv) i=eO ops i:=by
 unfold eO;rw[auq];cases ops[i]?<;>rfl
theorem xi (g:bp) :(gu g).ops.l=g.ops.l.map gv:=ec _
theorem abf (ids:List (List B)) (ops:List br) (out:List Nat) :pW ids (ops.map gv) out=pW ids ops out:=by
 funext i;unfold pW;rw[Xc]
theorem Wz (ids:List (List B)) (ops:List br) (out:List Nat) :kb ids (ops.map gv) out=kb ids ops out:=by unfold kb; rw[abf,auw]
theorem WM (ids:List (List B)) (ops:List br) :∀ k,gg ids (ops.map gv) k=gg ids ops k
 | 0=>rfl
 | k+1=>by
  have aR:=WM ids ops k;cases h:kb ids ops (gg ids ops k) with
  | none=>rw[In h,In (by rw[aR,Wz]; exact h),aR]
  | some i=>rw[EI h,EI (by rw[aR,Wz]; exact h),aR]
theorem al1 (ids:List (List B)) (ops:List br) :mF ids (ops.map gv)=mF ids ops:=by
 have ad:uZ ids (ops.map gv)=uZ ids ops:=by
  unfold uZ;rw[decide_eq_decide];constructor
  ·intro h o au; exact h (gv o) (av2 au)
  ·intro h o au;obtain⟨dw,dE,rfl⟩:=auR.1 au;exact h dw dE
 have ae:pt ids (ops.map gv)=pt ids ops:=by unfold pt; rw[WM,auw]
 unfold mF;rw[ad,ae,auw]
theorem adh (g:bp) (k:Nat) :mX (gu g) k=mX g k:=by
 unfold mX;rw[xi,auq];rw[show (gu g).ids.l=g.ids.l from rfl];cases g.ops.l[k]?<;>cases g.ids.l[k]?<;>rfl
theorem abq (g:bp) :gp (gu g)=gp g:=by
 have ad:x5 (gu g)=x5 g:=by
  unfold x5;rw[decide_eq_decide,xi,auw];simp only[adh]
 unfold gp;rw[ad,xi,al1,auw];rfl
theorem akq (l:List (List B × br)) :gj (gu (dy l))=l.map fun q=>(q.1,gv q.2) :=by
 unfold gj;rw[xi];unfold dy gu;simp only[ec,db.A9]
 induction l with
 | nil=>rfl
 | cons a l aR=>simp only[auL,List.zip_cons_cons,aR]
theorem ac5 (g:bp) (x:List B) (m:Nat) :p3 (gu g) x m=p3 g x m:=by
 unfold p3;rw[decide_eq_decide];have h:∀ j,(jS (gu g).ops.l j).bi.l=(jS g.ops.l j).bi.l:=fun j=>by
  unfold jS;rw[xi,auB,auB,auq];cases g.ops.l[j]?<;>rfl
 constructor
 ·intro aS j ai; rw[<-h]; exact aS j ai
 ·intro aS j ai; rw[h]; exact aS j ai
theorem TP (g:bp) :h7 (gu g)=h7 g:=by
 unfold h7;have h:∀ x,lR (gu g) x=lR g x:=fun x=>by
  show p3 (gu g) x (gu g).ops.l.length=p3 g x g.ops.l.length;rw[ac5,xi,auw]
 rw[funext h]; rfl
theorem alO (o:br) :w8 o (gv (gv o))=true:=by
 unfold w8 gv; simp[kq,fC,U.beq]
def r3 (l:List (List B × br)) (n k:Nat) :List (List B × br) :=(l.map fun q=>(q.1,gv q.2)).filter fun q=>decide (num q.1 n=k)
theorem akd (l:List (List B × br)) (n k:Nat) :jT (gu (dy l)) (nb (gu (dy l)) n k)=gu (dy (r3 l n k)) :=by
 unfold jT hx r3;rw[auU,akq];congr 2;refine List.filter_congr fun q a7=>?_
 rw[decide_eq_decide];unfold nb;rw[ave,decide_eq_true_eq];constructor
 ·exact fun h=>h.2
 ·intro h;refine⟨?_,h⟩;show q.1∈(gu (dy l)).ids.l;obtain⟨eb,lq,rfl⟩:=auR.1 a7;unfold gu dy;simp only[ec,db.A9];exact av2 lq
theorem W9 (l:List (List B × br)) (n k:Nat) :(jT (gu (dy l)) (nb (gu (dy l)) n k)).ids.l=(r3 l n k).map (·.1)/\(jT (gu (dy l)) (nb (gu (dy l)) n k)).ops.l=((r3 l n k).map (·.2)).map gv:=by
 rw[akd,xi];refine⟨?_,?_⟩
 ·unfold gu dy; simp only[ec,db.A9]
 ·unfold dy; simp only[ec]
theorem Xa {l:List (List B × br)} {n k:Nat} {q:List B × br}:q∈r3 l n k<->∃ eb∈l,q=(eb.1,gv eb.2)/\num q.1 n=k:=by
 unfold r3;rw[ave,auR,decide_eq_true_eq];constructor
 ·rintro⟨⟨eb,ad,rfl⟩,ae⟩; exact⟨eb,ad,rfl,ae⟩
 ·rintro⟨eb,ad,rfl,ae⟩; exact⟨⟨eb,ad,rfl⟩,ae⟩
theorem Xb {l:List (List B × br)} (h:l.Pairwise fun a b=>ib a.1 b.1=true) (n k:Nat) :(r3 l n k).Pairwise fun a b=>ib a.1 b.1=true:=by
 unfold r3;have ae:(l.map fun q=>(q.1,gv q.2)).Pairwise fun a b=>ib a.1 b.1=true:=by rw[av0]; exact h
 exact ae.sublist awW
theorem Fk (s:eI) :fh s=gu (dy (et s)) :=rfl
theorem RP (s:eI) :gp (fh s)=gp (dy (et s)) :=abq _
theorem alZ {s:eI} (h:mM s) :n4 s=0:=by
 have W:vm s.parts.l:=⟨fun p av=>(BQ.1 h.wf p av).1,fun p av=>(BQ.1 h.wf p av).2,Wu h.Bf⟩
 have sN:=h.Bf;unfold wO at sN;rw[decide_eq_true_eq] at sN;have j7:pB s (oN (fh s) s.parts.l.length)=true:=by
  rw[zh];have Hm:(oN (fh s) s.parts.l.length).parts.l=lv (fh s) s.parts.l.length s.parts.l.length:=rfl;refine⟨by rw[Hm,uU],?_,?_,fun k ar=>?_⟩
  ·show s.eg=((fh s).ids.l.length:Int)
   rw[h.BN]; congr 1; exact (Gi (et s)).symm
  ·show s.dB.l=(dm (h7 (fh s))).l;rw[ec,Fk,TP]; exact h.bf.symm
  ·rw[Hm,h5 (H7 _ _ ar)];obtain⟨p,av,gS⟩:=bI ar;rw[h5 av];obtain⟨aP,bw⟩:=W9 (et s) s.parts.l.length k;rw[<-Fk] at aP bw;have uz:=sN k ar;rw[h5 av] at uz;have gE:=W.len p gS;have yH:(gj p).map (fun q=>(q.1,gv q.2))=r3 (et s) s.parts.l.length k:=by
    refine Xd ?_ (Xb (Zr W) _ _) fun q=>?_
    ·rw[av0];have ae:=EW (W.di p gS);have aj:(gj p).map (·.1)=p.ids.l:=by unfold gj; rw[axj (by omega)]
     rw[<-aj,av0] at ae;exact ae
    ·rw[Xa,auR];constructor
     ·rintro⟨eb,lq,rfl⟩;obtain⟨a,aC⟩:=aur.1 lq;unfold gj at aC;rw[avB] at aC;exact⟨eb,(OO W eb).2 ⟨p,gS,a,aC.1,aC.2⟩,rfl,uz eb.1 (aut aC.1)⟩
     ·rintro⟨eb,lq,rfl,aD⟩;obtain⟨r,az,a,aC,ag⟩:=(OO W eb).1 lq;obtain⟨j,ai⟩:=aur.1 az;have:=sN j (auk.1 ai).1 eb.1 (by rw[h5 ai]; exact aut aC);have gR:j=k:=by rw[<-this]; exact aD
      subst gR;rw[av] at ai; obtain rfl:=Option.some.inj ai;exact⟨eb,aut (show (gj p)[a]? = some eb by unfold gj; rw[avB]; exact⟨aC,ag⟩),rfl⟩
   rw[<-yH] at aP bw;have cU:((gj p).map fun q=>(q.1,gv q.2)).map (·.1)=p.ids.l:=by
    rw[av9]; unfold gj; exact axj (by omega)
   have dX:((gj p).map fun q=>(q.1,gv q.2)).map (·.2)=p.ops.l.map gv:=by
    rw[av9];have:(gj p).map (·.2)=p.ops.l:=by unfold gj; exact List.map_snd_zip (by omega)
    rw[<-this,av9]; rfl
   rw[cU] at aP;rw[dX] at bw;unfold r5;rw[aP,bw];simp only[auw,decide_true,avR,decide_eq_true_eq];intro j ai;obtain⟨o,au,_⟩:=bI ai;rw[ta au,ta (o:=gv (gv o)) (by rw[auq,auq,au]; rfl)];exact alO o
 unfold n4;rw[if_pos ⟨h.iP,h.rW⟩,if_pos ⟨by rw[RP]; exact h.eh,j7⟩]
theorem anO {s:eI} (h:n4 s=0) :mM s:=by
 obtain⟨ad,aG,aI,j7⟩:=Yg h;obtain⟨_,cV,fy,pz⟩:=(zh _ _).1 j7;have V:=nW aI;have Hm:(oN (fh s) s.parts.l.length).parts.l=lv (fh s) s.parts.l.length s.parts.l.length:=rfl;have key:∀ (k:Nat) (p:bp),s.parts.l[k]? = some p->p.ids.l=(r3 (et s) s.parts.l.length k).map (·.1)/\p.ops.l.length=(r3 (et s) s.parts.l.length k).length:=fun k p av=>by
  have ar:=(auk.1 av).1;have:=pz k ar;rw[Hm,h5 (H7 _ _ ar),h5 av] at this;unfold r5 at this;simp only[aus,decide_eq_true_eq] at this;obtain⟨aP,bw⟩:=W9 (et s) s.parts.l.length k;exact⟨by rw[this.1]; exact aP,by rw[this.2.1,show (jT (fh s) (nb (fh s) s.parts.l.length k)).ops.l=_ from bw,auw,auw]⟩
 have qn:(et s).Pairwise fun a b=>ib a.1 b.1=true:=by
  have ae:=EW V.di;have:(fh s).ids.l=(et s).map (·.1) :=by rw[Fk]; unfold gu dy; simp only[ec,db.A9]
  rw[this,av0] at ae;exact ae
 refine⟨ad,aG,?_,?_,by rw[<-RP]; exact aI,?_,?_⟩
 ·unfold wO;rw[decide_eq_true_eq];intro i ay x af;obtain⟨p,av,_⟩:=bI ay;rw[h5 av,(key i p av).1] at af;obtain⟨q,a7,rfl⟩:=auR.1 af;obtain⟨_,_,_,aD⟩:=Xa.1 a7;exact aD
 ·refine BQ.2 fun p av=>?_
  obtain⟨k,ar⟩:=aur.1 av;obtain⟨aP,bw⟩:=key k p ar;refine⟨by rw[aP,bw,auw],Nr ?_⟩;rw[aP,av0];exact Xb qn _ _
 ·rw[cV];show ((fh s).ids.l.length:Int)=_;congr 1; exact Gi (et s)
 ·have:s.dB.l=(dm (h7 (fh s))).l:=fy;rw[this,ec,Fk,TP]
theorem Yf (s:eI) :n4 s=0<->mM s:=⟨anO,alZ⟩
theorem abA (s:eI) :(vg s).closed=true:=by
 unfold vg;have:=su (if vf s=true then dy (et s) else ⟨none,none⟩);simp[U.closed,a5,this]
theorem ant (s:eI) (ak:nm s) :bz Tryz.prog GS 95 [.aF (dN s)] (vg s) :=by
 refine bX Tryz.checked.mixed bn ?_;apply bq Tryz.func95 [];have bS:(dN s).length=3:=rfl;have g9:(dN s).take 3=dN s:=rfl;have g1:=Cn s;have aX:=anH s ak;have jK:=abA s;have DY:vg s=.bt [.aF [aB (if vf s=true then dy (et s) else ⟨none,none⟩).ids,bx (if vf s=true then dy (et s) else ⟨none,none⟩).ops],.int .i64 (if vf s=true then 0 else 8)] :=rfl;rw[DY] at aX jK ⊢;obtain⟨g,aw⟩:∃ g,g=if vf s=true then dy (et s) else ⟨none,none⟩:=⟨_,rfl⟩
 rw[<-aw] at aX jK ⊢;have eo:=kp g.ids;have ej:=o3 g.ops;simp[bS,g9];refine a4 aX (by simp[a5,U.closed,g1]) ?_;simp[eo,ej,a8];exact aQ rfl jK
theorem ajS (g:bp) (l:List (List B)) (i:Nat) :oP (gu g) l i=oP g l i:=by
 unfold oP;rw[xi,Xc]; rfl
theorem WN (g:bp) (l:List (List B)) :pu (gu g) l=pu g l:=by
 unfold pu;simp only[ajS]
theorem aml (s:ew) :g4 s=0\/g4 s=8:=by
 unfold g4;split
 ·split
  ·exact .inl rfl
  ·exact .inr rfl
 ·exact .inr rfl
structure oX (s:ew) :Prop where
 b3:1<=s.cap
 Q3:s.cap<=40
 cX:mM s.cX
 BN:s.cX.eg<=s.cap
 le:(s.order.l.length:Int)=s.cX.eg
 ord:pu (dy (et s.cX)) s.order.l=true
theorem E7 (s:ew) :g4 s=0<->oX s:=by
 unfold g4;constructor
 ·intro h;split at h
  ·rename_i ad;split at h
   ·rename_i ae;exact⟨ad.1,ad.2.1,(Yf _).1 ad.2.2.1,ad.2.2.2.1,ad.2.2.2.2,by rw[<-WN]; exact ae⟩
   ·cases h
  ·cases h
 ·rintro⟨a2,a9,bV,ey,go,g6⟩;rw[if_pos ⟨a2,a9,(Yf _).2 bV,ey,go⟩,if_pos (by rw[Fk,WN]; exact g6)]
noncomputable def qF (s:ew) :bp:=if g4 s=0 then dy (et s.cX) else ⟨none,none⟩
noncomputable def pC (s:ew) :U:=.bt [cH (qF s),.int .i64 (g4 s)]
theorem BB {s:ew} (h:¬ oX s) :pC s=.bt [.aF [.aH,.aH],.int .i64 8] :=by
 have aI:¬ g4 s=0:=fun e=>h ((E7 s).1 e)
 unfold pC qF;rw[if_neg aI,(aml s).resolve_left aI]; rfl
theorem Ob {s:ew} (h:oX s) :pC s=.bt [cH (dy (et s.cX)),.int .i64 0] :=by
 have aI:g4 s=0:=(E7 s).2 h;unfold pC qF;rw[if_pos aI,aI]
theorem acl (e:dv) (am:eQ e) (al:e.l.length<=1000000) {l:ao} {be:Nat} (ad:l[be]? = some (.cells 1 [aB e])) (xs:List (List B)) (af:∀ p∈xs,p.length=32) :
  xD 98 [.ptr be 0 1] l xs (fun p=>!decide (p∈e.l)) :=by
 intro p av l1 c5 K aT;apply bq Tryz.func98 [];have hD:=af p av;have gE:=c2 hD;have LM:=fE p;have q1:l1[be]? = some (.cells 1 [aB e]) :=by rw[c5.2 _ (b6 ad)]; exact ad
 have aK:∀ c:aV,(l1++[c])[be]? = some (.cells 1 [aB e]) :=fun c=>by rw[aum (b6 q1)]; exact q1
 have Dm:=dd e;have cQ:=Fj e am al p hD;simp[aK,gE,aul];refine a4 cQ (by simp[a5,U.closed,Dm,LM]) ?_;simp;exact aT _ ⟨by simp,fun b ag=>aum ag⟩
theorem aaT (n k:Nat) (h:k<=n) :gO n n none (some (.int .i64 (k:Int))) (some (.int .i64 (k:Int)))=some (0,k,k) :=by
 have ag:jd (.int .i64 (k:Int)) n=some k:=by
  show (if 0<=(k:Int)/\(k:Int)<=(n:Int) then some (k:Int).toNat else none)=some k;rw[if_pos ⟨by omega,by omega⟩]; simp
 have dW:jd (.int .i64 (k:Int)) k=some k:=by
  show (if 0<=(k:Int)/\(k:Int)<=(k:Int) then some (k:Int).toNat else none)=some k;rw[if_pos ⟨by omega,by omega⟩]; simp
 unfold gO;simp only[ag,dW]
theorem amu {α:Type} {z:Nat} {enc:α->List U} {s:db α} {k:Nat} (h:k<=s.l.length) :fl (.aq z) (cE z enc s) none (some (.int .i64 (k:Int))) (some (.int .i64 (k:Int)))=some (cE z enc (gV s k)) :=by
 cases s with
 | none=>
  have:k=0:=by simpa using h
  subst this; rfl
 | some a=>
  have ar:k<=a.length:=h;simp only[fl,cE,if_true,auw,aaT _ _ ar,auv,avx,awD,gV,awK]
end Op

end Go.b0

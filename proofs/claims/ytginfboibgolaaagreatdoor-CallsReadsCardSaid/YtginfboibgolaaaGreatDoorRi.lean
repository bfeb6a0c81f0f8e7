/-
  Operations as bytes: walked in both texts.
-/
import Derived.Test.YtginfboibgolaaaGreatDoorRh
set_option linter.unusedVariables false
set_option linter.unusedSimpArgs false
set_option linter.unnecessarySimpa false
namespace Go.bJ
open Go Go.Proofs
set_option maxRecDepth 100000
namespace Op
open eX
def opHead (o:bA) :List B:=111#8::dR o.gM.toNat
def jP (o:bA) :List B:=
 opHead o++qy o.bo.l++dR o.cX.toNat++[o.act.kind]++(if o.act.kind=1#8 then [] else io (e7 o.act.key))++(if o.act.kind=4#8 then ir o.act.val else [])
theorem Cz {l:List (List B)} (h:∀ x∈l,x.length=32) :(qy l).length<=9+l.length*32:=by
 have:=hD l.length;have ad:=Ki h;unfold qy;rw[aqA];omega
theorem Ac (s:List B) :(io s).length<=9+s.length:=by
 have:=hD s.length;unfold io;rw[aqA];omega
theorem Di (v:fA) :(ir v).length<=20+v.text.length:=by
 have h1:=hD (ma v.num).toNat
 have ad:=Ac (e7 v.text);have aj:=px v.text;unfold ir;simp only[aqH];split
 ·omega
 ·split
  ·simp[nL]; omega
  ·omega
theorem Ur (o:bA) (aq:lG o) (sX:o.bo.l.length<=1000) {l:am} {K:U->am->Prop} (aS:∀ w l',b7 1 bN l l' w (jP o) false->K w l') :
  c2 Tryz.prog GS 116 [.aI (bj o)] l (c:=⟨K⟩) :=by
 apply bb Tryz.func116 [[[0],[1],[2],[5],[6],[3,6],[4,6]]];have ay:cx=140737488355328:=rfl;have aE:=tp l (.cells 11 (bj o)) 111#8;have BS:=hD o.gM.toNat
 have rs:=hD o.cX.toNat
 have jp:=Cz aq.ids;have J6:(BitVec.setWidth 64 o.gM).toNat=o.gM.toNat:=by rw[aqF]; exact aqC (by have:=o.gM.isLt; omega)
 have aL:l.length<(l++[bg.cells 11 (bj o)]).length:=by simp
 have fi:(l++[bg.cells 11 (bj o)])[l.length]? = some (.cells 11 (bj o)) :=by simp
 simp[bj];refine vx _ fun bS l1 h1=>?_
 rw[J6] at h1;obtain⟨w2,bZ,bl,dw,_⟩:=(aE.frame h1.le h1.same).app (by_:=1) (x:=bS) (xs:=dR o.gM.toNat) h1.contents (by simp[bN]) (by omega) (by omega) (by rw[ay]; simp only[aqH,aq5]; omega);have s6:bZ[l.length]? = some (.cells 11 (bj o)) :=by rw[dw.same _ aL]; exact fi
 have n5:l.length<bZ.length:=by have:=dw.le; omega
 have qi:=s6;simp[bj] at qi;simp[bl];refine dq.cr ?_;simp[qi];refine ags o.bo aq.ids sX fun dT dQ aj=>?_
 obtain⟨pF,oi,a4,kA,_⟩:=(dw.frame aj.le aj.same).app (by_:=1) (x:=dT) (xs:=qy o.bo.l) aj.contents (by simp[bN]) (by omega) (by omega) (by rw[ay]; simp only[aqA,aqH,aq5]; omega);have cw:dQ[l.length]? = some (.cells 11 (bj o)) :=by rw[aj.same _ n5]; exact s6
 have Fm:oi[l.length]? = some (.cells 11 (bj o)) :=by rw[kA.same _ aL]; exact fi
 have ab5:l.length<oi.length:=by have:=kA.le; omega
 have uU:=cw;have zc:=Fm;simp[bj] at uU zc;simp[uU,a4];refine dq.cr ?_;simp[zc];refine vx _ fun r6 S7 aZ=>?_
 obtain⟨aqn,S8,Hs,DF,_⟩:=(kA.frame aZ.le aZ.same).app (by_:=1) (x:=r6) (xs:=dR o.cX.toNat) aZ.contents (by simp[bN]) (by omega) (by omega) (by rw[ay]; simp only[aqA,aqH,aq5]; omega);have acC:S8[l.length]? = some (.cells 11 (bj o)) :=by rw[DF.same _ aL]; exact fi
 have R6:=acC;simp[bj] at R6;obtain⟨Dk,S9,WI,sp⟩:=b7.push DF o.act.kind (by simp only[aqA,aqH,aq5]; omega);have acD:S9[l.length]? = some (.cells 11 (bj o)) :=by rw[sp.same _ aL]; exact fi
 have amG:l.length<S9.length:=by have:=sp.le; omega
 have JN:=acD;simp[bj] at JN;simp[Hs];refine dq.cr ?_;simp[R6,WI];refine dq.cr ?_;obtain⟨M,hJ⟩:∃ M,M=[111#8]++dR o.gM.toNat++qy o.bo.l++dR o.cX.toNat++[o.act.kind] :=⟨_,rfl⟩
 have aav:M.length<=40000:=by rw[hJ]; simp only[aqA,aqH,aq5]; omega
 rw[<-hJ] at sp;have dt:jP o=M++(if o.act.kind=1#8 then [] else io (e7 o.act.key))++(if o.act.kind=4#8 then ir o.act.val else []) :=by rw[hJ]; rfl
 have jG:=Ac (e7 o.act.key);rw[px] at jG;have y8:=aq.key;have kg:=Di o.act.val;have adf:=aq.val.2.2;have ah:ut (.str o.act.key)=some (.b0 1 ((e7 o.act.key).map bN)) :=by
  show some (U.b0 1 (o.act.key.map fun b=>[iw b]))=_;rw[GM]
 by_cases ci:o.act.kind=1#8
 ·have aR:(u o.act.kind:Int)=1:=(fq o.act.kind).2 ci;have jg:¬ o.act.kind=4#8:=by rw[ci]; decide
  rw[if_pos ci,if_neg jg,aqW,aqW] at dt;simp[JN,aR];exact aS _ _ (by rw[dt]; exact sp.base (by simp) fun b af=>aqt af)
 ·have aR:¬ (u o.act.kind:Int)=1:=fun h=>ci ((fq o.act.kind).1 h)
  rw[if_neg ci] at dt;simp[JN,aR,ah];refine Us (some (e7 o.act.key)) (by simpa [px] using y8) (by simp[c8]) (by simp) (fun l' _ _=>by simp[c8]) fun GY kO eb=>?_
  obtain⟨aje,KJ,a9,ub,_⟩:=(sp.frame eb.le eb.same).app (by_:=1) (x:=GY) (xs:=io (e7 o.act.key)) eb.contents (by simp[bN]) (by omega) (by omega) (by rw[ay]; omega);have JO:KJ[l.length]? = some (.cells 11 (bj o)) :=by rw[ub.same _ aL]; exact fi
  have w6:=JO;simp[bj] at w6;simp[a9];refine dq.cr ?_;simp only[ar4] at ub;by_cases jg:o.act.kind=4#8
  ·have kB:(u o.act.kind:Int)=4:=(l5 o.act.kind).2 jg;rw[if_pos jg] at dt;simp[w6,kB];refine agC o.act.val aq.val fun MF aej k3=>?_
   obtain⟨ajd,aek,Hr,HE,_⟩:=(ub.frame k3.le k3.same).app (by_:=1) (x:=MF) (xs:=ir o.act.val) k3.contents (by simp[bN]) (by omega) (by omega) (by rw[ay]; simp only[aqA]; omega);simp[Hr];refine dq.cr ?_;simp;exact aS _ _ (by rw[dt]; exact HE.base (by simp) fun b af=>aqt af)
  ·have kB:¬ (u o.act.kind:Int)=4:=fun h=>jg ((l5 o.act.kind).1 h)
   rw[if_neg jg,aqW] at dt;simp[w6,kB];exact aS _ _ (by rw[dt]; exact ub.base (by simp) fun b af=>aqt af)
def hO (o:bA) :List B:=jP o++dR o.e.toNat++dR o.s.toNat
theorem TG (o:bA) (aq:lG o) (sX:o.bo.l.length<=1000) :(jP o).length<=100000:=by
 have h1:=hD o.gM.toNat
 have ad:=hD o.cX.toNat
 have aj:=Cz aq.ids;have aC:=Ac (e7 o.act.key);rw[px] at aC;have aZ:=aq.key;have bx:=Di o.act.val;have de:=aq.val.2.2;have aF:(if o.act.kind=1#8 then [] else io (e7 o.act.key)).length<=10009:=by split<;>(try simp) ; omega
 have aQ:(if o.act.kind=4#8 then ir o.act.val else []).length<=10020:=by split<;>(try simp) ; omega
 unfold jP opHead;simp only[aqA,aqH,aq5];omega
theorem agl (o:bA) (aq:lG o) (sX:o.bo.l.length<=1000) {l:am} {K:U->am->Prop} (aS:∀ w l',b7 1 bN l l' w (hO o) false->K w l') :
  c2 Tryz.prog GS 75 [.aI (bj o)] l (c:=⟨K⟩) :=by
 apply bb Tryz.func75 [[[0],[2],[3],[4],[5],[8],[9],[10],[11],[1,11,10,5,4],[6,11,10],[7,11,10]]];have ay:cx=140737488355328:=rfl;have bY:=hD o.e.toNat
 have rs:=hD o.s.toNat
 have jG:=TG o aq sX;have i1:(BitVec.setWidth 64 o.e).toNat=o.e.toNat:=by rw[aqF]; exact aqC (by have:=o.e.isLt; omega)
 have qn:(BitVec.setWidth 64 o.s).toNat=o.s.toNat:=by rw[aqF]; exact aqC (by have:=o.s.isLt; omega)
 have aL:l.length<(l++[bg.cells 11 (bj o)]).length:=by simp
 have fi:(l++[bg.cells 11 (bj o)])[l.length]? = some (.cells 11 (bj o)) :=by simp
 simp[bj];refine Ur o aq sX fun bS l1 h1=>?_
 have pe:l1[l.length]? = some (.cells 11 (bj o)) :=by rw[h1.same _ aL]; exact fi
 have pa:l.length<l1.length:=by have:=h1.le; simp at this; omega
 have w5:=pe;simp[bj] at w5;simp[w5];refine vx _ fun w2 bZ ad=>?_
 rw[i1] at ad;obtain⟨dT,dQ,a3,gZ,_⟩:=(h1.frame ad.le ad.same).app (by_:=1) (x:=w2) (xs:=dR o.e.toNat) ad.contents (by simp[bN]) (by omega) (by omega) (by rw[ay]; omega);have s6:bZ[l.length]? = some (.cells 11 (bj o)) :=by rw[ad.same _ pa]; exact pe
 have cw:dQ[l.length]? = some (.cells 11 (bj o)) :=by rw[gZ.same _ aL]; exact fi
 have qi:=s6;have uU:=cw;simp[bj] at qi uU;simp[qi,a3];refine dq.cr ?_;simp[uU];refine vx _ fun pF oi aC=>?_
 rw[qn] at aC;obtain⟨r6,S7,a5,ua,_⟩:=(gZ.frame aC.le aC.same).app (by_:=1) (x:=pF) (xs:=dR o.s.toNat) aC.contents (by simp[bN]) (by omega) (by omega) (by rw[ay]; simp only[aqA]; omega);simp[a5];refine dq.cr ?_;simp;exact aS _ _ (ua.base (by simp) fun b af=>aqt af)
theorem agt (o:bA) (aq:lG o) (sX:o.bo.l.length<=1000) :bi Tryz.prog GS 30 [.aI (bj o)] (fJ (ia (hO o))) :=by
 refine bt Tryz.checked.mixed bp ?_;apply bb Tryz.func30 [];have bY:=hD o.e.toNat
 have rs:=hD o.s.toNat
 have jG:=TG o aq sX;have eV:(ia (hO o)).length=32:=vH _;simp[bj];refine agl o aq sX fun bS l1 h1=>?_
 have fi:l1[1]? = some (.cells 32 (rep 32 (.int .u8 0))) :=by rw[h1.same 1 (by simp)]; rfl
 simp;refine il (UC (some (hO o)) (by simp[hO]; omega)) (.cons (h1.rT (fun _=>rfl) (some (hO o)) rfl rfl) .nil) (by simp[U.flat,k0,fJ,yJ a6 (fun _=>rfl)]) ?_;have xb:bn (rep 32 (.int .u8 0)) 0 ((ia (hO o)).map a6)=(ia (hO o)).map a6:=eC (by rw[aqS,eV]; rfl);have lj:(l1.set 1 (bg.cells 32 ((ia (hO o)).map a6)))[1]? = some (.cells 32 ((ia (hO o)).map a6)) :=aqL (fy fi);simp[fi,fJ,eV,xb,lj,aqs];exact aH rfl (by simp[U.closed,kZ a6 (fun _=>rfl)])
theorem DI:∀ a b:List B,a.length=b.length->eo (a.map a6) (b.map a6)=decide (a=b)
 | [],[],_=>rfl
 | [],_::_,h=>by simp at h
 | _::_,[],h=>by simp at h
 | x::a,y::b,h=>by
  have aJ:=DI a b (by simpa using h);simp only[aqP,eo,aJ,U.beq,decide_true,art];by_cases h1:x=y
  ·by_cases ad:a=b<;>simp[h1,ad]
  ·have:¬ u x=u y:=fun h=>h1 ((oD x y).1 h)
   simp[h1]
theorem zQ:∀ a:List B,hi (List.replicate a.length (.i .u8)) (a.map a6)=true
 | []=>rfl
 | x::a=>by
  rw[aqH,arq,aqP];simp only[hi,zQ a,De,decide_true,ar5]
theorem S4:qw Tryz.prog 20 31=some (List.replicate 32 (.i .u8)) :=by kernel_rfl
theorem SH {a b:List B} (az:a.length=32) (af:b.length=32) :fG Tryz.prog .eql 31 (.aI (aY a)) (.aI (aY b))=some (.bool (decide (a=b))) :=by
 unfold aY;rw[DK S4 (by kernel_rfl) (by kernel_rfl) (by have:=zQ a; rwa [az] at this) (by have:=zQ b; rwa [af] at this),DI a b (by omega)]
theorem FE {a b:List B} (az:a.length=32) (af:b.length=32) :fG Tryz.prog .neq 31 (.aI (aY a)) (.aI (aY b))=some (.bool (!decide (a=b))) :=by
 unfold aY;rw[NI S4 (by kernel_rfl) (by kernel_rfl) (by have:=zQ a; rwa [az] at this) (by have:=zQ b; rwa [af] at this),DI a b (by omega)]
theorem afc (s:eI) :fG Tryz.prog .eql 32 (cy 32 aY s) .aX=some (.bool s.isNone) :=DJ (e:=31) (by kernel_rfl) 32 aY s
theorem afv (l:am) :b7 32 aY l (l++[.cells 0 []]) (.ar 32 l.length 0 0 0 0) ([] :List (List B)) false:=
 ⟨l.length,.ar l.length 0 0 0 [] [] (by simp) rfl rfl (by simp) (aqv _) (by omega) rfl,by simp,fun b af=>aqt af,.inr (aqv _),rfl⟩
theorem adq (s:eI) (aq:g7 s) (al:s.l.length<=1000000) {l:am} {K:U->am->Prop} (aS:∀ v l',b7 32 aY l l' v s.l s.isNone->K v l') :
  c2 Tryz.prog GS 52 [aT s] l (c:=⟨K⟩) :=by
 apply bb Tryz.func52 [];have ay:cx=140737488355328:=rfl;cases s with
 | none=>
  simp[aT];exact aS _ _ b7.nil
 | some a=>
  simp at al;obtain⟨a8,l',a7,bl,_⟩:=(afv l).app (by_:=32) (x:=cy 32 aY (some a)) (xs:=a) (wi _ 32 aY (some a)) (fun y aG=>dk (aq y aG)) (by omega) (by omega) (by rw[ay]; simp; omega);simp[aT,afc,a7];refine dq.cr ?_;simp;exact aS _ _ (by simpa using bl)
def oX (l:List (List B)) (m:Nat) :List (List B) :=(List.range m).flatMap fun k=>if k=0\/bU l k≠bU l (k - 1) then [bU l k] else []
def q7 (l:List (List B)) :List (List B) :=oX l l.length
theorem A1 (l:List (List B)) (m:Nat) :oX l (m+1)=oX l m++(if m=0\/bU l m≠bU l (m - 1) then [bU l m] else []) :=by
 unfold oX; rw[arQ,arX]; simp
theorem Pn (l:List (List B)) :∀ m,(oX l m).length<=m
 | 0=>by simp[oX]
 | m+1=>by
  have:=Pn l m;rw[A1,aqA];split<;>simp<;>omega
theorem A0 {l:List (List B)}:∀ {m},m<=l.length->(∀ k,1<=k->k<m->bU l k≠bU l (k - 1))->oX l m=l.take m
 | 0,_,_=>by simp[oX]
 | m+1,hm,h=>by
  rw[A1,A0 (by omega) (fun k h1 ad=>h k h1 (by omega)),aqN,if_pos (by
   by_cases aE:m=0
   ·exact .inl aE
   ·exact .inr (h m (by omega) (by omega)))]
  congr 1;unfold bU;rw[aqD,aqu (by omega)];rfl
theorem Po {l:List (List B)} {k:Nat} (h1:1<=k) (ap:bU l k=bU l (k - 1)) :∀ {m},k<m->(oX l m).length<m
 | 0,h=>by omega
 | m+1,h=>by
  rw[A1,aqA];by_cases hk:k=m
  ·subst hk;have:=Pn l k;rw[if_neg (fun h=>h.elim (fun aE=>by omega) (fun ad=>ad ap))];simp; omega
  ·have:=Po h1 ap (m:=m) (by omega);split<;>simp<;>omega
theorem Yw {l:List (List B)} (al:xW l=true) :((q7 l).length=l.length)<->eB l=true:=by
 unfold xW at al;rw[decide_eq_true_eq] at al;unfold eB q7;rw[decide_eq_true_eq];constructor
 ·intro h k hk h1;have ad:=al k hk h1;have aj:bU l k≠bU l (k - 1) :=fun ap=>by
   have:=Po h1 ap hk;omega
  have aC:=D1 (bU l k) (bU l (k - 1));have aZ:cd (bU l (k - 1)) (bU l k)≠0:=fun aE=>aj (D0 aE).symm
  omega
 ·intro h;rw[A0 (aqv _) (fun k h1 ad ap=>by
   have:=h k ad h1;rw[<-ap,sy] at this;omega),aq0]
theorem FF {a:List (List B)} {k:Nat} (h:k<a.length) :(a.map aY)[k]? = some (aY (bU a k)) :=by
 rw[aqx];unfold bU;rw[aqD,aqu h];rfl
theorem FD {a:List (List B)} {k:Nat} (h:k<a.length) :bU a k∈a:=by
 unfold bU;rw[aqD,aqu h];exact asy h
structure Wf (l:am) (v:U) (xs:List (List B)) (k:Nat) (ae:a2) (l1:am) :Prop where
 b9:ae 0=v
 aW:ae 3=.int .i64 ((k+1:Nat) :Int)
 ak:l1=l
 al:∀ j,1<=j->j<k+1->bU xs j≠bU xs (j - 1)
structure We (l:am) (v dv:U) (j:Nat) (xs:List (List B)) (m i:Nat) (ae:a2) (bZ:am) :Prop where
 b9:ae 0=v
 bd:ae 4=dv
 bh:ae 5=.int .i64 ((i+1:Nat) :Int)
 fB:∃ (k:Nat) (a1:List (List B)),ae 3=.int .i64 (k:Int)/\bG 32 bZ v j (a1.map aY)/\a1.length=xs.length/\(∀ y∈a1,y.length=32)/\a1.take k=oX xs (m+i+1)/\k<=m+i/\(∀ t,m+i<=t->bU a1 t=bU xs t)/\bZ.length=l.length/\∀ b,b≠j->bZ[b]? = l[b]?
theorem Yu {l:am} {v:U} {j k:Nat} {a1:List (List B)} (h:bG 32 l v j (a1.map aY)) (hk:k<a1.length) :
  ∃ v3 dQ r,gb (.ar 32) v (some (.int .i64 (k:Int))) none none=some v3/\q6 (rep 32 (.int .u8 0)) l v3=some dQ/\gb (.ar 32) v none (some (.int .i64 (k:Int))) none=some r ∧
   bG 32 dQ r j ((a1.take k).map aY)/\cq r=false/\dQ.length=l.length/\∀ b,b≠j->dQ[b]? = l[b]?:=by
 generalize ap:a1.map aY=es at h;cases h with
 | nil j=>rw[arB] at ap; subst ap; simp at hk
 | ar j n cap sz cs es af ak aD av ah cM cp=>
  subst ap;have rq:a1.length=n:=by simpa using aD
  have gE:iS (.int .i64 (k:Int)) n=some k:=by
   show (if 0<=(k:Int)/\(k:Int)<=(n:Int) then some (k:Int).toNat else none)=some k;rw[if_pos ⟨by omega,by omega⟩]; simp
  have fI:iS (.int .i64 (k:Int)) cap=some k:=by
   show (if 0<=(k:Int)/\(k:Int)<=(cap:Int) then some (k:Int).toNat else none)=some k;rw[if_pos ⟨by omega,by omega⟩]; simp
  have dU:gh n cap (some (.int .i64 (k:Int))) none none=some (k,n,cap) :=by
   show (match iS (.int .i64 (k:Int)) n with | none=>none | some l=>some (l,n,cap))=_;rw[gE]
  have dw:gh n cap none (some (.int .i64 (k:Int))) none=some (0,k,cap) :=by
   show (match iS (.int .i64 (k:Int)) cap with | none=>none | some h=>some (0,h,cap))=_;rw[fI]
  have cz:¬ cap=k:=by omega
  have yW:¬ cap=0:=by omega
  have eN:j<l.length:=fy af;have fQ:k*32<=n*32:=aqz _ (by omega);have jo:n*32<=cap*32:=aqz _ ah;have pg:(c4 (rep 32 (.int .u8 0)) (n - k)).length=(n - k)*32:=by rw[zY]; rfl
  have ab6:k*32+(n - k)*32=n*32:=by rw[<-arh]; congr 1; omega
  refine⟨.ar 32 j (k*32) (n - k) (cap - k) sz,l.set j (.cells sz (bn cs (k*32) (c4 (rep 32 (.int .u8 0)) (n - k)))),.ar 32 j 0 k cap sz,?_,?_,?_,?_,rfl,by simp,fun b k8=>by rw[aqG (fun h=>k8 h.symm)]⟩
  ·rw[xV,dU]; simp[cz]
  ·unfold q6;simp only;rw[if_neg (by omega)];simp[af]
  ·rw[xV,dw]; simp[yW]
  ·refine .ar j k cap sz _ _ (aqL eN) (by rw[r1 (by omega),pg]; omega) (by simp; omega) (fun e ap=>?_) (by omega) cM ?_
   ·obtain⟨y,aG,rfl⟩:=aqR.1 ap;exact av _ (ar7 (ard aG))
   ·unfold bn;rw[aq4,aqT (by rw[aqM]; omega),ar3,Nat.min_self];have aR:cs.take (k*32)=(cs.take (n*32)).take (k*32) :=by rw[ar3,arV fQ]
    have bI:a1.map aY=(a1.take k).map aY++(a1.drop k).map aY:=by rw[<-aqV,aq8]
    have dJ:((a1.take k).map aY).flatten.length=k*32:=by
     rw[m9 (z:=32) (fun e ap=>by obtain⟨y,aG,rfl⟩:=aqR.1 ap; exact av _ (ar7 (ard aG)))];simp; omega
    rw[aR,cp,bI,arj,aqT (by omega),aqs (by omega)]
theorem TV {a1:List (List B)} (av:∀ y∈a1,y.length=32) (k:Nat) (hk:k<=a1.length) {n:Nat} (aD:a1.length=n) {cs:List U} (cp:cs.take (n*32)=(a1.map aY).flatten) (ak:n*32<=cs.length) :
  cs.take (k*32)=((a1.take k).map aY).flatten/\(cs.drop (k*32)).take (n*32 - k*32)=((a1.drop k).map aY).flatten:=by
 have fQ:k*32<=n*32:=aqz _ (by omega);have bI:a1.map aY=(a1.take k).map aY++(a1.drop k).map aY:=by rw[<-aqV,aq8]
 have dJ:((a1.take k).map aY).flatten.length=k*32:=by
  rw[m9 (z:=32) (fun e ap=>by obtain⟨y,aG,rfl⟩:=aqR.1 ap; exact dk (av _ (ard aG)))];simp; omega
 have aR:cs.take (k*32)=(cs.take (n*32)).take (k*32) :=by rw[ar3,arV fQ]
 constructor
 ·rw[aR,cp,bI,arj,aqT (by omega),aqs (by omega)]
 ·rw[<-asJ,cp,bI,arj,ark (by omega),arx (by omega),aru]
theorem ahy {l:am} {v:U} {j k:Nat} {a1:List (List B)} {x:List B} (h:bG 32 l v j (a1.map aY)) (av:∀ y∈a1,y.length=32) (hk:k<a1.length) (ag:x.length=32) :
  ∃ p l',cv (.ar 32) v (.int .i64 (k:Int))=some p/\jT 32 l p (.aI (aY x))=some l'/\bG 32 l' v j ((a1.set k x).map aY)/\l'.length=l.length/\∀ b,b≠j->l'[b]? = l[b]?:=by
 generalize ap:a1.map aY=es at h;cases h with
 | nil j=>rw[arB] at ap; subst ap; simp at hk
 | ar j n cap sz cs es af ak aD jq ah cM cp=>
  subst ap;have rq:a1.length=n:=by simpa using aD
  have eN:j<l.length:=fy af;have bB:=dk ag;have fQ:(k+1)*32<=n*32:=aqz _ (by omega);have jo:n*32<=cap*32:=aqz _ ah;have al:(k+1)*32=k*32+32:=by rw[ara]
  obtain⟨f1,_⟩:=TV av k (by omega) rq cp (by omega);obtain⟨_,f2⟩:=TV av (k+1) (by omega) rq cp (by omega);refine⟨.ptr j (k*32) sz,l.set j (.cells sz (bn cs (k*32) (aY x))),?_,?_,?_,by simp,fun b k8=>by rw[aqG (fun h=>k8 h.symm)]⟩
  ·simp[cv]; omega
  ·unfold jT;simp[af,U.cells,bB];omega
  ·refine .ar j n cap sz _ _ (aqL eN) (by rw[r1 (by omega),bB]; omega) (by simp; omega) (fun e ap=>?_) ah cM ?_
   ·obtain⟨y,aG,rfl⟩:=aqR.1 ap;rcases arR aG with h | h
    ·exact dk (av _ h)
    ·rw[h]; exact bB
   ·have lj:a1.set k x=a1.take k++(x::a1.drop (k+1)) :=by rw[arZ,if_pos hk]
    rw[lj,aqV,aqP,arj,aro,<-f1,<-f2];unfold bn;have t1:(cs.take (k*32)).length=k*32:=by rw[aqM]; omega
    have tL:(cs.take (k*32)).take (n*32)=cs.take (k*32) :=aqs (by rw[t1]; omega);have tM:(aY x).take (n*32 - k*32)=aY x:=aqs (by rw[bB]; omega);rw[aq4,bB,<-al,ase,t1,tL,ase,tM,bB,show n*32 - k*32 - 32=n*32 - (k+1)*32 by omega]
theorem Yl {c1 l:am} {v:U} {xs:List (List B)} {fo:Bool} (h:b7 32 aY c1 l v xs fo) (ag:∀ x∈xs,x.length=32) (aD:xs.length<=1000000) {K:U->am->Prop} (aS:∀ r l',b7 32 aY c1 l' r (q7 xs) fo->K r l') :
  c2 Tryz.prog GS 205 [v] l (c:=⟨K⟩) :=by
 apply bb Tryz.func205 [];have bc:=h.len;by_cases ad:xs.length<2
 ·have gD:(xs.length:Int)<2:=by omega
  have rl:q7 xs=xs:=by
   unfold q7;rw[A0 (aqv _) (fun k h1 aj=>by omega),aq0]
  simp[bc,gD];exact aS _ _ (by rw[rl]; exact h)
 ·have gD:¬ (xs.length:Int)<2:=by omega
  simp[bc,gD];refine cE (xs.length - 1) (Wf l v xs) ?_ ⟨by simp,by simp,rfl,fun j h1 aj=>by omega⟩;rintro k ae l1 hk ⟨b9,aW,rfl,al⟩;obtain⟨ae,rfl⟩:=nA b9 aW;clear b9 aW;obtain⟨m,hm⟩:∃ m,m=k+1:=⟨_,rfl⟩
  rw[<-hm] at al ⊢;by_cases aL:m<xs.length
  ·have aR:IntKind.i64.wrap ((m:Int) - 1)=(k:Int) :=by rw[IntKind.wrap_i64]; omega
   have bI:IntKind.i64.wrap ((m:Int)+1)=((m+1:Nat) :Int) :=by rw[IntKind.wrap_i64]; omega
   have iD:(m:Int)<(xs.length:Int) :=by omega
   obtain⟨j,aq,lT⟩:=h;obtain⟨ly,ci,xy,a7,bl,a3,a4⟩:=aq.q.get (k:=.i64) (FF aL);obtain⟨qH,dd,nu,dU,dw,gZ,kA⟩:=aq.q.get (k:=.i64) (FF (a:=xs) (k:=k) (by omega));have hv:=SH (ag _ (FD aL)) (ag _ (FD (a:=xs) (k:=k) (by omega)));obtain⟨X,dy⟩:∃ X,X=bU xs m:=⟨_,rfl⟩
   obtain⟨Y,gQ⟩:∃ Y,Y=bU xs k:=⟨_,rfl⟩
   rw[<-dy] at a4 hv;rw[<-gQ] at kA hv;by_cases ap:X=Y
   ·have p9:fG Tryz.prog .eql 31 (.aI (aY X)) (.aI (aY Y))=some (.bool true) :=by rw[hv,decide_eq_true ap]
    have ao:cq v=false:=by
     cases uS:cq v with
     | false=>rfl
     | true=>
      have:=iK.1 uS;subst this;have:=aq.q.vn;rw[arB] at this;rw[this] at aL; simp at aL
    obtain⟨dv,cQ,g8,_⟩:=aq.q.from ao (k:=.i64) (i:=m) (by simp; omega);have aE:oX xs m=xs.take m:=A0 (by omega) al;have h1:oX xs (m+1)=xs.take m:=by rw[A1,if_neg (fun h=>h.elim (fun aE=>by omega) (fun ad=>ad (by rw[<-dy,show m - 1=k by omega,<-gQ]; exact ap))),aE,aqW]
    simp[bc,iD,aR,a7,bl,a3,a4,dU,dw,gZ,kA,p9,cQ];refine cE (xs.length - m - 1) (We l1 v dv j xs m) ?_ ⟨by simp,by simp,by simp,m,xs,by simp,aq,rfl,ag,h1.symm,by omega,fun t _=>rfl,rfl,fun b _=>rfl⟩;rintro i ae bZ ax ⟨b9,bd,bh,q,a1,aW,bm,df,rz,h7,zg,oc,wX,g5⟩;obtain⟨ae,rfl⟩:=iq b9 aW bd bh;clear b9 aW bd bh;obtain⟨cU,Js⟩:∃ cU,cU=i+1:=⟨_,rfl⟩
    rw[<-Js];obtain⟨aiX,C4,xT,_⟩:=bm.q.from ao (k:=.i64) (i:=m) (by simp; omega);rw[cQ] at C4;obtain rfl:=Option.some.inj C4;have fC:=xT.len;rw[arA,aqS,df] at fC;by_cases n5:cU<xs.length - m
    ·have sY:(cU:Int)<((xs.length - m:Nat) :Int) :=by omega
     have bS:IntKind.i64.wrap ((cU:Int) - 1)=(i:Int) :=by rw[IntKind.wrap_i64]; omega
     have w2:IntKind.i64.wrap ((cU:Int)+1)=((cU+1:Nat) :Int) :=by rw[IntKind.wrap_i64]; omega
     have dT:IntKind.i64.wrap ((q:Int)+1)=((q+1:Nat) :Int) :=by rw[IntKind.wrap_i64]; omega
     obtain⟨Lg,j4,pq,hP,jb,Ak,l7⟩:=xT.get (k:=.i64) (i:=cU) (e:=aY (bU a1 (m+cU))) (by rw[aq3]; exact FF (by omega));obtain⟨afL,jg,rK,jY,m1,V0,x7⟩:=xT.get (k:=.i64) (i:=i) (e:=aY (bU a1 (m+i))) (by rw[aq3]; exact FF (by omega));have qp:=rz _ (FD (a:=a1) (k:=m+cU) (by omega));have jq:=rz _ (FD (a:=a1) (k:=m+i) (by omega));have bY:=FE qp jq;have qk:=oc (m+cU) (by omega);have ql:=oc (m+i) (by omega);have br:=A1 xs (m+cU);rw[show m+cU - 1=m+i by omega] at br;obtain⟨lJ,I7⟩:∃ X,X=bU a1 (m+cU) :=⟨_,rfl⟩
     obtain⟨v7,Bq⟩:∃ Y,Y=bU a1 (m+i) :=⟨_,rfl⟩
     rw[<-I7] at l7 bY qp qk;rw[<-Bq] at x7 bY ql;rw[<-qk,<-ql] at br;rw[show m+i+1=m+cU by omega] at h7;by_cases nY:lJ=v7
     ·have s3:fG Tryz.prog .neq 31 (.aI (aY lJ)) (.aI (aY v7))=some (.bool false) :=by rw[bY]; simp[nY]
      rw[if_neg (fun h=>h.elim (fun aE=>by omega) (fun ad=>ad nY)),aqW] at br;simp[fC,sY,bS,hP,jb,Ak,l7,jY,m1,V0,x7,s3,w2];exact⟨by omega,by simp,by simp,by simp,q,a1,by simp,bm,df,rz,by rw[br]; exact h7,by omega,fun t aP=>oc t (by omega),wX,g5⟩
     ·have s3:fG Tryz.prog .neq 31 (.aI (aY lJ)) (.aI (aY v7))=some (.bool true) :=by rw[bY]; simp[nY]
      rw[if_pos (.inr nY)] at br;obtain⟨TS,dQ,l8,hQ,z3,z4,z5⟩:=ahy bm rz (k:=q) (x:=lJ) (by omega) qp;simp[fC,sY,bS,hP,jb,Ak,l7,jY,m1,V0,x7,s3,w2,dT,l8,hQ];have Mn:(a1.take q).length=q:=by rw[aqM]; omega
      have mM:(a1.set q lJ).take (q+1)=a1.take q++[lJ] :=by
       rw[arZ,if_pos (by omega),ase,Mn,aqs (by omega),show q+1 - q=1 by omega]; simp
      refine⟨by omega,by simp,by simp,by simp,q+1,a1.set q lJ,by simp,z3,by simp[df],fun y aG=>?_,by rw[mM,br,h7],by omega,fun t aP=>?_,by omega,fun b af=>(z5 b af).trans (g5 b af)⟩
      ·rcases arR aG with h | h
       ·exact rz _ h
       ·rw[h]; exact qp
      ·have:=oc t (by omega);unfold bU at this ⊢;rw[aqD,aqG (by omega),<-aqD];exact this
    ·have sY:¬ (cU:Int)<((xs.length - m:Nat) :Int) :=by omega
     obtain⟨v3,dQ,r,l8,hQ,z3,z4,z5,ajN,MO⟩:=Yu bm (k:=q) (by omega);simp[fC,sY,l8,hQ,z3];obtain⟨aF,aQ,aW,bd⟩:=lT;have BM:c1.length<=j:=aW.resolve_left (fun h=>by rw[h] at ao; cases ao);have BE:m+i+1=xs.length:=by omega
     rw[BE] at h7;refine aS _ _ ⟨j,by unfold q7; rw[<-h7]; exact z4,by omega,fun b af=>?_,.inr BM,by rw[z5,<-bd,ao]⟩;rw[MO b (by omega),g5 b (by omega)];exact aQ b af
   ·have p9:fG Tryz.prog .eql 31 (.aI (aY X)) (.aI (aY Y))=some (.bool false) :=by rw[hv,decide_eq_false ap]
    simp[bc,iD,aR,a7,bl,a3,a4,dU,dw,gZ,kA,p9,bI];refine⟨by omega,by simp,by simp[hm],rfl,fun t h1 ad=>?_⟩;by_cases aP:t=m
    ·rw[aP,<-dy,show m - 1=k by omega,<-gQ]; exact ap
    ·exact al t h1 (by omega)
  ·have iD:¬ (m:Int)<(xs.length:Int) :=by omega
   have rl:q7 xs=xs:=by
    unfold q7;rw[A0 (aqv _) (fun k h1 aj=>al k h1 (by omega)),aq0]
   simp[bc,iD];exact aS _ _ (by rw[rl]; exact h)
theorem ag2 {l:List (List B)} (h:eB l=true) :xW l=true:=by
 unfold eB at h;rw[decide_eq_true_eq] at h;exact U8 fun k hk h1=>by
  have:=h k hk h1;have aC:=D1 (bU l k) (bU l (k - 1));omega
theorem G0 (o:bA) (aq:lG o) :bi Tryz.prog GS 142 [.aI (bj o)] (.int .i64 (fY o)) :=by
 refine bt Tryz.checked.mixed bp ?_;apply bb Tryz.func142 [[[0],[1],[2],[3],[4],[5],[6],[10],[11],[12],[7,11],[8,11],[9]]];unfold fY;have di:=gC o.bo;have bc:cL (.ar 32) (aT o.bo)=some (.int .i64 o.bo.l.length) :=by simp[aT]
 have iB:(aT o.bo).cells=some [aT o.bo] :=by cases o.bo<;>rfl
 by_cases h1:4<o.bo.l.length
 ·have dK:(4:Int)<(o.bo.l.length:Int) :=by omega
  rw[if_pos h1];simp[bj,bc,dK];exact aH rfl rfl
 ·have dK:¬ (4:Int)<(o.bo.l.length:Int) :=by omega
  rw[if_neg h1];simp[bj,bc,dK];refine aU (adU o.bo aq.ids aq.len) (by simp[aV,di,U.closed]) ?_;cases ad:xW o.bo.l with
  | false=>
   have aj:eB o.bo.l=false:=by
    cases aj:eB o.bo.l with
    | false=>rfl
    | true=>rw[ag2 aj] at ad; cases ad
   simp[aj,bc];exact aH rfl rfl
  | true=>
   simp[bc];refine adq o.bo aq.ids aq.len fun ff l1 aF=>?_
   have aaO:l1[0]? = some (.cells 11 (bj o)) :=by rw[aF.same 0 (by simp)]; rfl
   have QW:=aaO;simp[bj] at QW;simp[QW];refine Yl aF aq.ids aq.len fun dv bZ aQ=>?_
   have fi:bZ[0]? = some (.cells 11 (bj o)) :=by rw[aQ.same 0 (by simp)]; rfl
   have yV:=fi;simp[bj] at yV;have fC:=aQ.len;have rl:=Yw ad;cases aj:eB o.bo.l with
   | false=>
    have bY:¬ ((q7 o.bo.l).length:Int)=(o.bo.l.length:Int) :=fun h=>by
     have:=rl.1 (by omega);rw[aj] at this; cases this
    simp[fC,yV,bc,bY];exact aH rfl rfl
   | true=>
    have heq:((q7 o.bo.l).length:Int)=(o.bo.l.length:Int) :=by have:=rl.2 aj; omega
    simp[fC,yV,bc,heq];refine aU (Kt o.gM) rfl ?_;unfold rb;cases aZ:fK o.gM with
    | false=>
     simp;exact aH rfl rfl
    | true=>
     have b4:((1000000000000:Int)<u o.cX)<->¬ o.cX.toNat<=1000000000000:=by unfold u; omega
     by_cases bx:o.cX.toNat<=1000000000000
     ·have uE:¬ ((1000000000000:Int)<u o.cX) :=fun h=>b4.1 h bx
      have w0:((500000003:Int)<=max (u o.e:Int) (u o.s))<->¬ (iy o.e&&iy o.s)=true:=by
       unfold iy u;simp only[aqw,decide_eq_true_eq];omega
      have RQ:tl (bq o.e) (bq o.s)=some (.int .u32 (max (u o.e:Int) (u o.s))) :=by
       show (if IntKind.u32=IntKind.u32 then some (U.int .u32 (if (u o.e:Int)<u o.s then u o.s else u o.e)) else none)=_;rw[if_pos rfl];congr 2;split<;>omega
      cases de:(iy o.e&&iy o.s) with
      | false=>
       have re:(500000003:Int)<=max (u o.e:Int) (u o.s) :=w0.2 (by rw[de]; simp);simp[yV,bx,uE,RQ,re];exact aH rfl rfl
      | true=>
       have re:¬ (500000003:Int)<=max (u o.e:Int) (u o.s) :=fun h=>(w0.1 h) de
       simp[yV,bx,uE,RQ,re];refine aU (AN o.act) rfl ?_;cases eb:hU o.act with
       | false=>
        simp[eh];exact aH rfl rfl
       | true=>
        simp[eh];exact aH (by rw[if_pos bx]) rfl
     ·have uE:(1000000000000:Int)<u o.cX:=b4.2 bx;simp[yV,bx,uE];exact aH rfl rfl
def lm (o:bA) :List B:=if fY o=0 then ia (hO o) else List.replicate 32 0#8
theorem xC {o:bA} (h:fY o=0) :o.bo.l.length<=4:=by
 unfold fY at h;split at h
 ·cases h
 ·omega
theorem C0 {l:am} {b n:Nat} {gI:List U} {k:Nat} {w:U} {kd:IntKind} (af:l[b]? = some (.cells n gI)) (aD:gI.length=n) (hk:gI[k]? = some w) :
  ∃ p cs o,cv (.ar 1) (.ar 1 b 0 n n n) (.int kd (k:Int))=some p/\dY l p=some (cs,o)/\cs[o]? = some w:=by
 have aL:k<n:=by rw[<-aD]; exact (aqr.1 hk).1
 refine⟨.ptr b (0+k*1) n,gI,0+k*1,?_,?_,by simpa using hk⟩
 ·simp only[cv,arG];rw[if_pos ⟨trivial,by omega,by omega⟩]
 ·simp only[dY,af,if_true]
theorem Z1 {n:Nat} (aD:n<=1000000000) {l:am} {K:U->am->Prop} (aS:∀ v l',b7 1 bN l l' v ([] :List B) (decide (n=0))->K v l') :c2 Tryz.prog GS 207 [.aX,.int .i64 n] l (c:=⟨K⟩) :=by
 apply bb Tryz.func207 [];have h1:¬((n:Int)<0) :=by omega
 have hw:IntKind.i64.wrap (n:Int)=n:=wrap_i64 (by omega) (by omega);have Ke:IntKind.i64.wrap (0:Int)=0:=rfl;by_cases aE:n=0
 ·subst aE;simp;exact aS _ _ b7.nil
 have ad:(0:Int)<n:=by omega
 have av:pO l 1 1 [.int .u8 0] .aX (.int .i64 n)=some (.ar 1 l.length 0 n n (n*1),l++[.cells (n*1) (c4 [.int .u8 0] n)]) :=by
  unfold pO jx;simp only[arG];have ay:cx=140737488355328:=rfl;rw[if_pos ⟨by omega,by omega,by rw[ay]; omega⟩,if_neg aE,if_neg (by omega),if_pos (by rw[ay]; omega)]
 have al:gb (.ar 1) (.ar 1 l.length 0 n n (n*1)) none (some (.int .i64 0)) none=some (.ar 1 l.length 0 0 n (n*1)) :=by
  rw[xV,HO,if_pos ⟨by omega,by omega⟩];simp[aE]
 rw[arS] at av al;have aj:0<n:=by omega
 simp[h1,ad,aj,hw,av,Ke,al];refine aS _ (l++[.cells n (c4 [.int .u8 0] n)]) ⟨l.length,.ar _ 0 n n (c4 [.int .u8 0] n) [] (by simp) (by rw[zY]; simp) rfl (by simp) (by omega) (by omega) rfl,by simp,fun b af=>aqt af,.inr (aqv _),?_⟩;simp[cq,aE]
def ie (bs:List (List B)) :List B:=bs.flatten
theorem PN {bs:List (List B)} {k:Nat} {s:List B} (h:bs[k]? = some s) :ie (bs.take (k+1))=ie (bs.take k)++s:=by
 unfold ie;rw[aqN,h]; simp
theorem PM (bs:List (List B)) (k:Nat) :(ie (bs.take k)).length<=(ie bs).length:=by
 conv=>rhs; rw[<-aq8 k bs]
 unfold ie;rw[arj,aqA];omega
structure mg (l:am) (w:U) (s:List B) :Prop where
 len:cL (.ar 1) w=some (.int .i64 s.length)
 Ph:∀ l',l.length<=l'.length->(∀ b,b<l.length->l'[b]? = l[b]?)->c8 l' 1 w=some ((s.map bN).flatten,s.length)
theorem zM {l l1:am} {w:U} {s:List B} {fo:Bool} (h:b7 1 bN l l1 w s fo) :mg l1 w s:=⟨h.len,fun l' h1 ad=>(h.frame h1 ad).contents⟩
theorem mg.frame {l l1:am} {w:U} {s:List B} (h:mg l w s) (ak:l.length<=l1.length) (al:∀ b,b<l.length->l1[b]? = l[b]?) :mg l1 w s:=
 ⟨h.len,fun l' h1 ad=>h.Ph l' (by omega) fun b af=>by rw[ad b (by omega)]; exact al b af⟩
theorem TW {l:am} {b:Nat} {x:B} (h:l[b]? = some (.cells 1 [a6 x])) :mg l (.ar 1 b 0 1 1 1) [x] :=by
 have:=fy h;exact⟨rfl,fun l' h1 ad=>by have:=ad b this; rw[h] at this; simp[c8,this,bN]⟩
structure Wd (l:am) (X:U) (bs:List (List B)) (k:Nat) (ae:a2) (l1:am) :Prop where
 jB:ae 25=X
 k2:ae 26=.int .i64 bs.length
 yN:ae 27=.int .i64 k
 nv:∃ v,ae 6=v/\b7 1 bN l l1 v (ie (bs.take k)) (decide ((ie bs).length=0))
set_option maxHeartbeats 4000000 in
theorem Pj {l:am} {b n:Nat} {gI:List U} {bs:List (List B)} (af:l[b]? = some (.cells n gI)) (adh:gI.length=n) (kC:bs.length=n)
  (aB:∀ (k:Nat) (w:U) (s:List B),gI[k]? = some w->bs[k]? = some s->mg l w s) (ak:(ie bs).length<=1000000000) (wX:n<=1000000000)
  {K:U->am->Prop} (aS:∀ v l',b7 1 bN l l' v (ie bs) (decide ((ie bs).length=0))->K v l') :
  c2 Tryz.prog GS 143 [.ar 1 b 0 n n n] l (c:=⟨K⟩) :=by
 apply bb Tryz.func143 [];have uP:=fy af;have dy:∀ l',l.length<=l'.length->(∀ b,b<l.length->l'[b]? = l[b]?)->∀ k,k<n->∃ w s p cs o,gI[k]? = some w/\bs[k]? = some s/\mg l' w s/\cv (.ar 1) (.ar 1 b 0 n n n) (.int .i64 (k:Int))=some p/\dY l' p=some (cs,o)/\cs[o]? = some w:=by
  intro l' h1 ad k hk;obtain⟨w,hw,_⟩:=bW (l:=gI) (k:=k) (by omega);obtain⟨s,al,_⟩:=bW (l:=bs) (k:=k) (by omega);obtain⟨p,cs,o,a7,bl,a3⟩:=C0 (kd:=.i64) (l:=l') (by rw[ad b uP]; exact af) adh hw;exact⟨w,s,p,cs,o,hw,al,(aB k w s hw al).frame h1 ad,a7,bl,a3⟩
 obtain⟨X,rj⟩:∃ X,X=U.ar 1 b 0 n n n:=⟨_,rfl⟩
 have QP:cL (.ar 1) X=some (.int .i64 bs.length) :=by rw[rj,kC]; rfl
 rw[<-rj] at dy ⊢;simp[QP];refine cE n (fun k ae l1=>ae 0=X/\ae 9=X/\ae 10=.int .i64 bs.length/\ae 11=.int .i64 k/\ae 3=.int .i64 (ie (bs.take k)).length/\l1=l) ?_ ?_
 ·rintro k ae l1 hk ⟨b9,hb,gP,hu,aW,rfl⟩;obtain⟨ae,rfl⟩:=lC b9 aW hb gP hu;clear b9 aW hb gP hu;simp;by_cases h:k<bs.length
  ·obtain⟨w,s,p,cs,o,hw,al,JR,a7,bl,a3⟩:=dy l1 (aqv _) (fun _ _=>rfl) k (by omega);have BG:=PN al;have eu:=PM bs (k+1);rw[BG,aqA] at eu;have mP:IntKind.i64.wrap (((ie (bs.take k)).length:Int)+s.length)=((ie (bs.take k)).length:Int)+s.length:=wrap_i64 (by omega) (by omega);have eQ:IntKind.i64.wrap ((k:Int)+1)=k+1:=wrap_i64 (by omega) (by omega);have lR:¬(((ie (bs.take k)).length:Int)+s.length<0) :=by omega
   have jp:=JR.len;simp[h,a7,bl,a3,jp,mP,lR,eQ,BG];omega
  ·have cI:k=bs.length:=by omega
   subst cI;rw[aq0];simp;refine Z1 ak ?_;intro v l aq;simp[QP];refine cE bs.length (Wd l1 X bs) ?_ ⟨by simp,by simp,by simp,v,by simp,by simpa [ie] using aq⟩;rintro k ae bZ hk ⟨jB,k2,yN,w,cc,aq⟩;obtain⟨ae,rfl⟩:=iq cc jB k2 yN;clear cc jB k2 yN;simp;by_cases h:k<bs.length
   ·obtain⟨y,s,p,cs,o,hw,al,JR,a7,bl,a3⟩:=dy bZ aq.le aq.same k (by omega);have BG:=PN al;have eu:=PM bs (k+1);rw[BG,aqA] at eu;have eQ:IntKind.i64.wrap ((k:Int)+1)=k+1:=wrap_i64 (by omega) (by omega);have ay:cx=140737488355328:=rfl;obtain⟨a8,dQ,dU,dw,gZ⟩:=aq.app (by_:=1) (x:=y) (xs:=s) (JR.Ph bZ (aqv _) fun _ _=>rfl) (by simp[bN]) (by omega) (by omega) (by rw[ay]; omega);simp[h,a7,bl,a3,dU];refine dq.cr ?_;simp[h,eQ];refine⟨by simp,by simp,by simp,a8,by simp,?_⟩;rw[BG];have lh:(decide ((ie bs).length=0)&&s.isEmpty)=decide ((ie bs).length=0) :=by
     by_cases ap:(ie bs).length=0
     ·have:s=[] :=arf.1 (by omega);simp[ap,this]
     ·simp[ap]
    rw[lh] at dw;exact dw
   ·have cI:k=bs.length:=by omega
    subst cI;simp;rw[aq0] at aq;exact aS _ _ aq
 ·simp[ie]
def gO (o:bA) :bA:={ o with e:=0#32,s:=0#32 }
theorem VQ (o:bA) (aq:lG o) (hk:fY (gO o)=0) {l:am} {K:U->am->Prop} (aS:∀ w l',b7 1 bN l l' w (jP o) false->K (.bu [w,.int .i64 0]) l') :
  c2 Tryz.prog GS 140 [.aI (bj o)] l (c:=⟨K⟩) :=by
 apply bb Tryz.func140 [[[0],[1],[2],[3],[5],[6],[7],[9],[10],[11],[12],[4,12,11,7,0],[8,12,11,0]]];have ay:cx=140737488355328:=rfl;have BS:=hD o.gM.toNat
 have rs:=hD o.cX.toNat
 have jp:=Cz aq.ids;have ed:lG (gO o) :=⟨aq.ids,aq.len,aq.val,aq.key⟩
 have cz:=G0 (gO o) ed;rw[hk] at cz;have sX:o.bo.l.length<=4:=xC (o:=gO o) hk;have Ft:eB o.bo.l=true:=by
  unfold fY at hk;have aR:(gO o).bo=o.bo:=rfl;rw[aR,if_neg (by omega)] at hk;cases aj:eB o.bo.l with
  | true=>rfl
  | false=>rw[aj] at hk; cases hk
 have J6:(BitVec.setWidth 64 o.gM).toNat=o.gM.toNat:=by rw[aqF]; exact aqC (by have:=o.gM.isLt; omega)
 have aa3:=pR (gO o);have aL:l.length<(l++[bg.cells 11 (bj (gO o))]).length:=by simp
 have fi:(l++[bg.cells 11 (bj (gO o))])[l.length]? = some (.cells 11 (bj (gO o))) :=by simp
 simp[bj];refine aU cz (show aV [U.aI (bj (gO o))]=true by simp[aV,U.closed,aa3]) ?_;simp;refine ajm o.bo aq.ids (by omega) Ft fun bS l1 h1=>?_
 have pe:l1[l.length]? = some (.cells 11 (bj (gO o))) :=by rw[h1.same _ aL]; exact fi
 have pa:l.length<l1.length:=by have:=h1.le; simp at this; omega
 have w5:=pe;simp[bj,gO] at w5;have acH:(l1++[bg.cells 1 [U.int .u8 111]])[l.length]? = some (.cells 11 (bj (gO o))) :=by rw[aqt pa]; exact pe
 have amH:l.length<(l1++[bg.cells 1 [U.int .u8 111]]).length:=by simp; omega
 have Sd:=acH;simp[bj,gO] at Sd;simp[Sd];have acM:(l1++[bg.cells 1 [U.int .u8 111],bg.cells 1 [U.int .u8 (u o.act.kind)]])[l.length]? = some (.cells 11 (bj (gO o))) :=by rw[aqt pa]; exact pe
 have acI:(l1++[bg.cells 1 [U.int .u8 111],bg.cells 1 [U.int .u8 (u o.act.kind)]])[l1.length]? = some (.cells 1 [.int .u8 111]) :=by simp
 have zg:(l1++[bg.cells 1 [U.int .u8 111],bg.cells 1 [U.int .u8 (u o.act.kind)]])[l1.length+1]? = some (.cells 1 [.int .u8 (u o.act.kind)]) :=by simp
 have mA:(l1++[bg.cells 1 [U.int .u8 111],bg.cells 1 [U.int .u8 (u o.act.kind)]]).length=l1.length+2:=by simp
 refine x3 _ fun w2 bZ ad=>?_
 rw[J6] at ad;have Fg:=ad.le;rw[mA] at Fg;have s6:bZ[l.length]? = some (.cells 11 (bj (gO o))) :=by rw[ad.same _ (by rw[mA]; omega)]; exact acM
 have Qq:bZ[l1.length]? = some (.cells 1 [.int .u8 111]) :=by rw[ad.same _ (by rw[mA]; omega)]; exact acI
 have Qr:bZ[l1.length+1]? = some (.cells 1 [.int .u8 (u o.act.kind)]) :=by rw[ad.same _ (by rw[mA]; omega)]; exact zg
 have qi:=s6;simp[bj,gO] at qi;simp[qi,Qq,Qr];refine x3 _ fun dT dQ aj=>?_
 have RO:=aj.le;have cw:dQ[l.length]? = some (.cells 11 (bj (gO o))) :=by rw[aj.same _ (by omega)]; exact s6
 have Qs:dQ[l1.length]? = some (.cells 1 [.int .u8 111]) :=by rw[aj.same _ (by omega)]; exact Qq
 have Qt:dQ[l1.length+1]? = some (.cells 1 [.int .u8 (u o.act.kind)]) :=by rw[aj.same _ (by omega)]; exact Qr
 have uU:=cw;simp[bj,gO] at uU;simp[uU,Qs,Qt,h1.cells,ad.cells,aj.cells,bn];obtain⟨L,ec⟩:∃ L,L=dQ++[bg.cells 5 [.ar 1 l1.length 0 1 1 1,w2,bS,dT,.ar 1 (l1.length+1) 0 1 1 1]] :=⟨_,rfl⟩
 have wB:dQ.length<=L.length:=by rw[ec]; simp
 have o3:∀ b,b<dQ.length->L[b]? = dQ[b]?:=fun b af=>by rw[ec,aqt af]
 have IW:L[dQ.length]? = some (.cells 5 [.ar 1 l1.length 0 1 1 1,w2,bS,dT,.ar 1 (l1.length+1) 0 1 1 1]) :=by rw[ec]; simp
 rw[<-ec];have Hh:mg L (.ar 1 l1.length 0 1 1 1) [111#8] :=TW (by rw[o3 _ (by omega)]; exact Qs);have Wz:mg L (.ar 1 (l1.length+1) 0 1 1 1) [o.act.kind] :=TW (by rw[o3 _ (by omega)]; exact Qt);have Hi:mg L w2 (dR o.gM.toNat) :=((zM ad).frame RO aj.same).frame wB o3;have Hj:mg L bS (qy o.bo.l) :=((((zM h1).frame (l1:=l1++[bg.cells 1 [U.int .u8 111],bg.cells 1 [U.int .u8 (u o.act.kind)]]) (by rw[mA]; omega) (fun b af=>aqt af)).frame (by rw[mA]; exact Fg) ad.same).frame RO aj.same).frame wB o3;have Wy:mg L dT (dR o.cX.toNat) :=(zM aj).frame wB o3;have R7:L[l.length]? = some (.cells 11 (bj (gO o))) :=by rw[o3 _ (by omega)]; exact cw
 obtain⟨M,hJ⟩:∃ M,M=ie [[111#8],dR o.gM.toNat,qy o.bo.l,dR o.cX.toNat,[o.act.kind]] :=⟨_,rfl⟩
 have I0:M=[111#8]++dR o.gM.toNat++qy o.bo.l++dR o.cX.toNat++[o.act.kind] :=by rw[hJ]; simp[ie]
 have aav:M.length<=40000:=by rw[I0]; simp only[aqA,aqH,aq5]; omega
 have IZ:M.length≠0:=by rw[I0]; simp
 refine Pj (bs:=[[111#8],dR o.gM.toNat,qy o.bo.l,dR o.cX.toNat,[o.act.kind]]) IW rfl rfl ?_ (by rw[<-hJ]; omega) (by omega) fun pF oi aC=>?_
 ·intro k w s hw al;rcases k with _ | _ | _ | _ | _ | k
  ·obtain rfl:=Option.some.inj hw; obtain rfl:=Option.some.inj al; exact Hh
  ·obtain rfl:=Option.some.inj hw; obtain rfl:=Option.some.inj al; exact Hi
  ·obtain rfl:=Option.some.inj hw; obtain rfl:=Option.some.inj al; exact Hj
  ·obtain rfl:=Option.some.inj hw; obtain rfl:=Option.some.inj al; exact Wy
  ·obtain rfl:=Option.some.inj hw; obtain rfl:=Option.some.inj al; exact Wz
  ·cases hw
 rw[<-hJ,decide_eq_false IZ] at aC;have aas:l.length<=L.length:=by omega
 have pY:b7 1 bN l oi pF M false:=aC.base aas fun b af=>by
  have fV:b<l1.length:=by omega
  rw[o3 b (by omega),aj.same b (by omega),ad.same b (by rw[mA]; omega),aqt fV,h1.same b (by simp; omega),aqt af]
 have Fm:oi[l.length]? = some (.cells 11 (bj (gO o))) :=by rw[aC.same _ (by omega)]; exact R7
 have ab5:l.length<oi.length:=fy Fm;have zc:=Fm;simp[bj,gO] at zc;have dt:jP o=M++(if o.act.kind=1#8 then [] else io (e7 o.act.key))++(if o.act.kind=4#8 then ir o.act.val else []) :=by rw[I0]; rfl
 have jG:=Ac (e7 o.act.key);rw[px] at jG;have y8:=aq.key;have kg:=Di o.act.val;have adf:=aq.val.2.2;have ah:ut (.str o.act.key)=some (.b0 1 ((e7 o.act.key).map bN)) :=by
  show some (U.b0 1 (o.act.key.map fun b=>[iw b]))=_;rw[GM]
 by_cases ci:o.act.kind=1#8
 ·have aR:(u o.act.kind:Int)=1:=(fq o.act.kind).2 ci;have jg:¬ o.act.kind=4#8:=by rw[ci]; decide
  rw[if_pos ci,if_neg jg,aqW,aqW] at dt;simp[zc,aR];exact aS _ _ (by rw[dt]; exact pY)
 ·have aR:¬ (u o.act.kind:Int)=1:=fun h=>ci ((fq o.act.kind).1 h)
  rw[if_neg ci] at dt;simp[zc,aR,ah];refine VP (some (e7 o.act.key)) (by simpa [px] using y8) (by simp[c8]) (by simp) (fun l' _ _=>by simp[c8]) fun GY kO eb=>?_
  obtain⟨aje,KJ,a9,ub,_⟩:=(pY.frame eb.le eb.same).app (by_:=1) (x:=GY) (xs:=io (e7 o.act.key)) eb.contents (by simp[bN]) (by omega) (by omega) (by rw[ay]; omega);have W6:=(aC.frame eb.le eb.same).app (by_:=1) (x:=GY) (xs:=io (e7 o.act.key)) eb.contents (by simp[bN]) (by omega) (by omega) (by rw[ay]; omega);obtain⟨aqo,aoj,M1,yq,_⟩:=W6;rw[a9] at M1;obtain⟨rfl,rfl⟩:=Prod.mk.inj (Option.some.inj M1);have JO:KJ[l.length]? = some (.cells 11 (bj (gO o))) :=by rw[yq.same _ (by omega)]; exact R7
  have w6:=JO;simp[bj,gO] at w6;simp[a9];refine dq.cr ?_;simp only[ar4] at ub;by_cases jg:o.act.kind=4#8
  ·have kB:(u o.act.kind:Int)=4:=(l5 o.act.kind).2 jg;rw[if_pos jg] at dt;have QU:hU o.act=true:=by
    cases h:hU o.act with
    | true=>rfl
    | false=>
     unfold fY at hk;have bI:(gO o).bo=o.bo:=rfl;have dJ:(gO o).act=o.act:=rfl;rw[bI,if_neg (by omega),Ft,if_pos rfl] at hk;unfold rb at hk;rw[dJ,h] at hk;simp at hk
   rw[Ax jg,aqw] at QU;simp[w6,kB];refine ajw o.act.val aq.val QU.2 fun MF aej k3=>?_
   obtain⟨ajd,aek,Hr,HE,_⟩:=(ub.frame k3.le k3.same).app (by_:=1) (x:=MF) (xs:=ir o.act.val) k3.contents (by simp[bN]) (by omega) (by omega) (by rw[ay]; simp only[aqA]; omega);simp[Hr];refine dq.cr ?_;simp;exact aS _ _ (by rw[dt]; exact HE)
  ·have kB:¬ (u o.act.kind:Int)=4:=fun h=>jg ((l5 o.act.kind).1 h)
   rw[if_neg jg,aqW] at dt;simp[w6,kB];exact aS _ _ (by rw[dt]; exact ub)
theorem NB {o:bA} (h:fY o=0) :fY (gO o)=0:=by
 unfold fY at h ⊢;have aR:(gO o).bo=o.bo:=rfl;rw[aR];have au:rb o=true->rb (gO o)=true:=by
  unfold rb gO;simp only[aqw];rintro⟨a,b,c,d,e⟩;exact⟨a,b,c,by decide,by decide⟩
 split at h
 ·cases h
 ·rename_i h1;rw[if_neg h1];split at h
  ·rename_i ad;rw[if_pos ad];split at h
   ·rename_i aj;rw[if_pos (au aj)]
   ·cases h
  ·cases h
theorem PB {o:bA} (h:fY o=0) :hU o.act=true:=by
 unfold fY at h;split at h
 ·cases h
 ·split at h
  ·split at h
   ·rename_i aj;unfold rb at aj;simp only[aqw] at aj;exact aj.2.2.1
   ·cases h
  ·cases h
theorem KF {s:List UInt8} (h:fE s=true) :s.length<=20:=by
 unfold fE at h;simp only[aqw,decide_eq_true_eq] at h;omega
theorem PC {o:bA} (aq:lG o) (h:fY o=0) :(hO o).length<=1000:=by
 have h1:=hD o.gM.toNat
 have ad:=hD o.cX.toNat
 have aj:=Cz aq.ids;have aC:=Ac (e7 o.act.key);rw[px] at aC;have bx:=Di o.act.val;have aB:=xC h;have ap:=hD o.e.toNat
 have al:=hD o.s.toNat
 have az:=PB h;have aF:(if o.act.kind=1#8 then [] else io (e7 o.act.key)).length<=100:=by
  split
  ·simp
  ·rename_i ci;have:o.act.key.length<=20:=by
    by_cases dd:o.act.kind=2#8
    ·rw[Aw dd,aqw] at az; exact KF az.1
    ·by_cases j4:o.act.kind=3#8
     ·rw[Dz j4,aqw] at az; exact KF az.1
     ·by_cases jg:o.act.kind=4#8
      ·rw[Ax jg,aqw] at az; exact KF az.1
      ·rw[Hu ci dd j4 jg] at az; cases az
   omega
 have aQ:(if o.act.kind=4#8 then ir o.act.val else []).length<=100:=by
  split
  ·rename_i jg;rw[Ax jg,aqw] at az;have ao:=az.2;have:o.act.val.text.length<=30:=by
    by_cases bL:o.act.val.kind=1#8
    ·rw[MA bL] at ao;simp only[aqw,decide_eq_true_eq] at ao;rw[ao.2]; simp
    ·by_cases bz:o.act.val.kind=2#8
     ·rw[MB bz] at ao;simp only[aqw,decide_eq_true_eq] at ao;rw[ao.2.2]; simp
     ·by_cases cO:o.act.val.kind=3#8
      ·by_cases ak:o.act.val.text.length<=30
       ·exact ak
       ·rw[VK cO] at ao;unfold r3 at ao;rw[if_neg ak] at ao;simp only[aqw,decide_eq_true_eq,hR] at ao;have:=ao.1;rw[cO] at this;exact absurd this (by decide)
      ·rw[MC bL bz cO] at ao; cases ao
   omega
  ·simp
 unfold hO jP opHead;simp only[aqA,aqH,aq5];omega
theorem ajh (o:bA) (aq:lG o) (hk:fY o=0) {l:am} {K:U->am->Prop} (aS:∀ w l',b7 1 bN l l' w (hO o) false->K (.bu [w,.int .i64 0]) l') :
  c2 Tryz.prog GS 95 [.aI (bj o)] l (c:=⟨K⟩) :=by
 apply bb Tryz.func95 [[[0],[1],[2],[3],[4],[6],[7],[8],[9],[5,9,8]]];have cz:=G0 o aq;rw[hk] at cz;have di:=pR o;have qm:=PC aq hk;have i1:(BitVec.setWidth 64 o.e).toNat=o.e.toNat:=by rw[aqF]; exact aqC (by have:=o.e.isLt; omega)
 have qn:(BitVec.setWidth 64 o.s).toNat=o.s.toNat:=by rw[aqF]; exact aqC (by have:=o.s.isLt; omega)
 have aL:l.length<(l++[bg.cells 11 (bj o)]).length:=by simp
 have fi:(l++[bg.cells 11 (bj o)])[l.length]? = some (.cells 11 (bj o)) :=by simp
 simp[bj];refine aU cz (show aV [U.aI (bj o)]=true by simp[aV,U.closed,di]) ?_;simp;refine VQ o aq (NB hk) fun bS l1 h1=>?_
 have pe:l1[l.length]? = some (.cells 11 (bj o)) :=by rw[h1.same _ aL]; exact fi
 have pa:l.length<l1.length:=fy pe;have w5:=pe;simp[bj] at w5;simp[w5];refine x3 _ fun w2 bZ ad=>?_
 rw[i1] at ad;have s6:bZ[l.length]? = some (.cells 11 (bj o)) :=by rw[ad.same _ pa]; exact pe
 have qi:=s6;simp[bj] at qi;simp[qi];refine x3 _ fun dT dQ aj=>?_
 rw[qn] at aj;simp[h1.cells,ad.cells,aj.cells,bn];obtain⟨L,ec⟩:∃ L,L=dQ++[bg.cells 3 [bS,w2,dT]] :=⟨_,rfl⟩
 have wB:dQ.length<=L.length:=by rw[ec]; simp
 have o3:∀ b,b<dQ.length->L[b]? = dQ[b]?:=fun b af=>by rw[ec,aqt af]
 have IW:L[dQ.length]? = some (.cells 3 [bS,w2,dT]) :=by rw[ec]; simp
 rw[<-ec];have Hh:mg L bS (jP o) :=(((zM h1).frame ad.le ad.same).frame aj.le aj.same).frame wB o3;have Hi:mg L w2 (dR o.e.toNat) :=((zM ad).frame aj.le aj.same).frame wB o3;have Hj:mg L dT (dR o.s.toNat) :=(zM aj).frame wB o3;have hJ:ie [jP o,dR o.e.toNat,dR o.s.toNat]=hO o:=by simp[ie,hO]
 have IZ:(hO o).length≠0:=by unfold hO jP opHead; simp
 refine Pj (bs:=[jP o,dR o.e.toNat,dR o.s.toNat]) IW rfl rfl ?_ (by rw[hJ]; omega) (by omega) fun pF oi aC=>?_
 ·intro k w s hw al;rcases k with _ | _ | _ | k
  ·obtain rfl:=Option.some.inj hw; obtain rfl:=Option.some.inj al; exact Hh
  ·obtain rfl:=Option.some.inj hw; obtain rfl:=Option.some.inj al; exact Hi
  ·obtain rfl:=Option.some.inj hw; obtain rfl:=Option.some.inj al; exact Hj
  ·cases hw
 rw[hJ,decide_eq_false IZ] at aC;simp;refine aS _ _ (aC.base ?_ fun b af=>?_)
 ·have:=ad.le; have:=aj.le; omega
 ·have:=ad.le; have:=aj.le;rw[o3 b (by omega),aj.same b (by omega),ad.same b (by omega),h1.same b (by simp; omega),aqt af]
theorem ajg (o:bA) (aq:lG o) (hk:¬ fY o=0) :bi Tryz.prog GS 95 [.aI (bj o)] (.bu [.aX,.int .i64 (fY o)]) :=by
 refine bt Tryz.checked.mixed bp ?_;apply bb Tryz.func95 [[[0],[1],[2],[3],[4],[6],[7],[8],[9],[5,9,8]]];have cz:=G0 o aq;have di:=pR o;obtain⟨E,dV⟩:∃ E,E=bj o:=⟨_,rfl⟩
 have sP:E.length=11:=by rw[dV]; rfl
 rw[<-dV] at cz di ⊢;simp[sP,aqs];refine aU cz (by simp[aV,U.closed,di]) ?_;simp[hk];exact aH rfl rfl
theorem ajl (o:bA) (aq:lG o) :bi Tryz.prog GS 96 [.aI (bj o)] (.bu [fJ (lm o),.int .i64 (fY o)]) :=by
 refine bt Tryz.checked.mixed bp ?_;apply bb Tryz.func96 [];unfold lm;have di:=pR o;have av:(rep 32 (.int .u8 0) :List U)=(List.replicate 32 0#8).map a6:=by simp[rep]
 obtain⟨E,dV⟩:∃ E,E=bj o:=⟨_,rfl⟩
 have sP:E.length=11:=by rw[dV]; rfl
 by_cases aE:fY o=0
 ·have qm:=PC aq aE;have eV:(ia (hO o)).length=32:=vH _;rw[<-dV];simp[sP,aqs];rw[dV];refine ajh o aq aE fun bS l1 h1=>?_
  rw[<-dV] at h1;have fi:l1[1]? = some (.cells 32 (rep 32 (.int .u8 0))) :=by rw[h1.same 1 (by simp)]; rfl
  simp;refine il (aii (some (hO o)) (by simp; omega)) (.cons (h1.rT (fun _=>rfl) (some (hO o)) rfl rfl) .nil) (by simp[U.flat,k0,fJ,yJ a6 (fun _=>rfl)]) ?_;have xb:bn (rep 32 (.int .u8 0)) 0 ((ia (hO o)).map a6)=(ia (hO o)).map a6:=eC (by rw[aqS,eV]; rfl);have lj:(l1.set 1 (bg.cells 32 ((ia (hO o)).map a6)))[1]? = some (.cells 32 ((ia (hO o)).map a6)) :=aqL (fy fi);simp[fi,fJ,eV,xb,lj,aqs];exact aH (by rw[if_pos aE,aE]) (by simp[U.closed,aV,kZ a6 (fun _=>rfl)])
 ·have Rh:=ajg o aq aE;rw[<-dV] at Rh di ⊢;simp[sP,aqs];refine aU Rh (by simp[aV,U.closed,di]) ?_;simp[aE,fJ,av];exact aH rfl (by simp only[U.closed,aV,kZ a6 (fun _=>rfl),ar5])
end Op

end Go.bJ

namespace Go.bJ
open Go Go.Proofs Go.RowKit
set_option maxRecDepth 100000
namespace Op
open eX
theorem vN {P:Program} {t:TypeId} {ts:List TypeId} {cs:List U} (aK:P.underlying t=some .string) (h:cG P (t::ts) cs) :∃ s cs',cs=.str s::cs'/\cG P ts cs':=by
 cases h
 case str s cs' al og h=>exact⟨_,_,rfl,h⟩
 all_goals (exfalso; simp_all; done)
theorem tK {ts:List TypeId} {cs:List U} (h:cG Tryz.prog (5::ts) cs) :∃ (x:B) (cs' : List U),cs=a6 x::cs'/\cG Tryz.prog ts cs':=by
 obtain⟨k,sA,rfl,h1,ad,aj⟩:=vM (k:=.u8) (by kernel_rfl) h;have aZ:(0:Int)<=k:=h1;have bx:k<=255:=ad;refine⟨BitVec.ofNat 8 k.toNat,sA,?_,aj⟩;have:((BitVec.ofNat 8 k.toNat).toNat:Int)=k:=by
  rw[aqK,aqC (by omega)]; omega
 simp[a6,u]; omega
theorem aiO {ts:List TypeId} {cs:List U} (h:cG Tryz.prog (22::ts) cs) :∃ (s:dD) (cs' : List U),cs=bX s::cs'/\cG Tryz.prog ts cs':=by
 obtain⟨s,cs',rfl,_,_,ad⟩:=Df (e:=5) (z:=1) (enc:=bN) (Q:=fun _=>True) (by kernel_rfl) (by kernel_rfl) (fun r ay=>by
  obtain⟨x,cs',rfl,aj⟩:=tK ay;rw[Ad aj];exact⟨x,rfl,trivial⟩) h
 exact⟨s,cs',rfl,ad⟩
theorem Mr {ts:List TypeId} {cs:List U} (h:cG Tryz.prog (31::ts) cs) :∃ (x:List B) (cs' : List U),cs=x.map a6++cs'/\x.length=32/\cG Tryz.prog ts cs':=by
 have h1:=Vz (e:=5) (n:=32) (by kernel_rfl) h;exact Mq (by kernel_rfl) 32 h1
theorem Ms {ts:List TypeId} {cs:List U} (h:cG Tryz.prog (32::ts) cs) :∃ (s:eI) (cs' : List U),cs=aT s::cs'/\g7 s/\cG Tryz.prog ts cs':=by
 obtain⟨s,cs',rfl,_,h1,ad⟩:=Df (e:=31) (z:=32) (enc:=aY) (Q:=fun x=>x.length=32) (by kernel_rfl) (by kernel_rfl) (fun r ay=>by
  obtain⟨x,cs',rfl,ag,aj⟩:=Mr ay;rw[Ad aj,aqW];exact⟨x,rfl,ag⟩) h
 exact⟨s,cs',rfl,h1,ad⟩
theorem Mu {ts:List TypeId} {cs:List U} (h:cG Tryz.prog (25::ts) cs) :∃ (v:fA) (cs' : List U),cs=[a6 v.kind,.int .i64 v.num,cD v.bits,.str v.text]++cs'/\cG Tryz.prog ts cs':=by
 have h1:=tJ (fs:=[5,2,23,9]) (by kernel_rfl) h;obtain⟨k,_,rfl,ad⟩:=tK h1;obtain⟨n,_,rfl,_,_,aj⟩:=vM (k:=.i64) (by kernel_rfl) ad;obtain⟨b,_,rfl,aC⟩:=GR aj;obtain⟨s,_,rfl,aZ⟩:=vN (by kernel_rfl) aC;exact⟨⟨k,n,b,s⟩,_,rfl,aZ⟩
theorem aiM {ts:List TypeId} {cs:List U} (h:cG Tryz.prog (27::ts) cs) :∃ (a:Act) (cs' : List U),cs=[a6 a.kind,.str a.key,a6 a.val.kind,.int .i64 a.val.num,cD a.val.bits,.str a.val.text]++cs'/\cG Tryz.prog ts cs':=by
 have h1:=tJ (fs:=[5,9,25]) (by kernel_rfl) h;obtain⟨k,_,rfl,ad⟩:=tK h1;obtain⟨s,_,rfl,aj⟩:=vN (by kernel_rfl) ad;obtain⟨v,_,rfl,aC⟩:=Mu aj;exact⟨⟨k,s,v⟩,_,rfl,aC⟩
theorem Mt {ts:List TypeId} {cs:List U} (h:cG Tryz.prog (45::ts) cs) :∃ (x:D) (cs' : List U),cs=bq x::cs'/\cG Tryz.prog ts cs':=by
 obtain⟨k,sA,rfl,h1,ad,aj⟩:=vM (k:=.u32) (by kernel_rfl) h;have aZ:(0:Int)<=k:=h1;have bx:k<=4294967295:=ad;refine⟨BitVec.ofNat 32 k.toNat,sA,?_,aj⟩;have:((BitVec.ofNat 32 k.toNat).toNat:Int)=k:=by
  rw[aqK,aqC (by omega)]; omega
 simp[bq,u]; omega
structure Hq (o:bA) :Prop where
 ids:g7 o.bo
 kq:-9223372036854775808<=o.act.val.num
 pn:o.act.val.num<9223372036854775808
theorem aiR {ts:List TypeId} {cs:List U} (h:cG Tryz.prog (25::ts) cs) :∃ (v:fA) (cs' : List U),cs=[a6 v.kind,.int .i64 v.num,cD v.bits,.str v.text]++cs'/\(-9223372036854775808<=v.num/\v.num<9223372036854775808)/\cG Tryz.prog ts cs':=by
 have h1:=tJ (fs:=[5,2,23,9]) (by kernel_rfl) h;obtain⟨k,_,rfl,ad⟩:=tK h1;obtain⟨n,_,rfl,s2,qg,aj⟩:=vM (k:=.i64) (by kernel_rfl) ad;obtain⟨b,_,rfl,aC⟩:=GR aj;obtain⟨s,_,rfl,aZ⟩:=vN (by kernel_rfl) aC;have bx:n<=9223372036854775807:=qg;exact⟨⟨k,n,b,s⟩,_,rfl,⟨s2,by show n<9223372036854775808; omega⟩,aZ⟩
theorem aiN {ts:List TypeId} {cs:List U} (h:cG Tryz.prog (27::ts) cs) :∃ (a:Act) (cs' : List U),cs=[a6 a.kind,.str a.key,a6 a.val.kind,.int .i64 a.val.num,cD a.val.bits,.str a.val.text]++cs'/\(-9223372036854775808<=a.val.num/\a.val.num<9223372036854775808)/\cG Tryz.prog ts cs':=by
 have h1:=tJ (fs:=[5,9,25]) (by kernel_rfl) h;obtain⟨k,_,rfl,ad⟩:=tK h1;obtain⟨s,_,rfl,aj⟩:=vN (by kernel_rfl) ad;obtain⟨v,_,rfl,ao,aC⟩:=aiR aj;exact⟨⟨k,s,v⟩,_,rfl,ao,aC⟩
theorem aiP {ts:List TypeId} {cs:List U} (h:cG Tryz.prog (78::ts) cs) :∃ (o:bA) (cs' : List U),cs=bj o++cs'/\Hq o/\cG Tryz.prog ts cs':=by
 have h1:=tJ (fs:=[45,32,23,27,76]) (by kernel_rfl) h;obtain⟨a,_,rfl,ad⟩:=Mt h1;obtain⟨p,_,rfl,aB,aj⟩:=Ms ad;obtain⟨n,_,rfl,aC⟩:=GR aj;obtain⟨c,_,rfl,ah,aZ⟩:=aiN aC;have bx:=tJ (fs:=[45,45]) (by kernel_rfl) aZ;obtain⟨x,_,rfl,de⟩:=Mt bx;obtain⟨y,cs',rfl,eb⟩:=Mt de;exact⟨⟨a,p,n,c,x,y⟩,cs',by simp[bj],⟨aB,ah.1,ah.2⟩,eb⟩
theorem aiJ {ts:List TypeId} {cs:List U} (h:lI Tryz.prog (9::ts) cs) :∃ (s:List UInt8) (cs' : List U),cs=.str s::cs'/\lI Tryz.prog ts cs':=by
 obtain⟨c,cs',rfl,h1,ad⟩:=Vy h;obtain⟨s,sA,al,aj⟩:=vN (by kernel_rfl) (aiL (by kernel_rfl) h1);cases al;exact⟨s,cs',rfl,ad⟩
end Op

end Go.bJ

namespace Go.bJ
open Go Go.Proofs
set_option maxRecDepth 100000
open eX Op
def Gg (a n:Nat) :Nat->Nat
 | 0=>1
 | k+1=>match Nat.beq (n / 2 ^ (63 - k) % 2) 1 with
  | true=>((Gg a n k) ^ 2 % 1000000007)*a % 1000000007
  | false=>(Gg a n k) ^ 2 % 1000000007
theorem T2 (a n:Nat) (aD:n<2 ^ 64) :∀ k,k<=64->Gg a n k=fb a (n / 2 ^ (64 - k))
 | 0,_=>by
  have:n / 2 ^ (64 - 0)=0:=atq aD;rw[this]; rfl
 | k+1,hk=>by
  have aJ:=T2 a n aD k (by omega);have af:=QV n k (by omega);have e:64 - (k+1)=63 - k:=by omega
  rw[e];unfold Gg;rw[aJ,Nat.pow_two,T6];split
  ·rename_i h;have h1:=arl h;rw[T4,af,h1]
  ·rename_i h;have h1:n / 2 ^ (63 - k) % 2≠1:=fun aM=>by rw[aM] at h; cases h
   rw[af];congr 1; omega
end Go.bJ

namespace Go.bJ
open Go Go.Proofs
set_option maxRecDepth 100000
namespace Op
open eX
section
variable {α:Type} {z:Nat} {enc:α->List U}
theorem afF {l:am} {v:U} {j k:Nat} {a1:List α} {zr:List U} (rA:zr.length=z) (h:bG z l v j (a1.map enc)) (hk:k<a1.length) :
  ∃ v3 dQ r,gb (.ar z) v (some (.int .i64 (k:Int))) none none=some v3/\q6 zr l v3=some dQ/\gb (.ar z) v none (some (.int .i64 (k:Int))) none=some r ∧
   bG z dQ r j ((a1.take k).map enc)/\cq r=false/\dQ.length=l.length/\∀ b,b≠j->dQ[b]? = l[b]?:=by
 generalize ap:a1.map enc=es at h;cases h with
 | nil j=>rw[arB] at ap; subst ap; simp at hk
 | ar j n cap sz cs es af ak aD av ah cM cp=>
  subst ap;have rq:a1.length=n:=by simpa using aD
  have gE:iS (.int .i64 (k:Int)) n=some k:=by
   show (if 0<=(k:Int)/\(k:Int)<=(n:Int) then some (k:Int).toNat else none)=some k;rw[if_pos ⟨by omega,by omega⟩]; simp
  have fI:iS (.int .i64 (k:Int)) cap=some k:=by
   show (if 0<=(k:Int)/\(k:Int)<=(cap:Int) then some (k:Int).toNat else none)=some k;rw[if_pos ⟨by omega,by omega⟩]; simp
  have dU:gh n cap (some (.int .i64 (k:Int))) none none=some (k,n,cap) :=by
   show (match iS (.int .i64 (k:Int)) n with | none=>none | some l=>some (l,n,cap))=_;rw[gE]
  have dw:gh n cap none (some (.int .i64 (k:Int))) none=some (0,k,cap) :=by
   show (match iS (.int .i64 (k:Int)) cap with | none=>none | some h=>some (0,h,cap))=_;rw[fI]
  have cz:¬ cap=k:=by omega
  have yW:¬ cap=0:=by omega
  have eN:j<l.length:=fy af;have fQ:k*z<=n*z:=aqz _ (by omega);have jo:n*z<=cap*z:=aqz _ ah;have pg:(c4 zr (n - k)).length=(n - k)*z:=by rw[zY,rA]
  have ab6:k*z+(n - k)*z=n*z:=by rw[<-arh]; congr 1; omega
  refine⟨.ar z j (k*z) (n - k) (cap - k) sz,l.set j (.cells sz (bn cs (k*z) (c4 zr (n - k)))),.ar z j 0 k cap sz,?_,?_,?_,?_,rfl,by simp,fun b k8=>by rw[aqG (fun h=>k8 h.symm)]⟩
  ·rw[xV,dU]; simp[cz]
  ·unfold q6;simp only;rw[if_neg (by omega)];simp[af,rA]
  ·rw[xV,dw]; simp[yW]
  ·refine .ar j k cap sz _ _ (aqL eN) (by rw[r1 (by omega),pg]; omega) (by simp; omega) (fun e ap=>?_) (by omega) cM ?_
   ·obtain⟨y,aG,rfl⟩:=aqR.1 ap;exact av _ (ar7 (ard aG))
   ·unfold bn;rw[aq4,aqT (by rw[aqM]; omega),ar3,Nat.min_self];have aR:cs.take (k*z)=(cs.take (n*z)).take (k*z) :=by rw[ar3,arV fQ]
    have bI:a1.map enc=(a1.take k).map enc++(a1.drop k).map enc:=by rw[<-aqV,aq8]
    have dJ:((a1.take k).map enc).flatten.length=k*z:=by
     rw[m9 (z:=z) (fun e ap=>by obtain⟨y,aG,rfl⟩:=aqR.1 ap; exact av _ (ar7 (ard aG)))];rw[aqS,aqM,arV (by omega)]
    rw[aR,cp,bI,arj,aqT (by omega),aqs (by omega)]
theorem TN {a1:List α} (av:∀ y∈a1,(enc y).length=z) (k:Nat) (hk:k<=a1.length) {n:Nat} (aD:a1.length=n) {cs:List U} (cp:cs.take (n*z)=(a1.map enc).flatten) (ak:n*z<=cs.length) :
  cs.take (k*z)=((a1.take k).map enc).flatten/\(cs.drop (k*z)).take (n*z - k*z)=((a1.drop k).map enc).flatten:=by
 have fQ:k*z<=n*z:=aqz _ (by omega);have bI:a1.map enc=(a1.take k).map enc++(a1.drop k).map enc:=by rw[<-aqV,aq8]
 have dJ:((a1.take k).map enc).flatten.length=k*z:=by
  rw[m9 (z:=z) (fun e ap=>by obtain⟨y,aG,rfl⟩:=aqR.1 ap; exact av _ (ard aG))];rw[aqS,aqM,arV (by omega)]
 have aR:cs.take (k*z)=(cs.take (n*z)).take (k*z) :=by rw[ar3,arV fQ]
 constructor
 ·rw[aR,cp,bI,arj,aqT (by omega),aqs (by omega)]
 ·rw[<-asJ,cp,bI,arj,ark (by omega),arx (by omega),aru]
theorem Ge {l:am} {v:U} {j k:Nat} {a1:List α} {x:α} {X:U} (dy:X.cells=some (enc x)) (h:bG z l v j (a1.map enc)) (av:∀ y∈a1,(enc y).length=z) (hk:k<a1.length) (ag:(enc x).length=z) :
  ∃ p l',cv (.ar z) v (.int .i64 (k:Int))=some p/\jT z l p (X)=some l'/\bG z l' v j ((a1.set k x).map enc)/\l'.length=l.length/\∀ b,b≠j->l'[b]? = l[b]?:=by
 generalize ap:a1.map enc=es at h;cases h with
 | nil j=>rw[arB] at ap; subst ap; simp at hk
 | ar j n cap sz cs es af ak aD jq ah cM cp=>
  subst ap;have rq:a1.length=n:=by simpa using aD
  have eN:j<l.length:=fy af;have bB:=ag;have fQ:(k+1)*z<=n*z:=aqz _ (by omega);have jo:n*z<=cap*z:=aqz _ ah;have al:(k+1)*z=k*z+z:=by rw[ara]
  obtain⟨f1,_⟩:=TN av k (by omega) rq cp (by omega);obtain⟨_,f2⟩:=TN av (k+1) (by omega) rq cp (by omega);refine⟨.ptr j (k*z) sz,l.set j (.cells sz (bn cs (k*z) (enc x))),?_,?_,?_,by simp,fun b k8=>by rw[aqG (fun h=>k8 h.symm)]⟩
  ·simp[cv]; omega
  ·unfold jT;simp[af,dy,bB];omega
  ·refine .ar j n cap sz _ _ (aqL eN) (by rw[r1 (by omega),bB]; omega) (by simp; omega) (fun e ap=>?_) ah cM ?_
   ·obtain⟨y,aG,rfl⟩:=aqR.1 ap;rcases arR aG with h | h
    ·exact av _ h
    ·rw[h]; exact bB
   ·have lj:a1.set k x=a1.take k++(x::a1.drop (k+1)) :=by rw[arZ,if_pos hk]
    rw[lj,aqV,aqP,arj,aro,<-f1,<-f2];unfold bn;have t1:(cs.take (k*z)).length=k*z:=by rw[aqM]; omega
    have tL:(cs.take (k*z)).take (n*z)=cs.take (k*z) :=aqs (by rw[t1]; omega);have tM:(enc x).take (n*z - k*z)=enc x:=aqs (by rw[bB]; omega);rw[aq4,bB,<-al,ase,t1,tL,ase,tM,bB,show n*z - k*z - z=n*z - (k+1)*z by omega]
end

end Op

end Go.bJ

namespace Go.bJ
open Go Go.Proofs
set_option maxRecDepth 100000
namespace Op
theorem El {α:Type} {enc:α->List U} {z:Nat} {a:List α} (h:∀ x∈a,(enc x).length=z) :(a.map enc).flatten.length=a.length*z:=by
 rw[m9 (z:=z) (fun e ap=>by obtain⟨y,aG,rfl⟩:=aqR.1 ap; exact h y aG),aqS]
theorem afI {α:Type} {enc:α->List U} {z:Nat} {l:am} {b n:Nat} {a:List α} (az:∀ x∈a,(enc x).length=z) (aD:a.length=n) (af:l[b]? = some (.cells (n*z) (a.map enc).flatten)) :bG z l (.ar z b 0 n n (n*z)) b (a.map enc) :=by
 have fj:=El az;refine .ar b n n (n*z) _ _ af (by rw[fj,aD]) (by simp[aD]) (fun e ap=>?_) (aqv _) (aqv _) ?_
 ·obtain⟨y,aG,rfl⟩:=aqR.1 ap; exact az y aG
 ·rw[aqs (by rw[fj,aD]; omega)]
end Op

end Go.bJ

namespace Go.bJ
open Go Go.Proofs
set_option maxRecDepth 100000
namespace Op
open eX
theorem WS {l:List D} {k:Nat} {x:D} (h:l[k]? = some x) (aB:(l.take k).all fK=true) :(l.take (k+1)).all fK=fK x:=by
 rw[aqN,h,List.all_append,aB]; simp
theorem WQ {l:List D} {k:Nat} {x:D} (h:l[k]? = some x) (ag:fK x=false) :l.all fK=false:=by
 cases aM:l.all fK with
 | false=>rfl
 | true=>rw[ari.1 aM x (aqI h)] at ag; cases ag
structure V5 (l:List D) (k:Nat) (ae:a2) (h:am) :Prop where
 bh:ae 5=cy 1 eg (some l)
 cc:ae 6=.int .i64 l.length
 eR:ae 7=.int .i64 k
 aB:(l.take k).all fK=true
theorem Qf (l:List D) (ak:l.length<=1000) :bi Tryz.prog GS 258 [cy 1 eg (some l)] (.bool (l.all fK)) :=by
 refine bt Tryz.checked.mixed bp ?_;apply bb Tryz.func258 [];have bc:cL (.ar 1) (cy 1 eg (some l))=some (.int .i64 l.length) :=nt _;simp[bc];refine cE l.length (V5 l) ?_ ⟨by simp,by simp,by simp,by simp⟩;rintro k ae h hk ⟨bh,cc,eR,aB⟩;obtain⟨ae,rfl⟩:=lB bh cc eR;clear bh cc eR;by_cases h:k<l.length
 ·obtain⟨x,ag,_⟩:=bW h;have cg:cv (.ar 1) (cy 1 eg (some l)) (.int .i64 k)=some (.b5 (eg x) 0) :=by rw[rB]; simp[ag]
  have eQ:IntKind.i64.wrap ((k:Int)+1)=(k+1:Nat) :=wrap_i64 (by omega) (by omega);simp[h,cg,eg];refine aU (Kt x) rfl ?_;cases au:fK x with
  | false=>
   have:=WQ ag au;simp;exact aH (by rw[this]) rfl
  | true=>
   simp[eQ];exact⟨by omega,by simp,by simp,by simp,by rw[WS ag aB]; exact au⟩
 ·have et:k=l.length:=by omega
  subst et;rw[aq0] at aB;simp;exact aH (by rw[aB]) rfl
theorem agH {l:am} {b:Nat} {x:D} (h:l[b]? = some (.cells 1 [bq x])) :ft (bK l) (.ar 1 b 0 1 1 1) (cy 1 eg (some [x])) :=by
 refine CU (rest:=[]) (es:=[[bq x]]) (by simpa using h) rfl (by simp) (by simp[aV,U.closed])
def CP (a b:D) :D:=BitVec.ofNat 32 (a.toNat*b.toNat % 1000000007)
theorem ZL (a b:D) :bi Tryz.prog GS 219 [bq a,bq b] (.bu [bq (if fK a&&fK b then CP a b else 0#32),.int .i64 (if fK a&&fK b then 0 else 2)]) :=by
 refine bt Tryz.checked.mixed bp ?_;apply bb Tryz.func219 [];simp;refine il (Qf [a,b] (by simp)) (.cons (CV (by simp)) .nil) rfl ?_;cases az:fK a with
 | false=>
  simp[az];exact aH rfl rfl
 | true=>
  cases af:fK b with
  | false=>
   simp[az,af];exact aH rfl rfl
  | true=>
   have aL:a.toNat<1000000007:=by unfold fK at az; simp at az; exact az.1.2
   simp[az,af];refine il (KZ [a,b] (by simp)) (.cons (.same _ rfl) (.cons (CV (by simp)) .nil)) rfl ?_;simp[KY a b aL];exact aH rfl rfl
theorem ZM (a:D) (n:Q) :bi Tryz.prog GS 218 [bq a,cD n] (.bu [bq (if fK a then gy a n.toNat else 0#32),.int .i64 (if fK a then 0 else 2)]) :=by
 refine bt Tryz.checked.mixed bp ?_;apply bb Tryz.func218 [];simp;refine il (Qf [a] (by simp)) (.cons (agH (by simp)) .nil) rfl ?_;cases az:fK a with
 | false=>
  simp[az];exact aH rfl rfl
 | true=>
  simp[az];refine aU (Ln a n) rfl ?_;simp;exact aH rfl rfl
theorem ZK (n:Q) :bi Tryz.prog GS 195 [cD n] (bq (gy 4#32 n.toNat)) :=by
 refine bt Tryz.checked.mixed bp ?_;apply bb Tryz.func195 [];simp;refine aU (Ln 4#32 n) rfl ?_;simp;exact aH rfl rfl
theorem Lt (a:D) (n:Q) :bi Tryz.prog GS 168 [bq a,cD n] (bq (gy a n.toNat)) :=by
 refine bt Tryz.checked.mixed bp ?_;apply bb Tryz.func168 [];have aZ:(a.setWidth 64:Q).toNat=a.toNat:=by rw[aqF]; omega
 have bx:=xI a.toNat n.toNat
 have de:(BitVec.ofNat 64 (fb a.toNat n.toNat)).setWidth 32=gy a n.toNat:=by
  apply aqE;rw[rR,aqF,aqK];omega
 have aB:=T7 (a.setWidth 64) n (by rw[aZ]; exact a.isLt);rw[aZ] at aB;simp;refine aU aB rfl ?_;simp[de];exact aH rfl rfl
theorem agk (n:Q) :bi Tryz.prog GS 210 [cD n] (bq (gy 4#32 n.toNat)) :=by
 refine bt Tryz.checked.mixed bp ?_;apply bb Tryz.func210 [];simp;refine aU (Lt 4#32 n) rfl ?_;simp;exact aH rfl rfl
theorem agp (a:D) :bi Tryz.prog GS 167 [bq a] (.bu [bq (if fK a then gy a 500000002 else 0#32),.int .i64 (if fK a then 0 else 2)]) :=by
 refine bt Tryz.checked.mixed bp ?_;apply bb Tryz.func167 [];simp;refine aU (UB a) rfl ?_;cases az:fK a with
 | false=>
  simp;exact aH rfl rfl
 | true=>
  simp;refine aU (Lt a 500000002#64) rfl ?_;simp;exact aH rfl rfl
theorem agw (a b:D) :bi Tryz.prog GS 170 [bq a,bq b] (bq (CP a b)) :=by
 refine bt Tryz.checked.mixed bp ?_;apply bb Tryz.func170 [];have aZ:∀ a:D,(a.setWidth 64:Q).toNat=a.toNat:=fun a=>by rw[aqF]; omega
 have de:((a.setWidth 64:Q)*b.setWidth 64 % 1000000007#64).setWidth 32=CP a b:=by
  apply aqE;rw[aqF,zI _ _ (by rw[aZ]; exact a.isLt) (by rw[aZ]; exact b.isLt),aZ,aZ];unfold CP;rw[aqK]
 simp[Gs,de];exact aH rfl rfl
def ud (l:List B) :Q:=l.foldl (fun n x=>(n <<< 8) ||| x.setWidth 64) 0#64
theorem NH (l:List B) (k:Nat) (x:B) (h:l[k]? = some x) :ud (l.take (k+1))=(ud (l.take k) <<< 8) ||| x.setWidth 64:=by
 rw[aqN,h]; simp[ud,asK]
theorem ahD (a:Q) (x:B) :(a <<< 8) ||| x.setWidth 64=256#64*a+x.setWidth 64:=by
 apply aqE;have ag:x.toNat<256:=x.isLt;have az:=a.isLt;rw[BitVec.toNat_or,asp,atp,asd,aqF];have h1:x.toNat % 2 ^ 64=x.toNat:=aqC (by omega);have ad:a.toNat <<< 8 % 2 ^ 64=(a.toNat % 2 ^ 56) <<< 8:=by rw[ar1,ar1]; omega
 have aj:=as1 (b:=x.toNat) (i:=8) (by omega) (a.toNat % 2 ^ 56);rw[h1,ad,<-aj,ar1];have aC:(256#64).toNat=256:=rfl;rw[aC];omega
def iz (n:D) :List B:=[(n >>> 24).setWidth 8,(n >>> 16).setWidth 8,(n >>> 8).setWidth 8,n.setWidth 8]
def k1 (l:List D) :List B:=l.flatMap iz
theorem ZD {l:List D} {k:Nat} {x:D} (h:l[k]? = some x) :k1 (l.take (k+1))=k1 (l.take k)++iz x:=by
 unfold k1; rw[aqN,h,arX]; simp
theorem PZ (l:List D) :(k1 l).length=4*l.length:=by
 induction l with
 | nil=>rfl
 | cons x l aJ=>unfold k1 at aJ ⊢; rw[List.flatMap_cons,aqA,aJ,aqH]; simp[iz]; omega
def Bt (b:List B) :Q:=ud ((ia b).take 8)
theorem agI {l:am} {b:Nat} {v m a8 ca:U} (h:l[b]? = some (.cells 2 [v,m])) (h1:ft (bK l) v a8) (ad:ft (bK l) m ca) :ft (bK l) (.ar 1 b 0 2 2 2) (.b0 1 [[a8],[ca]]) :=by
 refine .ar 1 b 0 2 2 2 [v,m] [[a8],[ca]] (lE.2 h) rfl (by simp) (by simp) (fun i j e c c' ap ai ah=>?_);rcases i with _ | _ | i
 ·simp at ap; subst ap;rcases j with _ | j
  ·simp at ai ah; subst ai ah; exact h1
  ·simp at ai
 ·simp at ap; subst ap;rcases j with _ | j
  ·simp at ai ah; subst ai ah; exact ad
  ·simp at ai
 ·simp at ap
theorem ahO {b:Nat}:gb (.arr 32 1) (.ptr b 0 32) none (some (.int .i64 8)) none=some (.ar 1 b 0 8 32 32) :=by
 have:gh 32 32 none (some (.int .i64 8)) none=some (0,8,32) :=rfl;simp only[gb,this]; rfl
structure Wj (hC:B) (m:dD) (c1:List D) (k:Nat) (ae:a2) (l:am) :Prop where
 aF:ae 1=bX m
 sG:ae 21=cy 1 eg (some c1)
 Iw:ae 22=.int .i64 c1.length
 yM:ae 23=.int .i64 k
 fB:∃ v,ae 8=v/\b7 1 bN [] l v (hC::k1 (c1.take k)) false
structure V6 (d:List B) (e:Int) (k:Nat) (ae:a2) (l:am) :Prop where
 hI:ae 12=.int .i64 e
 mz:ae 13=cD (ud (d.take k))
 Ix:∃ b n,ae 49=.ar 1 b 0 8 n n/\l[b]? = some (.cells n (d.map a6))/\n=32
 Iy:ae 50=.int .i64 8
 Iz:ae 51=.int .i64 k
set_option maxHeartbeats 1000000 in
theorem aaN (hC:B) (m:dD) (hm:m.l.length<=9991) (c1:List D) (ak:c1.length<=10) :bi Tryz.prog GS 249 [a6 hC,bX m,cy 1 eg (some c1)] (.bu [cD (Bt (hC::(k1 c1++m.l))),.int .i64 0]) :=by
 refine bt Tryz.checked.mixed bp ?_;apply bb Tryz.func249 [];have ay:cx=140737488355328:=rfl;have bc:cL (.ar 1) (bX m)=some (.int .i64 m.l.length) :=nt _;have ab1:cL (.ar 1) (cy 1 eg (some c1))=some (.int .i64 c1.length) :=nt _;have gk:¬ (9991:Int)<(m.l.length:Int) :=by omega
 have IL:¬ 9991<m.l.length:=by omega
 have h4:=hW m;simp[bc,ab1,gk,IL];refine cE c1.length (Wj hC m c1) ?_ ⟨by simp,by simp,by simp,by simp,_,rfl,⟨0,oo (n:=1) (a:=[hC]) rfl rfl,by simp,by simp,.inr (by simp),rfl⟩⟩;rintro k ae l hk ⟨aF,sG,Iw,yM,v,eS,ed⟩;obtain⟨ae,rfl⟩:=lC aF eS sG Iw yM;clear aF eS sG Iw yM;by_cases h:k<c1.length
 ·obtain⟨x,ag,_⟩:=bW h;have cg:cv (.ar 1) (cy 1 eg (some c1)) (.int .i64 k)=some (.b5 (eg x) 0) :=by rw[rB]; simp[ag]
  have eQ:IntKind.i64.wrap ((k:Int)+1)=(k+1:Nat) :=wrap_i64 (by omega) (by omega);have al:=ZD ag;have fj:=PZ (c1.take k);rw[aqM] at fj;obtain⟨a8,l',a7,bl,a3⟩:=(ed.more [bg.cells 4 ((iz x).map a6)]).app (by_:=1) (x:=.ar 1 l.length 0 4 4 4) (xs:=iz x) (by rw[wn]; simp[c8,iz]) (fun y _=>rfl) (by omega) (by omega) (by rw[ay]; simp[iz]; omega);rw[show (iz x).map a6=[.int .u8 (u (BitVec.setWidth 8 (x >>> 24))),.int .u8 (u (BitVec.setWidth 8 (x >>> 16))),.int .u8 (u (BitVec.setWidth 8 (x >>> 8))),.int .u8 (u (BitVec.setWidth 8 x))] from rfl] at a7;simp[h,cg,eg,eQ,a7];refine dq.cr ?_;simp[eQ];exact⟨by omega,by simp,by simp,by simp,by simp,a8,by simp,by rw[al,<-arw]; exact bl⟩
 ·have et:k=c1.length:=by omega
  subst et;rw[aq0] at ed;have fj:=PZ c1;have aB:=TX [some (hC::k1 c1),m] (by simp) (fun s al=>by
   rcases arI.1 al with h | h
   ·rw[h]; show (hC::k1 c1).length<=_; simp; omega
   ·rw[aq6.1 h]; omega)
  have dz:bytesOf [some (hC::k1 c1),m]=hC::(k1 c1++m.l) :=by simp[bytesOf]
  rw[dz] at aB;have mO:=ed.cells;have za:(bX m).cells=some [bX m] :=by cases m<;>rfl
  obtain⟨ic,wJ⟩:∃ ic,ic=ia (hC::(k1 c1++m.l)) :=⟨_,rfl⟩
  have wK:ic.length=32:=by rw[wJ]; exact vH _
  rw[<-wJ] at aB;have Jl:(ic.map a6).length=32:=by simp[wK]
  have Jt:fJ ic=.aI (ic.map a6) :=rfl;rw[Jt] at aB;have J1:bn (rep 32 (.int .u8 0)) 0 (ic.map a6)=ic.map a6:=eC (by rw[Jl]; rfl);have eV:∀ b,gb (.arr 32 1) (.ptr b 0 32) none (some (.int .i64 8)) none=some (.ar 1 b 0 8 32 32) :=fun b=>ahO (b:=b)
  simp[mO,za];refine il aB (.cons (agI (by simp) ((ed.more _).rT (fun _=>rfl) (some (hC::k1 c1)) rfl rfl) (.same _ h4)) .nil) (by simp[U.flat,k0,fJ,yJ a6 (fun _=>rfl)]) ?_;simp[wK,J1,eV];refine cE 8 (V6 ic 0) ?_ ⟨by simp,by simp[ud],⟨l.length+1,32,by simp,by simp[List.getElem?_append],rfl⟩,by simp,by simp⟩;clear ed;rintro k ae l hk ⟨hI,mz,⟨b,n,Ix,af,rfl⟩,Iy,Iz⟩;obtain⟨ae,rfl⟩:=lC hI mz Ix Iy Iz;clear hI mz Ix Iy Iz;by_cases h:k<8
  ·obtain⟨x,ag,_⟩:=bW (l:=ic) (k:=k) (by omega);have eQ:IntKind.i64.wrap ((k:Int)+1)=(k+1:Nat) :=wrap_i64 (by omega) (by omega);have al:=NH ic k x ag;have et:(k:Int)<8:=by omega
   have amU:(ic.map a6)[k]? = some (a6 x) :=by rw[aqx,ag]; rfl
   simp[h,et,af,eQ,ag];exact⟨by simp,by simp[al],⟨b,32,by simp,by simpa using af,rfl⟩,by simp,by simp⟩
  ·have hy:k=8:=by omega
   subst hy;simp;exact aH (by unfold Bt; rw[wJ]) rfl
def AM (r y:D) (m:List B) :D:=(Bt (99#8::(k1 [r,y]++m)) % 500000003#64).setWidth 32
theorem UF (x:Q) :b8 .rem .u64 (u x) .u64 500000003=some (.int .u64 (u (x % 500000003#64))) :=yo x 500000003#64 (by decide)
theorem ajf (r y:D) (m:dD) (hm:m.l.length<=9991) :bi Tryz.prog GS 200 [bq r,bq y,bX m] (.bu [bq (AM r y m.l),.int .i64 0]) :=by
 refine bt Tryz.checked.mixed bp ?_;apply bb Tryz.func200 [];have h4:=hW m;simp;refine il (aaN 99#8 m hm [r,y] (by simp)) (.cons (.same _ rfl) (.cons (.same _ h4) (.cons (CV (by simp)) .nil))) rfl ?_;simp[UF];exact aH rfl rfl
theorem Lr (a b:D) (af:b≠0#32) :b8 .quo .u32 (u a) .u32 (u b)=some (.int .u32 (u (a / b))) :=by
 have bH:(b.toNat:Int)≠0:=fun e=>af (aqE (by simpa using e))
 show (if IntKind.u32=IntKind.u32/\(b.toNat:Int)≠0 then some (U.int .u32 (IntKind.u32.wrap ((a.toNat:Int).tdiv b.toNat))) else none)=_;rw[if_pos ⟨rfl,bH⟩,Ai];congr 2;have:((a.toNat:Int).tdiv b.toNat)=((a.toNat / b.toNat:Nat) :Int) :=rfl;rw[this,arT];congr 1;apply aqE;rw[aqK,arU];exact aqC (Nat.lt_of_le_of_lt (Nat.div_le_self _ _) a.isLt)
theorem PY (x:D) {l:am} {K:U->am->Prop} (aS:∀ v l',b7 1 bN l l' v (iz x) false->K v l') :c2 Tryz.prog GS 223 [bq x] l (c:=⟨K⟩) :=by
 apply bb Tryz.func223 [];have q1:b8 .quo .u32 (u x) .u32 16777216=some (.int .u32 (u (x / 16777216#32))) :=Lr x 16777216#32 (by decide);have fZ:b8 .quo .u32 (u x) .u32 65536=some (.int .u32 (u (x / 65536#32))) :=Lr x 65536#32 (by decide);have pt:b8 .quo .u32 (u x) .u32 256=some (.int .u32 (u (x / 256#32))) :=Lr x 256#32 (by decide);have lz:∀ y:D,b8 .rem .u32 (u y) .u32 256=some (.int .u32 (u (y % 256#32))) :=fun y=>Xt y 256#32 (by decide)
 have ag:=x.isLt;have aR:BitVec.setWidth 8 (x / 16777216#32)=BitVec.setWidth 8 (x >>> 24) :=by
  apply aqE;rw[aqF,aqF,arU,arc,aqO];rfl
 have bI:BitVec.setWidth 8 (x / 65536#32 % 256#32)=BitVec.setWidth 8 (x >>> 16) :=by
  apply aqE;rw[aqF,aqF,arH,arU,arc,aqO];show x.toNat / 65536 % 256 % 256=x.toNat / 65536 % 256;omega
 have dJ:BitVec.setWidth 8 (x / 256#32 % 256#32)=BitVec.setWidth 8 (x >>> 8) :=by
  apply aqE;rw[aqF,aqF,arH,arU,arc,aqO];show x.toNat / 256 % 256 % 256=x.toNat / 256 % 256;omega
 have kB:BitVec.setWidth 8 (x % 256#32)=BitVec.setWidth 8 x:=by
  apply aqE;rw[aqF,aqF,arH];show x.toNat % 256 % 256=x.toNat % 256;omega
 simp[q1,fZ,pt,lz,aR,bI,dJ,kB];exact aS _ _ ⟨l.length,oo (n:=4) (a:=iz x) rfl (by simp; rfl),by simp,fun b af=>aqt af,.inr (by simp),rfl⟩
structure Wr (d:List B) (k:Nat) (ae:a2) (l:am) :Prop where
 aW:ae 3=.ptr 0 0 32
 bd:ae 4=cD (ud (d.take k))
 bh:ae 5=.int .i64 k
 gp:l[0]? = some (.cells 32 (d.map a6))
theorem afn (s:dD) (al:s.l.length<=1000000) :bi Tryz.prog GS 224 [bX s] (cD (Bt s.l)) :=by
 refine bt Tryz.checked.mixed bp ?_;apply bb Tryz.func224 [];have s5:=UC s al;have cp:=hW s;obtain⟨ic,wJ⟩:∃ ic,ic=ia s.l:=⟨_,rfl⟩
 have wK:ic.length=32:=by rw[wJ]; exact vH _
 rw[<-wJ] at s5;have Jt:fJ ic=.aI (ic.map a6) :=rfl;rw[Jt] at s5;have Jl:(ic.map a6).length=32:=by simp[wK]
 have J1:bn (rep 32 (.int .u8 0)) 0 (ic.map a6)=ic.map a6:=eC (by rw[Jl]; rfl);simp;refine aU s5 (by simp[aV,cp]) ?_;simp[wK,J1];refine cE 8 (Wr ic) ?_ ⟨by simp,by simp[ud],by simp,rfl⟩;rintro k ae l hk ⟨aW,bd,bh,gp⟩;obtain⟨ae,rfl⟩:=lB aW bd bh;clear aW bd bh;by_cases h:k<8
 ·obtain⟨x,ag,_⟩:=bW (l:=ic) (k:=k) (by omega);have eQ:IntKind.i64.wrap ((k:Int)+1)=(k+1:Nat) :=wrap_i64 (by omega) (by omega);have al:=NH ic k x ag;rw[ahD] at al;have et:(k:Int)<8:=by omega
  have Jw:k<32:=by omega
  simp[h,et,Jw,gp,eQ,ag];exact⟨by omega,by simp,by simp[al],by simp,gp⟩
 ·have hy:k=8:=by omega
  subst hy;simp;exact aH (by unfold Bt; rw[wJ]) rfl
theorem agm (r y:D) (m:dD) (hm:m.l.length<=900000) :bi Tryz.prog GS 169 [bq r,bq y,bX m] (bq (AM r y m.l)) :=by
 refine bt Tryz.checked.mixed bp ?_;apply bb Tryz.func169 [];have ay:cx=140737488355328:=rfl;have h4:=hW m;simp;refine PY r fun ff l1 h1=>?_
 have RN:=h1.le;have acv:b7 1 bN [] l1 (.ar 1 0 0 1 1 1) [99#8] false:=⟨0,oo (n:=1) (a:=[99#8]) rfl (by rw[h1.same 0 (by simp)]; rfl),by simp,by simp,.inr (by simp),rfl⟩
 obtain⟨dv,bZ,a7,bl,a3⟩:=acv.app (by_:=1) (x:=ff) (xs:=iz r) h1.contents (fun _ _=>rfl) (by omega) (by omega) (by rw[ay]; simp[iz]);simp[a7];refine dq.cr ?_;simp;refine PY y fun v3 dQ aj=>?_
 have acw:b7 1 bN [] dQ dv ([99#8]++iz r) false:=bl.frame aj.le aj.same;obtain⟨v4,oi,dU,dw,gZ⟩:=acw.app (by_:=1) (x:=v3) (xs:=iz y) aj.contents (fun _ _=>rfl) (by omega) (by omega) (by rw[ay]; simp[iz]);simp[dU];refine dq.cr ?_;obtain⟨v5,S7,ci,dd,j4⟩:=dw.app (by_:=1) (x:=bX m) (xs:=m.l) (Pk _ _) (fun _ _=>rfl) (by omega) (by omega) (by rw[ay]; simp[iz]; omega);simp[ci];refine dq.cr ?_;have af:(ez.l (some ([99#8]++iz r++iz y++m.l)) :List B)=99#8::(k1 [r,y]++m.l) :=by simp[k1]
 have R1:=afn (some ([99#8]++iz r++iz y++m.l)) (by rw[af]; simp[k1,iz]; omega);rw[af] at R1;simp;refine il R1 (.cons (dd.rT (fun _=>rfl) (some ([99#8]++iz r++iz y++m.l)) (by simp) rfl) .nil) rfl ?_;simp[UF];exact aH rfl rfl
theorem Gj (a n k:Nat) :fb (fb a n) k=fb a (n*k) :=by
 unfold fb; rw[<-as5,<-Nat.pow_mul]
theorem T5 (n:Nat) :fb 1 n=1:=by unfold fb; rw[Nat.one_pow]
theorem afV (a m n:Nat) :fb a (m+n)=fb a m*fb a n % 1000000007:=by
 unfold fb; rw[as4,asN]
theorem W9:fb 4 500000003=1:=by
 have h:=T2 4 500000003 (by decide) 64 (aqv _);rw[show 500000003 / 2 ^ (64 - 64)=500000003 from rfl] at h;rw[<-h];decide +kernel
theorem Ku {y:D} (h:fb y.toNat 500000003=1) (n:Nat) :fK (gy y n)=true:=by
 have ao:=rR y n;have aL:=xI y.toNat n;have h1:fb (fb y.toNat n) 500000003=1:=by
  rw[Gj,ato,<-Gj,h,T5]
 have aE:fb y.toNat n≠0:=fun e=>by
  rw[e] at h1;have av:∀ n,0<n->fb 0 n=0:=fun n aD=>by unfold fb; rw[Nat.zero_pow aD]
  rw[av _ (by decide)] at h1;cases h1
 unfold fK;rw[ao,decide_eq_true (by omega),decide_eq_true aL,decide_eq_true h1]; rfl
theorem SP {y:D} (h:fK y=true) :fb y.toNat 500000003=1:=by
 unfold fK at h; simp only[aqw,decide_eq_true_eq] at h; exact h.2
theorem W8 {y:D} (h:fb y.toNat 500000003=1) {e:Nat} (ap:e<500000003) :gy (gy y e) 500000002=gy y (500000003 - e) :=by
 apply aqE;rw[rR,rR,rR,Gj];rcases e with _ | e
 ·rw[asE,asX,h];unfold fb; rfl
 ·have aR:(e+1)*500000002=500000003*e+(500000003 - (e+1)) :=by omega
  rw[aR,afV,<-Gj,h,T5,asM,aqC (xI _ _)]
def CS (y:D) (e s:D) :D:=CP (gy 4#32 s.toNat) (gy y (500000003 - e.toNat))
def C8 (y:D) (m:List B) (e s:D) :Bool:=iy e&&(iy s&&decide (AM (CS y e s) y m=e))
theorem aif {e:D} (ap:e.toNat<500000003) :(500000003#64 - e.setWidth 64).toNat=500000003 - e.toNat:=by
 rw[BitVec.toNat_sub,aqF];have:(500000003#64).toNat=500000003:=rfl;rw[this]; omega
theorem ajx (y:D) (aG:fK y=true) (m:dD) (hm:m.l.length<=9991) (e s:D) :bi Tryz.prog GS 159 [bq y,bX m,.aI [bq e,bq s]] (.int .i64 (if C8 y m.l e s then 0 else 22)) :=by
 refine bt Tryz.checked.mixed bp ?_;apply bb Tryz.func159 [];unfold C8;have bc:cL (.ar 1) (bX m)=some (.int .i64 m.l.length) :=nt _;have gk:¬ (9991:Int)<(m.l.length:Int) :=by omega
 have IL:¬ 9991<m.l.length:=by omega
 have h4:=hW m;have bm:=SP aG;have Rp:=Kt y;rw[aG] at Rp;simp;refine aU Rp rfl ?_;obtain⟨M,hJ⟩:∃ M:Int,M=if u e<u s then u s else u e:=⟨_,rfl⟩
 have w0:tl (bq e) (bq s)=some (.int .u32 M) :=by rw[hJ]; simp[tl,bq]
 have QC:(500000003:Int)<=M<->500000003<=e.toNat\/500000003<=s.toNat:=by
  rw[hJ]; unfold u; split<;>omega
 simp[bc,gk,IL,w0];by_cases h1:500000003<=e.toNat\/500000003<=s.toNat
 ·have af:(iy e&&(iy s&&decide (AM (CS y e s) y m.l=e)))=false:=by
   unfold iy;rcases h1 with h | h
   ·rw[decide_eq_false (by omega)]; rfl
   ·rw[decide_eq_false (p:=s.toNat<500000003) (by omega)]; simp
  have ah:=QC.2 h1;simp[ah,af];exact aH rfl rfl
 ·have ah:¬ (500000003:Int)<=M:=fun h=>h1 (QC.1 h)
  have gE:iy e=true:=by unfold iy; exact decide_eq_true (by omega)
  have fI:iy s=true:=by unfold iy; exact decide_eq_true (by omega)
  have Sb:=ZM y (500000003#64 - e.setWidth 64);have acS:(s.setWidth 64:Q).toNat=s.toNat:=by rw[aqF]; omega
  have ES:=ZK (s.setWidth 64);rw[aG,if_pos rfl,if_pos rfl,aif (by omega)] at Sb;rw[acS] at ES;have sZ:=ZL (gy 4#32 s.toNat) (gy y (500000003 - e.toNat));rw[Ku (y:=4#32) W9,Ku bm] at sZ;simp only[ar5,if_true] at sZ;have Bx:=ajf (CS y e s) y m hm;have dV:∀ a b:D,((u a:Int)=u b)<->a=b:=fun a b=>⟨fun h=>aqE (by unfold u at h; omega),fun h=>by rw[h]⟩
  simp[ah];refine aU Sb rfl ?_;simp;refine aU ES rfl ?_;simp;refine aU sZ rfl ?_;simp;refine aU Bx (by simp[aV,U.closed,h4]) ?_;rw[gE,fI];by_cases aj:AM (CS y e s) y m.l=e
  ·simp[aj];exact aH rfl rfl
  ·simp[aj,dV];exact aH rfl rfl
theorem agq (s:D) :bi Tryz.prog GS 150 [bq s] (bq (gy 4#32 s.toNat)) :=by
 refine bt Tryz.checked.mixed bp ?_;apply bb Tryz.func150 [];have ahi:(s.setWidth 64:Q).toNat=s.toNat:=by rw[aqF]; omega
 have ER:=agk (s.setWidth 64);rw[ahi] at ER;simp;refine aU ER rfl ?_;simp;exact aH rfl rfl
theorem agx (y:D) (aG:fK y=true) (m:dD) (hm:m.l.length<=900000) (e s:D) :bi Tryz.prog GS 115 [bq y,bX m,.aI [bq e,bq s]] (.bool (C8 y m.l e s)) :=by
 refine bt Tryz.checked.mixed bp ?_;apply bb Tryz.func115 [[[0],[1],[3],[5],[6],[8],[9],[2,9],[4,9],[7,9]]];unfold C8;have h4:=hW m;have bm:=SP aG;have dV:∀ a b:D,((u a:Int)=u b)<->a=b:=fun a b=>⟨fun h=>aqE (by unfold u at h; omega),fun h=>by rw[h]⟩
 simp;refine aU (Ee e) rfl ?_;cases h1:iy e with
 | false=>simp; exact aH rfl rfl
 | true=>
 simp;refine aU (Ee s) rfl ?_;cases ad:iy s with
 | false=>simp; exact aH rfl rfl
 | true=>
 have ap:e.toNat<500000003:=by unfold iy at h1; exact of_decide_eq_true h1
 have YM:(e.setWidth 64:Q).toNat=e.toNat:=by rw[aqF]; omega
 have Sf:=Lt y (e.setWidth 64);rw[YM] at Sf;have Rv:=agp (gy y e.toNat);rw[Ku bm,if_pos rfl,if_pos rfl,W8 bm ap] at Rv;have ER:=agq s;have zf:=agw (gy 4#32 s.toNat) (gy y (500000003 - e.toNat));have Bx:=agm (CS y e s) y m hm;simp;refine aU Sf rfl ?_;simp;refine aU Rv rfl ?_;simp;refine aU ER rfl ?_;simp;refine aU zf rfl ?_;simp;refine aU Bx (by simp[aV,U.closed,h4]) ?_;simp[dV];exact aH rfl rfl
def L3 (o:bA) :Bool:=C8 o.gM (jP o) o.e o.s
def pD (o:bA) :Int:=if fY o=0 then (if L3 o then 0 else 22) else fY o
theorem TF {o:bA} (ax:∀ x∈o.bo.l,x.length=32) (h:fY o=0) :fK o.gM=true/\(jP o).length<=9991:=by
 have aC:=xC h;unfold fY at h;rw[if_neg (by omega)] at h;split at h
 ·split at h
  ·rename_i ay au;unfold rb at au;simp only[aqw,decide_eq_true_eq] at au;obtain⟨aF,aQ,aW,bd,bh⟩:=au;refine⟨aF,?_⟩;have Jy:o.act.key.length<=20/\(o.act.kind=4#8->o.act.val.text.length<=30) :=by
    unfold hU at aW;split at aW
    ·rename_i h1;simp only[aqw,decide_eq_true_eq] at aW;rw[aW.1];exact⟨by simp,fun h=>by rw[h1] at h; cases h⟩
    ·split at aW
     ·rename_i h1 ad;simp only[aqw] at aW;have hk:=aW.1;unfold fE at hk;simp only[aqw,decide_eq_true_eq] at hk;exact⟨hk.1.2,fun h=>by rw[h] at ad; rcases ad with ad | ad<;>cases ad⟩
     ·split at aW
      ·simp only[aqw] at aW;obtain⟨hk,ao⟩:=aW;unfold fE at hk;simp only[aqw,decide_eq_true_eq] at hk;refine⟨hk.1.2,fun _=>?_⟩;unfold i9 at ao;split at ao
       ·simp only[aqw,decide_eq_true_eq] at ao; rw[ao.2]; simp
       ·split at ao
        ·simp only[aqw,decide_eq_true_eq] at ao; rw[ao.1.2]; simp
        ·split at ao
         ·simp only[aqw,decide_eq_true_eq] at ao; exact ao.1.2
         ·cases ao
      ·cases aW
   have kq:=hD o.gM.toNat
   have pn:=hD o.cX.toNat
   have qE:=Cz ax;have rI:=Ac (e7 o.act.key);rw[px] at rI;have xv:=Di o.act.val;have n6:(opHead o).length<=10:=by unfold opHead; simp; omega
   unfold jP;simp only[aqA,aqH,aq5];have n7:(if o.act.kind=1#8 then ([] :List B) else io (e7 o.act.key)).length<=29:=by
    split
    ·simp
    ·omega
   have n8:(if o.act.kind=4#8 then ir o.act.val else []).length<=50:=by
    split
    ·rename_i h; have:=Jy.2 h; omega
    ·simp
   omega
  ·cases h
 ·cases h
theorem ajy (o:bA) (aq:lG o) :bi Tryz.prog GS 103 [.aI (bj o)] (.int .i64 (pD o)) :=by
 refine bt Tryz.checked.mixed bp ?_;apply bb Tryz.func103 [];unfold pD;have c7:=pR o;have cz:=G0 o aq;have wI:aV [U.aI (bj o)]=true:=by simp[aV,U.closed,c7]
 by_cases aE:fY o=0
 ·obtain⟨au,bc⟩:=TF aq.ids aE;rw[if_pos aE];simp[bj];refine aU cz wI ?_;simp[aE];refine VQ o aq (NB aE) fun w l' h=>?_
  have gp:l'[0]? = some (.cells 11 (bj o)) :=by rw[h.same 0 (by simp)]; rfl
  have CL:=gp;simp[bj] at CL;have ao:=ajx o.gM au (some (jP o)) bc o.e o.s;simp[CL];refine il ao (.cons (.same _ rfl) (.cons (h.rT (fun _=>rfl) (some (jP o)) rfl rfl) (.cons (.same _ rfl) .nil))) rfl ?_;simp;exact aH rfl rfl
 ·rw[if_neg aE];simp[bj];refine aU cz wI ?_;simp[aE];exact aH rfl rfl
theorem agA (o:bA) (aq:lG o) (aE:fY o=0) :bi Tryz.prog GS 73 [.aI (bj o)] (.bool (L3 o)) :=by
 refine bt Tryz.checked.mixed bp ?_;apply bb Tryz.func73 [[[0],[1],[2],[4],[5],[3,5,1]]];have c7:=pR o;obtain⟨au,bc⟩:=TF aq.ids aE;have ao:=agx o.gM au (some (jP o)) (by show (jP o).length<=_; omega) o.e o.s;simp[bj];refine Ur o aq (by have:=xC aE; omega) fun w l' h=>?_
 have gp:l'[0]? = some (.cells 11 (bj o)) :=by rw[h.same 0 (by simp)]; rfl
 have CL:=gp;simp[bj] at CL;simp[CL];refine il ao (.cons (.same _ rfl) (.cons (h.rT (fun _=>rfl) (some (jP o)) rfl rfl) (.cons (.same _ rfl) .nil))) rfl ?_;simp;exact aH rfl rfl
theorem agD (o:bA) (aq:lG o) :bi Tryz.prog GS 81 [.aI (bj o)] (.int .i64 (pD o)) :=by
 refine bt Tryz.checked.mixed bp ?_;apply bb Tryz.func81 [];unfold pD;have c7:=pR o;have cz:=agu o aq;have wI:aV [U.aI (bj o)]=true:=by simp[aV,U.closed,c7]
 by_cases aE:fY o=0
 ·rw[if_pos aE];simp[bj];refine aU cz wI ?_;simp[aE];refine aU (agA o aq aE) wI ?_;cases al:L3 o with
  | true=>simp; exact aH rfl rfl
  | false=>simp; exact aH rfl rfl
 ·rw[if_neg aE];simp[bj];refine aU cz wI ?_;simp[aE];refine aU cz wI ?_;simp;exact aH rfl rfl
end Op

end Go.bJ

namespace Go.bJ
open Go Go.Proofs
set_option maxRecDepth 100000
namespace Op

section
variable {α:Type} {z:Nat} {enc:α->List U}
theorem afw {by_:Nat} {l l1:am} {v:U} {a:List α} {fo:Bool} (h:b7 z enc l l1 v a fo) (x:α) {b:Nat} (af:l1[b]? = some (.cells z (enc x))) (ag:(enc x).length=z) (aE:z≠0) (dz:by_≠0) (du:(a.length+1)*by_<=cx) :
  ∃ a8 l',iR l1 z by_ v (.ar z b 0 1 1 z)=some (a8,l')/\b7 z enc l l' a8 (a++[x]) false/\l1.length<=l'.length:=by
 obtain⟨a8,l',aF,aQ,aW⟩:=h.app (by_:=by_) (x:=.ar z b 0 1 1 z) (xs:=[x]) (by simp[c8,af,ag,aqs]) (by simp[ag]) aE dz (by simpa using du);exact⟨a8,l',aF,by simpa using aQ,aW⟩
def kh (l:List α) (i:Nat) (x:α) :List α:=l.take i++x::l.drop i
theorem Kq (l:List α) (i:Nat) (x:α) :(kh l i x).length=l.length+1:=by
 unfold kh;have:=congrArg List.length (aq8 i l);simp only[aqA,aqH] at this ⊢; omega
theorem SK {l:List α} {i:Nat} {x y:α}:y∈kh l i x<->y=x\/y∈l:=by
 unfold kh;rw[arz,arI];constructor
 ·rintro (h | h | h)
  ·exact .inr (ard h)
  ·exact .inl h
  ·exact .inr (asT h)
 ·rintro (h | h)
  ·exact .inr (.inl h)
  ·rw[<-aq8 i l,arz] at h;exact h.elim .inl fun h=>.inr (.inr h)
def oq (lt:α->α->Bool) (l:List α) (x:α) :Nat->Nat
 | 0=>0
 | k+1=>match l[k]? with
  | some y=>if lt x y then oq lt l x k else k+1
  | none=>k+1
theorem T3 {lt:α->α->Bool} {l:List α} {x y:α} {k:Nat} (h:l[k]? = some y) :oq lt l x (k+1)=if lt x y then oq lt l x k else k+1:=by
 rw[oq,h]
theorem adK {lt:α->α->Bool} (ac8:∀ a b c,lt a b=true->lt b c=true->lt a c=true) {l:List α} {x:α} (al:l.Pairwise fun a b=>lt a b=true) (ag:∀ y∈l,lt x y=false->lt y x=true) :
  (kh l (oq lt l x l.length) x).Pairwise fun a b=>lt a b=true:=by
 have key:∀ k,k<=l.length->(∀ y∈l.drop k,lt x y=true)->(kh l (oq lt l x k) x).Pairwise fun a b=>lt a b=true:=by
  intro k
  induction k with
  | zero=>
   intro _ h;show (kh l 0 x).Pairwise _;unfold kh;rw[arJ,aru,ary,List.pairwise_cons];exact⟨h,al⟩
  | succ k aJ=>
   intro hk h;obtain⟨y,aG,dg⟩:=bW (l:=l) (k:=k) (by omega);rw[T3 aG];have br:l.drop k=y::l.drop (k+1) :=by rw[arm (by omega),(aqr.1 aG).2]
   have aP:l.take (k+1)=l.take k++[y] :=by rw[aqN,aG]; rfl
   cases kM:lt x y with
   | true=>
    rw[if_pos rfl];refine aJ (by omega) fun w hw=>?_
    rw[br] at hw;rcases arI.1 hw with rfl | hw
    ·exact kM
    ·exact h w hw
   | false=>
    rw[if_neg (by simp)];have Sz:=ag y dg kM;have h1:∀ a∈l.take (k+1),lt a x=true:=fun a az=>by
     rw[aP,arz,aq6] at az;rcases az with az | rfl
     ·have ad:(l.take k++y::l.drop (k+1)).Pairwise fun a b=>lt a b=true:=by rw[<-br,aq8]; exact al
      exact ac8 _ _ _ ((as0.1 ad).2.2 a az y (by simp)) Sz
     ·exact Sz
    unfold kh;have ad:=al;rw[<-aq8 (k+1) l] at ad;obtain⟨ly,qH,Lg⟩:=as0.1 ad;refine as0.2 ⟨ly,List.pairwise_cons.2 ⟨h,qH⟩,fun a az b af=>?_⟩;rcases arI.1 af with rfl | af
    ·exact h1 a az
    ·exact Lg a az b af
 exact key _ (aqv _) (by simp)
def z2 (lt:α->α->Bool) (u:List α) :Nat->List α
 | 0=>[]
 | i+1=>match u[i]? with
  | some x=>kh (z2 lt u i) (oq lt (z2 lt u i) x (z2 lt u i).length) x
  | none=>z2 lt u i
end

section
variable {α:Type} [DecidableEq α]
end

end Op

end Go.bJ

namespace Go.bJ
open Go Go.Proofs
set_option maxRecDepth 100000
namespace Op
open eX
def kj {α:Type} [DecidableEq α] (x:α) :List α->Nat->Int
 | [],_=>-1
 | y::r,k=>if y=x then (k:Int) else kj x r (k+1)
theorem xh {α:Type} [DecidableEq α] (x:α) :∀ (l:List α) (k:Nat),(0<=kj x l k)<->x∈l
 | [],k=>by simp[kj]
 | y::r,k=>by
  unfold kj;by_cases h:y=x
  ·simp[h]
  ·rw[if_neg h,xh x r (k+1)];simp[Ne.symm h]
theorem Cq {α:Type} [DecidableEq α] {x:α}:∀ {l:List α} {k n:Nat} {y:α},l[k]? = some y->(∀ (j:Nat) (z:α),j<k->l[j]? = some z->z≠x)->y=x->kj x l n=((n+k:Nat) :Int)
 | [],k,n,y,h,_,_=>by simp at h
 | w::r,0,n,y,h,_,aG=>by
  simp at h; subst h;unfold kj;rw[if_pos aG]; simp
 | w::r,k+1,n,y,h,ak,aG=>by
  unfold kj;rw[if_neg (ak 0 w (by omega) (by simp)),Cq (k:=k) (n:=n+1) (by simpa using h) (fun j z ai av=>ak (j+1) z (by omega) (by simpa using av)) aG];congr 1; omega
theorem Kv {α:Type} [DecidableEq α] {x:α}:∀ {l:List α} {n:Nat},(∀ (j:Nat) (z:α),l[j]? = some z->z≠x)->kj x l n=-1
 | [],n,_=>rfl
 | w::r,n,ak=>by
  unfold kj;rw[if_neg (ak 0 w (by simp)),Kv fun j z av=>ak (j+1) z (by simpa using av)]
theorem Um (s:eI) (aq:g7 s) (ak:s.l.length<=1000000) (x:List B) (ag:x.length=32) :bi Tryz.prog GS 133 [aT s,.aI (aY x)] (.int .i64 (kj x s.l 0)) :=by
 refine bt Tryz.checked.mixed bp ?_;apply bb Tryz.func133 [];simp[aT];refine cE s.l.length (fun k ae l=>l=[.cells 32 (aY x)]/\ae 0=cy 32 aY s/\ae 3=.ptr 0 0 32/\ae 5=.int .i64 k/\∀ (j:Nat) (z:List B),j<k->s.l[j]? = some z->z≠x) ?_ (by simp[aT,dk ag]);rintro k ae l hk ⟨rfl,b9,aW,bh,al⟩;obtain⟨ae,rfl⟩:=lB b9 aW bh;clear b9 aW bh;simp;refine lY (fun h=>?_) (fun h=>?_)
 ·simp only[decide_eq_true_eq] at h;obtain⟨y,aG,dg⟩:=bW (l:=s.l) (k:=k) (by omega);have aR:IntKind.i64.wrap ((k:Int)+1)=((k+1:Nat) :Int) :=by rw[IntKind.wrap_i64]; omega
  simp[aG,dk (aq y dg),dk ag,aqs,SH (aq y dg) ag];by_cases ap:y=x
  ·have fm:=Cq (n:=0) aG al ap;simp[ap];exact aH (by rw[fm]; simp) rfl
  ·simp[ap,aR];refine⟨by omega,fun j z ai av=>?_⟩;by_cases h5:j=k
   ·subst h5; rw[aG] at av; obtain rfl:=Option.some.inj av; exact fun h=>ap h
   ·exact al j z (by omega) av
 ·simp[h];have lP:k=s.l.length:=by simp at h; omega
  exact aH (by rw[Kv fun j z av=>al j z (by rw[lP]; exact (aqr.1 av).1) av]) rfl
def sn (l ck:List (List B)) :Bool:=decide (∀ p∈ck,p∈l)
theorem Uk (s:eI) (aq:g7 s) (ak:s.l.length<=1000000) (t:eI) (aP:g7 t) (jG:t.l.length<=1000000) :bi Tryz.prog GS 124 [aT s,aT t] (.bool (sn s.l t.l)) :=by
 refine bt Tryz.checked.mixed bp ?_;apply bb Tryz.func124 [];have cp:=gC s;have aL:cL (.ar 32) (aT t)=some (.int .i64 t.l.length) :=by simp[aT]
 simp;refine cE t.l.length (fun k ae l=>ae 0=aT s/\ae 1=aT t/\ae 5=.int .i64 k/\∀ (j:Nat) (z:List B),j<k->t.l[j]? = some z->z∈s.l) ?_ (by simp);rintro k ae l hk ⟨b9,aF,bh,al⟩;obtain⟨ae,rfl⟩:=lB b9 aF bh;clear b9 aF bh;by_cases cI:k<t.l.length
 ·obtain⟨y,aG,dg⟩:=bW cI;have aR:IntKind.i64.wrap ((k:Int)+1)=((k+1:Nat) :Int) :=by rw[IntKind.wrap_i64]; omega
  have cg:cv (.ar 32) (aT t) (.int .i64 (k:Int))=some (.b5 (aY y) 0) :=by simp[aT,aG]
  have nh:=hX y;have fi:=Um s aq ak y (aP y dg);have df:=dk (aP y dg);have RY:=xh y s.l 0;obtain⟨Y,gQ⟩:∃ Y,Y=aY y:=⟨_,rfl⟩
  rw[<-gQ] at cg nh fi df;simp[aL,cI,cg,df,aqs];refine aU fi (by simp[aV,U.closed,cp,nh]) ?_;by_cases hm:y∈s.l
  ·have ad:¬ kj y s.l 0<0:=by have:=RY.2 hm; omega
   simp[ad,cI,aR];intro j z ai av;by_cases h5:j=k
   ·subst h5; rw[aG] at av; obtain rfl:=Option.some.inj av; exact hm
   ·exact al j z (by omega) av
  ·have ad:kj y s.l 0<0:=by
    rcases Int.lt_or_le (kj y s.l 0) 0 with h | h
    ·exact h
    ·exact absurd (RY.1 h) hm
   simp[ad];exact aH (congrArg U.bool (decide_eq_false fun h=>hm (h y dg)).symm) rfl
 ·have lP:k=t.l.length:=by omega
  simp[aL,cI];refine aH (congrArg U.bool (decide_eq_true fun p aB=>?_).symm) rfl;obtain⟨j,ai⟩:=aqU.1 aB;exact al j p (by rw[lP]; exact (aqr.1 ai).1) ai
theorem xQ {l:List (List B)} (h:eB l=true) :∀ {i j:Nat} {a b:List B},i<j->l[i]? = some a->l[j]? = some b->cd a b<0:=by
 have aE:=of_decide_eq_true h;intro i j
 induction j with
 | zero=>intro a b hx; omega
 | succ j aJ=>
  intro a b hx az af;have eN:=(aqr.1 af).1;have h1:=aE (j+1) eN (by omega);obtain⟨c,ah,_⟩:=bW (l:=l) (k:=j) (by omega);rw[show j+1 - 1=j by omega,gG ah,gG af] at h1;by_cases abI:i=j
  ·subst abI;rw[az] at ah;obtain rfl:=Option.some.inj ah;exact h1
  ·exact AW _ _ _ (aJ (by omega) az ah) h1
theorem ag1 {l:List (List B)} (h:eB l=true) {i j:Nat} {a:List B} (az:l[i]? = some a) (af:l[j]? = some a) :i=j:=by
 rcases arN i j with h1 | h1 | h1
 ·have:=xQ h h1 az af; rw[sy] at this; omega
 ·exact h1
 ·have:=xQ h h1 af az; rw[sy] at this; omega
def we (l:List (List B)) (x:List B) :Nat:=(l.takeWhile fun t=>decide (cd t x<0)).length
theorem H3 (x:List B) :∀ {l:List (List B)} {p:Nat},p<=l.length->(∀ (t:Nat) (y:List B),t<p->l[t]? = some y->cd y x<0)->(∀ y,l[p]? = some y->¬ cd y x<0)->we l x=p
 | [],p,aB,_,_=>by simp at aB; subst aB; rfl
 | y::l,0,_,_,ad=>by
  have:=ad y (by simp);unfold we;rw[asg,decide_eq_false this]; rfl
 | y::l,p+1,aB,h1,ad=>by
  have aG:=h1 0 y (by omega) (by simp);have aJ:=H3 x (l:=l) (p:=p) (by simpa using aB) (fun t z aP av=>h1 (t+1) z (by omega) (by simpa using av)) (fun z av=>ad z (by simpa using av));unfold we at aJ ⊢;rw[asg,decide_eq_true aG];simpa using aJ
theorem ahF (n:Nat) (h:n<9223372036854775808) :b8 .shr .u64 (n:Int) .u64 1=some (.int .u64 ((n / 2:Nat) :Int)) :=by
 have:=sq (BitVec.ofNat 64 n) .u64 1;have aK:(u (BitVec.ofNat 64 n) :Int)=n:=by unfold u; rw[aqK,aqC (by omega)]
 have ao:(u (BitVec.ofNat 64 n >>> 1) :Int)=((n / 2:Nat) :Int) :=by
  unfold u; rw[arc,aqK,aqC (by omega),aqO]
 rw[aK,ao] at this;exact this
structure V9 (s:eI) (X:List U) (x:List B) (m:Nat) (ae:a2) (l:am) :Prop where
 fB:∃ (i j:Nat),j - i=m/\i<=j/\j<=s.l.length/\l=[.cells 32 X]/\ae 0=aT s/\ae 2=.fn 204 [] []/\ae 4=.ptr 0 0 32/\ae 8=.int .i64 s.l.length/\ae 9=.int .i64 i/\ae 10=.int .i64 j ∧
  (∀ (t:Nat) (y:List B),t<i->s.l[t]? = some y->cd y x<0)/\(∀ (t:Nat) (y:List B),j<=t->s.l[t]? = some y->¬ cd y x<0)
theorem UZ (s:eI) (aq:g7 s) (ak:s.l.length<=1000000) (x:List B) (ag:x.length=32) (hm:eB s.l=true) :
  bi Tryz.prog GS 232 [aT s,.aI (aY x),.fn 204 [] []] (.bu [.int .i64 (we s.l x),.bool (decide (x∈s.l))]) :=by
 refine bt Tryz.checked.mixed bp ?_;apply bb Tryz.func232 [];have bc:cL (.ar 32) (aT s)=some (.int .i64 s.l.length) :=by simp[aT]
 have bB:=dk ag;have np:=hX x;have h4:∀ y∈s.l,bi Tryz.prog GS 204 [.aI (aY y),.aI (aY x)] (.int .i64 (cd y x)) :=fun y aG=>yy y x (aq y aG) ag
 obtain⟨X,dy⟩:∃ X,X=aY x:=⟨_,rfl⟩
 rw[<-dy] at bB np h4 ⊢;simp[bc];refine zF (V9 s X x) ?_ s.l.length _ _ ⟨0,s.l.length,by omega,by omega,by omega,by simp[bB],by simp,by simp,by simp[bB],by simp,by simp,by simp,fun t y h=>by omega,fun t y h ad=>by rw[aqJ h] at ad; cases ad⟩;rintro m ae l ⟨i,j,fQ,hx,eN,rfl,b9,aQ,bd,eS,hb,gP,h1,ad⟩;obtain⟨ae,rfl⟩:=Af b9 aQ bd eS hb gP;clear b9 aQ bd eS hb gP;by_cases aL:i<j
 ·obtain⟨h,aM⟩:∃ h,h=(i+j) / 2:=⟨_,rfl⟩
  have bS:IntKind.i64.wrap ((i:Int)+j)=((i+j:Nat) :Int) :=by rw[IntKind.wrap_i64]; omega
  have w2:IntKind.u64.wrap ((i+j:Nat) :Int)=((i+j:Nat) :Int) :=by rw[vU,arT]; unfold u; rw[aqK,aqC (by omega)]
  have dT:=ahF (i+j) (by omega);have pF:IntKind.i64.wrap (h:Int)=(h:Int) :=by rw[IntKind.wrap_i64]; omega
  have r6:IntKind.i64.wrap ((h:Int)+1)=((h+1:Nat) :Int) :=by rw[IntKind.wrap_i64]; omega
  have iD:(i:Int)<(j:Int) :=by omega
  rw[<-aM] at dT;obtain⟨y,aG,dg⟩:=bW (l:=s.l) (k:=h) (by omega);have df:=dk (aq y dg);have Cd:=hX y;have cg:cv (.ar 32) (aT s) (.int .i64 (h:Int))=some (.b5 (aY y) 0) :=by simp[aT,aG]
  have nh:=h4 y dg;obtain⟨Y,gQ⟩:∃ Y,Y=aY y:=⟨_,rfl⟩
  rw[<-gQ] at df Cd cg nh;obtain⟨N,eP⟩:∃ N,N=i+j:=⟨_,rfl⟩
  rw[<-eP] at bS w2 dT;simp[aL,bS,w2,dT,pF,cg,df,bB,aqs];refine⟨It,aU nh (by simp[aV,U.closed,Cd,np]) ?_⟩;by_cases bx:cd y x<0
  ·simp[bx,r6];refine⟨j - (h+1),by omega,h+1,j,rfl,by omega,by omega,by simp,by simp,by simp,by simp,by simp,by simp,by simp,fun t z aP av=>?_,ad⟩;by_cases J8:t=h
   ·subst J8; rw[aG] at av; obtain rfl:=Option.some.inj av; exact bx
   ·exact AW _ _ _ (xQ hm (by omega) av aG) bx
  ·simp[bx];refine⟨h - i,by omega,i,h,rfl,by omega,by omega,by simp,by simp,by simp,by simp,by simp,by simp,by simp,h1,fun t z aP av de=>bx ?_⟩;by_cases J8:t=h
   ·subst J8; rw[aG] at av; obtain rfl:=Option.some.inj av; exact de
   ·exact AW _ _ _ (xQ hm (by omega) aG av) de
 ·have iD:¬ (i:Int)<(j:Int) :=by omega
  obtain rfl:i=j:=by omega
  have ah:=H3 x (l:=s.l) (p:=i) eN h1 (fun y aG=>ad i y (aqv _) aG);have kI:∀ {y:List B},s.l[i]? = some y->(y=x<->x∈s.l) :=fun {y} aG=>by
   constructor
   ·rintro rfl; exact aqI aG
   ·intro Cb;obtain⟨t,aP⟩:=aqU.1 Cb;rcases arN t i with aj | aj | aj
    ·have:=h1 t x aj aP; rw[sy] at this; omega
    ·subst aj; rw[aG] at aP; exact Option.some.inj aP
    ·exact absurd (xQ hm aj aG aP) (ad i y (aqv _) aG)
  by_cases fk:i<s.l.length
  ·have abJ:(i:Int)<(s.l.length:Int) :=by omega
   obtain⟨y,aG,dg⟩:=bW (l:=s.l) (k:=i) fk;have df:=dk (aq y dg);have Cd:=hX y;have cg:cv (.ar 32) (aT s) (.int .i64 (i:Int))=some (.b5 (aY y) 0) :=by simp[aT,aG]
   have nh:=h4 y dg;have Jh:cd y x=0<->x∈s.l:=by
    rw[<-kI aG];exact⟨D0,fun h=>by rw[h]; exact sy _⟩
   obtain⟨Y,gQ⟩:∃ Y,Y=aY y:=⟨_,rfl⟩
   rw[<-gQ] at df Cd cg nh;simp[fk,cg,df,bB,aqs];refine⟨It,aU nh (by simp[aV,U.closed,Cd,np]) ?_⟩;simp;refine aH ?_ rfl;rw[ah];simp[Jh]
  ·have abJ:¬ (i:Int)<(s.l.length:Int) :=by omega
   simp[fk];refine aH ?_ rfl;have eU:¬ x∈s.l:=fun Cb=>by
    obtain⟨t,aP⟩:=aqU.1 Cb;have:=h1 t x (by have:=(aqr.1 aP).1; omega) aP;rw[sy] at this; omega
   rw[ah,decide_eq_false eU]
theorem Pc {l:List (List B)} (hm:eB l=true) {k:Nat} {x:List B} (h:l[k]? = some x) :we l x=k:=
 H3 x (asu (aqr.1 h).1) (fun t y aP aG=>xQ hm aP aG h) (fun y aG=>by rw[h] at aG; obtain rfl:=Option.some.inj aG; rw[sy]; omega)
structure bM where
 ids:eI
 ops:ez bA
def b1 (s:ez bA) :U:=cy 11 bj s
def dB (g:bM) :List U:=[aT g.ids,b1 g.ops]
def c3 (g:bM) :U:=.aI (dB g)
structure hS (g:bM) :Prop where
 ids:g7 g.ids
 ops:∀ o∈g.ops.l,lG o
 li:g.ids.l.length<=1000000
 cB:g.ops.l.length<=1000000
theorem mr (s:ez bA) :(b1 s).closed=true:=uk pR s
theorem Yd (g:bM) :aV (dB g)=true:=by have:=gC g.ids; have:=mr g.ops; simp[dB,aV, *]
theorem DY (g:bM) :(c3 g).closed=true:=by simp[c3,U.closed,Yd]
def dX (ops:List bA) (i:Nat) :List (List B) :=match ops[i]? with | some o=>o.bo.l | none=>[]
theorem xJ {ops:List bA} {i:Nat} {o:bA} (h:ops[i]? = some o) :dX ops i=o.bo.l:=by unfold dX; rw[h]
inductive pI (ids:List (List B)) (ops:List bA) :Nat->Prop
 | mk (i:Nat) (ax:i<ids.length) (aB:∀ p∈dX ops i,p∈ids) (au:∀ p∈dX ops i,∀ j,ids[j]? = some p->pI ids ops j) :pI ids ops i
theorem pI.lt {ids:List (List B)} {ops:List bA} {i:Nat} (h:pI ids ops i) :i<ids.length:=by cases h; assumption
def mc (ids:List (List B)) :Prop:=∀ (i j:Nat) (x:List B),ids[i]? = some x->ids[j]? = some x->i=j
theorem u4 {ids:List (List B)} (h:eB ids=true) :mc ids:=fun _ _ _ h1 ad=>ag1 h h1 ad
theorem tF:∀ {a b:List Nat},a.Nodup->(∀ x∈a,x∈b)->a.length<=b.length
 | [],_,_,_=>arE _
 | x::a,b,aD,al=>by
  rw[aty] at aD;have ag:=al x (by simp);have aJ:=tF (b:=b.erase x) aD.2 (fun y aG=>(List.mem_erase_of_ne (fun e=>aD.1 (by rw[<-e]; exact aG))).2 (al y (by simp[aG])));rw[List.length_erase_of_mem ag] at aJ;have:=List.length_pos_of_mem ag;simp; omega
def su (ids:List (List B)) (ops:List bA) (out:List Nat) (i:Nat) :Bool:=decide (i∉out)&&sn (out.map (bU ids)) (dX ops i)
def iO (ids:List (List B)) (ops:List bA) (out:List Nat) :Option Nat:=(List.range ops.length).find? (su ids ops out)
def ev (ids:List (List B)) (ops:List bA) :Nat->List Nat
 | 0=>[]
 | k+1=>match iO ids ops (ev ids ops k) with | some i=>ev ids ops k++[i] | none=>ev ids ops k
def qG (ids:List (List B)) (ops:List bA) :List Nat:=ev ids ops ops.length
theorem F4 {ids:List (List B)} {ops:List bA} {out:List Nat} {i:Nat} (h:iO ids ops out=some i) :i<ops.length/\i∉out/\∀ p∈dX ops i,p∈out.map (bU ids) :=by
 have h1:=List.find?_some h;have ad:=atj h;unfold su at h1;rw[aqw,decide_eq_true_eq] at h1;exact⟨aqZ.1 ad,h1.1,of_decide_eq_true h1.2⟩
theorem afr {ids:List (List B)} {ops:List bA} {out:List Nat} (h:iO ids ops out=none) {i:Nat} (ax:i<ops.length) (aq:i∉out) :¬ ∀ p∈dX ops i,p∈out.map (bU ids) :=by
 intro aM;have:=List.find?_eq_none.1 h i (aqZ.2 ax);apply this;unfold su;rw[aqw];exact⟨decide_eq_true aq,decide_eq_true aM⟩
theorem afp {ids:List (List B)} {ops:List bA} {out:List Nat} {i:Nat} (ax:i<ops.length) (h:su ids ops out i=true) (af:∀ j,j<i->su ids ops out j=false) :iO ids ops out=some i:=by
 unfold iO;rw[List.find?_range_eq_some];exact⟨h,by simpa using ax,fun j ai=>by rw[af j ai]; rfl⟩
theorem afq {ids:List (List B)} {ops:List bA} {out:List Nat} (af:∀ j,j<ops.length->su ids ops out j=false) :iO ids ops out=none:=by
 unfold iO;rw[List.find?_eq_none];intro j ai;rw[af j (aqZ.1 ai)]; simp
theorem xF {ids:List (List B)} {ops:List bA} {k i:Nat} (h:iO ids ops (ev ids ops k)=some i) :ev ids ops (k+1)=ev ids ops k++[i] :=by
 show (match iO ids ops (ev ids ops k) with | some i=>ev ids ops k++[i] | none=>ev ids ops k)=_;rw[h]
theorem xE {ids:List (List B)} {ops:List bA} {k:Nat} (h:iO ids ops (ev ids ops k)=none) :ev ids ops (k+1)=ev ids ops k:=by
 show (match iO ids ops (ev ids ops k) with | some i=>ev ids ops k++[i] | none=>ev ids ops k)=_;rw[h]
theorem xD (ids:List (List B)) (ops:List bA) (aD:ids.length=ops.length) (ai:mc ids) :∀ k,(ev ids ops k).Nodup/\(ev ids ops k).length<=k/\∀ i∈ev ids ops k,i<ops.length/\pI ids ops i
 | 0=>⟨List.nodup_nil,aqv _,fun i ax=>by cases ax⟩
 | k+1=>by
  obtain⟨h1,ad,aj⟩:=xD ids ops aD ai k;cases ag:iO ids ops (ev ids ops k) with
  | none=>rw[xE ag]; exact⟨h1,by omega,aj⟩
  | some i=>
   rw[xF ag];obtain⟨a7,bl,a3⟩:=F4 ag;refine⟨?_,by simp; omega,fun j uN=>?_⟩
   ·rw[ati];refine⟨h1,by simp,fun x ag y aG e=>?_⟩;rw[aq6] at aG;subst e;rw[aG] at ag;exact bl ag
   ·rw[arz,aq6] at uN;rcases uN with uN | rfl
    ·exact aj j uN
    ·have fi:∀ t,t<ids.length->ids[t]? = some (bU ids t) :=fun t aP=>by
      obtain⟨x,ag,_⟩:=bW (l:=ids) aP;rw[ag,gG ag]
     refine⟨a7,.mk j (by omega) (fun p aB=>?_) fun p aB lk fP=>?_⟩
     ·obtain⟨t,aP,rfl⟩:=aqR.1 (a3 p aB);exact aqI (fi t (by have:=(aj t aP).1; omega))
     ·obtain⟨t,aP,rfl⟩:=aqR.1 (a3 p aB);obtain⟨dU,dw⟩:=aj t aP;rw[ai lk t _ fP (fi t (by omega))];exact dw
theorem Lc {ids:List (List B)} {ops:List bA} {k:Nat} (h:iO ids ops (ev ids ops k)=none) :∀ m,ev ids ops (k+m)=ev ids ops k
 | 0=>rfl
 | m+1=>by
  have aJ:=Lc h m;rw[<-ar0,xE (by rw[aJ]; exact h),aJ]
theorem K5 {n:Nat} {l:List Nat} (aD:l.Nodup) (ak:l.length=n) (af:∀ i∈l,i<n) :∀ i,i<n->i∈l:=by
 intro i ax;apply Classical.byContradiction;intro eU;have:=tF (a:=i::l) (b:=List.range n) (aty.2 ⟨eU,aD⟩) (fun x ag=>by
  rw[arI] at ag;rcases ag with rfl | ag
  ·exact aqZ.2 ax
  ·exact aqZ.2 (af x ag))
 simp[ak] at this;omega
theorem Ld {ids:List (List B)} {ops:List bA} (aD:ids.length=ops.length) (ai:mc ids) :(qG ids ops).length=ops.length<->∀ i,i<ops.length->pI ids ops i:=by
 obtain⟨h1,ad,aj⟩:=xD ids ops aD ai ops.length;constructor
 ·intro h i ax;exact (aj i (K5 h1 h (fun i ax=>(aj i ax).1) i ax)).2
 ·intro h;have nZ:∀ k,k<=ops.length->(ev ids ops k).length=k\/∃ m,m<=k/\iO ids ops (ev ids ops m)=none:=by
   intro k
   induction k with
   | zero=>intro _; exact .inl rfl
   | succ k aJ=>
    intro hk;rcases aJ (by omega) with aC | ⟨m,hm,aC⟩
    ·cases ag:iO ids ops (ev ids ops k) with
     | none=>exact .inr ⟨k,by omega,ag⟩
     | some i=>left; rw[xF ag]; simp[aC]
    ·exact .inr ⟨m,by omega,aC⟩
  rcases nZ ops.length (aqv _) with aC | ⟨m,hm,aC⟩
  ·exact aC
  ·have b4:ev ids ops ops.length=ev ids ops m:=by
    have:=Lc aC (ops.length - m)
    rwa [show m+(ops.length - m)=ops.length by omega] at this
   have eT:∀ i,pI ids ops i->i<ops.length->i∈ev ids ops m:=by
    intro i au
    induction au with
    | mk i ax aB au aJ=>
     intro aL;apply Classical.byContradiction;intro eU;refine afr aC aL eU fun p B2=>?_
     obtain⟨j,jn⟩:=aqU.1 (aB p B2);exact aqR.2 ⟨j,aJ p B2 j jn (by have:=(aqr.1 jn).1; omega),gG jn⟩
   show (ev ids ops ops.length).length=ops.length;rw[b4];have aZ:=tF (a:=List.range ops.length) (b:=ev ids ops m) ats fun i ax=>eT i (h i (aqZ.1 ax)) (aqZ.1 ax)
   rw[List.length_range] at aZ;rw[b4] at ad;omega
end Op

end Go.bJ

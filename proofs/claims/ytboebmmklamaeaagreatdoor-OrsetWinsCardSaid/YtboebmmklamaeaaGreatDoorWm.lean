/-
  slices.Insert of one element, at the level of the world: the ways through the library's text (printed by program).
-/
import Derived.Test.YtboebmmklamaeaaGreatDoorWl
import Derived.Shelf.Spec.SlicesInsertGrow
import Derived.Test.YtboebmmklamaeaaGreatDoorRows
import Derived.Shelf.SlSortCmp.WholeK
import Derived.Shelf.SlGeneric
set_option linter.unusedVariables false
set_option linter.unusedSimpArgs false
set_option linter.unnecessarySimpa false
namespace Go.cj
open Go Go.Proofs Go.Shelf Go.RowKit Go.Lib
set_option maxRecDepth 100000
set_option maxHeartbeats 4000000
theorem aj0 (base:Option Addr) (n c eL gq iK:Nat) (r:Value) (w w' : World) (aH:n<=c) (p4:n<=4611686018427387904) (iB:base=none->n=0/\c=0)
  (g3:(Builtin.append_ #[22,22] 22 #[.slice base n c,.slice (some ⟨gq,iK,none⟩) 1 eL]).run Tryz.prog w=.ok r w') :
  Calls Tryz.prog 42 #[.slice base n c,.int .i64 n,.slice (some ⟨gq,iK,none⟩) 1 eL] w fun e w2=>e=.returned r/\w2=w':=by
 have NH:=Tryz.underlying22;have mixed:=Tryz.checked.mixed
 go_enter Tryz.func42,Tryz.ntmps42
 cases base with
 | none=>
  obtain⟨aO,h1⟩:=iB rfl;subst aO h1
  go_wp2_with (at_builtin; refine Lib.wpList_append_run _ rfl _ _ _ _ rfl _ _ rfl rfl _ _ g3 ?_)
  go_ret
  exact⟨rfl,rfl⟩
 | some a=>
  obtain⟨ab,aqI,aqK⟩:=a
  go_wp2_with (at_builtin; refine Lib.wpList_append_run _ rfl _ _ _ _ rfl _ _ rfl rfl _ _ g3 ?_)
  all_goals (go_ret; exact⟨rfl,rfl⟩)
theorem aj3 (b off n c i gq iK eL:Nat) (cc ch:Value) (w kb hJ:World) (DX eX:TypeId) (tL xr:Nat) (aA:i<n) (dk:n+1<=c) (p4:n<=4611686018427387904) (mZ:gq≠b)
  (ajj:w.shape? gq=some (DX,tL)) (I5:w.shape? b=some (eX,xr)) (aio:xr≠0) (Ij:w.frozen? ⟨gq,iK,none⟩=false) (zf:w.frozen? ⟨gq,tL,none⟩=false)
  (ti:(Builtin.copy_ #[22,22] 3 #[.slice (some ⟨b,off+(i+1)*33,none⟩) (n - i) (c - (i+1)),.slice (some ⟨b,off+i*33,none⟩) (n+1 - i) (c - i)]).run Tryz.prog w.drew=.ok cc kb)
  (tj:(Builtin.copy_ #[22,22] 3 #[.slice (some ⟨b,off+i*33,none⟩) (n+1 - i) (c - i),.slice (some ⟨gq,iK,none⟩) 1 eL]).run Tryz.prog kb=.ok ch hJ) :
  Calls Tryz.prog 42 #[.slice (some ⟨b,off,none⟩) n c,.int .i64 i,.slice (some ⟨gq,iK,none⟩) 1 eL] w fun e w2=>e=.returned (.slice (some ⟨b,off,none⟩) (n+1) c)/\w2=hJ:=by
 have NH:=Tryz.underlying22;have z0:∀ w,(Go.sizeOf 77).run Tryz.prog w=.ok 33 w:=fun w=>e5 (by kernel_rfl)
 have mixed:=Tryz.checked.mixed;have IJ:∀ JV sT,(callFunc 77 #[.slice (some ⟨gq,iK,none⟩) 1 eL,.slice (some ⟨b,off+(i+1)*33,none⟩) JV sT]).run Tryz.prog w=.ok (.value (.bool false)) w:=fun JV sT=>by
  rw[run_callFunc_extern Tryz.func77 (by kernel_rfl) (by kernel_rfl) (by kernel_rfl) (e:=Extern.SlicesOverlaps.overlaps #[22,22] #[4]) (by kernel_rfl),
   Lib.run_overlaps_apart w 22 4 77 NH 33 z0 ⟨gq,iK,none⟩ ⟨b,off+(i+1)*33,none⟩ 1 eL JV sT mZ DX eX tL xr ajj I5 aio Ij zf]
  rfl
 have jZ:¬ ((i:Int)=(n:Int)) :=by omega
 have i1:IntKind.i64.wrap ((i:Int)+1)=(i:Int)+1:=by rw[IntKind.wrap_i64]; omega
 have lA:IntKind.i64.wrap ((n:Int)+1)=(n:Int)+1:=by rw[IntKind.wrap_i64]; omega
 have fZ:(0:Int)<=(i:Int)+1:=by omega
 have ec:i<=n:=by omega
 have U7:((i:Int)+1).toNat=i+1:=by omega
 have fz:¬ (c=i+1) :=by omega
 have rI:(i:Int)<=(n:Int)+1:=by omega
 have asL:¬ (c=i) :=by omega
 have asN:¬ ((c:Int)<(n:Int)+1) :=by omega
 go_enter Tryz.func42,Tryz.ntmps42
 go_wp2_with (simp only[IJ])
 go_region_law_o (refine step_copy_runI rfl _ _ 22 22 rfl _ _ (by simp[Act.eval,Act.put]) (by simp[Act.eval,Act.put]) ti ?_)
 go_wp2_with (at_builtin; refine wpList_copy_runI _ rfl _ _ 22 22 rfl _ _ rfl rfl tj ?_)
 go_ret
 exact⟨rfl,rfl⟩
theorem aj1 (b off n c i gq iK eL N G:Nat) (cc ch:Value) (w yf kb hJ:World) (aA:i<n) (IF:n<=c) (dk:c<n+1) (jt:n+1<=G) (p4:n<=4611686018427387904)
  (qa:(Builtin.append_ #[22,3] 22 #[.slice (some ⟨b,off,none⟩) i c,.int .i64 ((n:Int)+1 - (i:Int))]).run Tryz.prog w=.ok (.slice (some ⟨N,0,none⟩) (n+1) G) yf)
  (ti:(Builtin.copy_ #[22,22] 3 #[.slice (some ⟨N,i*33,none⟩) (n+1 - i) (G - i),.slice (some ⟨gq,iK,none⟩) 1 eL]).run Tryz.prog yf=.ok cc kb)
  (tj:(Builtin.copy_ #[22,22] 3 #[.slice (some ⟨N,(i+1)*33,none⟩) (n - i) (G - (i+1)),.slice (some ⟨b,off+i*33,none⟩) (n - i) (c - i)]).run Tryz.prog kb.drew=.ok ch hJ) :
  Calls Tryz.prog 42 #[.slice (some ⟨b,off,none⟩) n c,.int .i64 i,.slice (some ⟨gq,iK,none⟩) 1 eL] w fun e w2=>e=.returned (.slice (some ⟨N,0,none⟩) (n+1) G)/\w2=hJ:=by
 have NH:=Tryz.underlying22;have z0:∀ w,(Go.sizeOf 77).run Tryz.prog w=.ok 33 w:=fun w=>e5 (by kernel_rfl)
 have mixed:=Tryz.checked.mixed;have jZ:¬ ((i:Int)=(n:Int)) :=by omega
 have i1:IntKind.i64.wrap ((i:Int)+1)=(i:Int)+1:=by rw[IntKind.wrap_i64]; omega
 have lA:IntKind.i64.wrap ((n:Int)+1)=(n:Int)+1:=by rw[IntKind.wrap_i64]; omega
 have atq:IntKind.i64.wrap ((n:Int)+1 - (i:Int))=(n:Int)+1 - (i:Int) :=by rw[IntKind.wrap_i64]; omega
 have fZ:(0:Int)<=(i:Int)+1:=by omega
 have ec:i<=n:=by omega
 have U7:((i:Int)+1).toNat=i+1:=by omega
 have asB:¬ (G=i) :=by omega
 have asC:¬ (G=i+1) :=by omega
 have e4:¬ (c=i) :=by omega
 have Vi:(c:Int)<(n:Int)+1:=by omega
 have rI:(i:Int)<=(n:Int) :=by omega
 have asO:(i:Int)<=(c:Int) :=by omega
 go_enter Tryz.func42,Tryz.ntmps42
 go_wp2_with (first
  | (at_builtin; refine Lib.wpList_append_run _ rfl _ _ _ _ rfl _ _ rfl rfl _ _ qa ?_)
  | (at_builtin; refine wpList_copy_runI _ rfl _ _ 22 22 rfl _ _ rfl rfl ti ?_))
 go_region_law_o (refine step_copy_runI rfl _ _ 22 22 rfl _ _ (by simp[Act.eval,Act.put]) (by simp[Act.eval,Act.put]) tj ?_)
 go_wp2
 go_ret
 exact⟨rfl,rfl⟩
theorem ajV:AW Tryz.prog 42 22 3 77 33:=
 ⟨Tryz.underlying22,Tryz.underlying3,aj0,aj3,aj1⟩
theorem ajS {G:Nat->ae} (args:List ae) (h:aR) (r:ae) (h' : aR) (ak:r3 33 48 args h=some (r,h')) :q7 Tryz.prog G 42 args h r h':=
 ajT ajV (by kernel_rfl) (by kernel_rfl) (by kernel_rfl) (by omega) (by omega) (by kernel_rfl) args h r h' ak
def JA (f:FuncId) :Option (Nat × Nat) :=match Nat.beq f 42 with | true=>some (33,48) | false=>none
theorem ajR (f:FuncId) (z by_:Nat) (h:JA f=some (z,by_)) (args:List ae) (aG:aR) (r:ae) (fD:aR) (ak:r3 z by_ args aG=some (r,fD)) :q7 Tryz.prog GS f args aG r fD:=by
 unfold JA at h;split at h
 ·rename_i aj;have aJ:=Nat.eq_of_beq_eq_true aj;subst aJ;cases h;exact ajS args aG r fD ak
 cases h
instance aty:oC Tryz.prog GS:=⟨JA,ajR⟩
end Go.cj

namespace Go.cj
open Go Go.Proofs
set_option maxRecDepth 100000
namespace Op
open g9
def pX (l:List br) (x:br) :Nat:=(l.takeWhile fun t=>el t x).length
theorem R4 (x:br) :∀ {l:List br} {p:Nat},p<=l.length->(∀ (t:Nat) (y:br),t<p->l[t]? = some y->el y x=true)->(∀ y,l[p]? = some y->el y x=false)->pX l x=p
 | [],p,aG,_,_=>by simp at aG; subst aG; rfl
 | y::l,0,_,_,ag=>by
  have:=ag y (by simp);unfold pX;rw[List.takeWhile_cons,this]; rfl
 | y::l,p+1,aG,h1,ag=>by
  have aP:=h1 0 y (by omega) (by simp);have aM:=R4 x (l:=l) (p:=p) (by simpa using aG) (fun t z aW aC=>h1 (t+1) z (by omega) (by simpa using aC)) (fun z aC=>ag z (by simpa using aC));unfold pX at aM ⊢;rw[List.takeWhile_cons,aP];simpa using aM
def alu (l:List br) (x:br) :Prop:=∀ (i j:Nat) (a b:br),i<=j->l[i]? = some a->l[j]? = some b->el b x=true->el a x=true
structure aqr (s:jQ) (X:List ae) (x:br) (m:Nat) (ah:bj) (l:av) :Prop where
 ex:∃ (i j:Nat),j - i=m/\i<=j/\j<=s.l.length/\l=[.cells 33 X]/\ah 0=hv s/\ah 2=.fn 41 [] []/\ah 4=.ptr 0 0 33/\ah 8=.int .i64 s.l.length/\ah 9=.int .i64 i/\ah 10=.int .i64 j ∧
  (∀ (t:Nat) (y:br),t<i->s.l[t]? = some y->el y x=true)/\(∀ (t:Nat) (y:br),j<=t->s.l[t]? = some y->el y x=false)
def n7 (l:List br) (i:Nat) (x:br) :List br:=l.take i++x::l.drop i
theorem ajO (l:List br) (i:Nat) (x:br) :(n7 l i x).length=l.length+1:=by
 unfold n7; simp; omega
theorem ajQ {l:List br} {i:Nat} {x:br} (h:pt l) (ak:x.id.length=32) :pt (n7 l i x) :=by
 intro t aW;unfold n7 at aW;rcases List.mem_append.1 aW with h1 | h1
 ·exact h t (List.mem_of_mem_take h1)
 ·rcases List.mem_cons.1 h1 with ag | ag
  ·rw[ag]; exact ak
  ·exact h t (List.mem_of_mem_drop ag)
structure ux (j:Nat) (l l' : av) :Prop where
 le:l.length<=l'.length
 same:∀ b,b<l.length->b≠j->l'[b]? = l[b]?
theorem ux.refl (j:Nat) (l:av) :ux j l l:=⟨Nat.le_refl _,fun _ _ _=>rfl⟩
theorem ux.trans {j:Nat} {a b c:av} (h1:ux j a b) (ag:ux j b c) :ux j a c:=⟨by have:=h1.le; have:=ag.le; omega,fun x ak am=>by rw[ag.same x (by have:=h1.le; omega) am]; exact h1.same x ak am⟩
structure aqv (eB:av) (v:ae) (g:FuncId) (cap:List ae) (xs:List br) (p:br->Bool) (k:Nat) (ah:bj) (l:av) :Prop where
 cz:ah 0=v
 aY:ah 1=.fn g [] cap
 eb:ah 7=.int .i64 xs.length
 dN:ah 8=.int .i64 k
 au:∀ (j:Nat) (z:br),j<k->xs[j]? = some z->p z=false
 le:eB.length<=l.length
 same:∀ b,b<eB.length->l[b]? = eB[b]?
structure aqs (eB:av) (v:ae) (g:FuncId) (cap:List ae) (j:Nat) (xs:List br) (p:br->Bool) (k:Nat) (ah:bj) (l:av) :Prop where
 cz:ah 0=v
 aY:ah 1=.fn g [] cap
 cx:ah 6=.int .i64 k
 ast:ux j eB l
 ex:∃ (q:Nat) (bd:List br),ah 5=.int .i64 (q:Int)/\b0 33 l v j (bd.map ep)/\bd.length=xs.length/\pt bd/\bd.take q=(xs.take k).filter (fun t=>!p t)/\q<k/\∀ t,k<=t->bd[t]? = xs[t]?
theorem abx {a b c:List UInt8} (h1:k3 a b=true) (ag:k3 b c=true) :k3 a c=true:=
 (vO _ _).2 (List.lt_trans ((vO _ _).1 h1) ((vO _ _).1 ag))
theorem DO (a:List UInt8) :k3 a a=false:=by
 cases h:k3 a a with
 | false=>rfl
 | true=>exact absurd ((vO _ _).1 h) (List.lt_irrefl _)
theorem pl {a b c:br} (h1:el a b=true) (ag:el b c=true) :el a c=true:=by
 unfold el at *
 by_cases a1:a.key=b.key
 ·rw[if_pos a1] at h1;by_cases b3:b.key=c.key
  ·rw[if_pos b3] at ag;rw[if_pos (a1.trans b3)];simp only[decide_eq_true_eq] at *
   exact yF _ _ _ h1 ag
  ·rw[if_neg b3] at ag;rw[if_neg (fun h=>b3 (a1.symm.trans h)),a1]; exact ag
 ·rw[if_neg a1] at h1;by_cases b3:b.key=c.key
  ·rw[if_neg (fun h=>a1 (h.trans b3.symm)),<-b3]; exact h1
  ·rw[if_neg b3] at ag;have:=abx h1 ag;rw[if_neg (fun h=>by rw[h,DO] at this; cases this)]; exact this
theorem xv (a:br) :el a a=false:=by
 unfold el;rw[if_pos rfl,rr]; rfl
theorem vy {a b:br} (h1:el a b=false) (ag:a≠b) :el b a=true:=by
 unfold el at *
 by_cases a1:a.key=b.key
 ·rw[if_pos a1] at h1;rw[if_pos a1.symm];have aq:=Bp a.id b.id;have aK:=RX a.id b.id;simp only[decide_eq_false_iff_not,decide_eq_true_eq] at *
  have bg:cG a.id b.id≠0:=fun h=>ag (by
   have:=Bo h;cases a; cases b; simp_all)
  omega
 ·rw[if_neg a1] at h1;rw[if_neg (fun h=>a1 h.symm)];rw[vO];have aq:¬ a.key<b.key:=fun h=>by rw[(vO _ _).2 h] at h1; cases h1
  by_cases h:b.key<a.key
  ·exact h
  ·exact absurd (List.le_antisymm (List.not_lt.1 h) (List.not_lt.1 aq)) a1
theorem agB {l:List br} (h:k4 l=0) :l.length<=60/\kL l=true:=by
 unfold k4 at h;split at h
 ·cases h
 ·split at h
  ·rename_i h1 ag; exact⟨by omega,ag⟩
  ·cases h
theorem HK {l:List br} (h:kL l=true) {i:Nat} {a b:br} (aI:l[i]? = some a) (aj:l[i+1]? = some b) :el a b=true:=by
 have h1:=(of_decide_eq_true h) (i+1) (List.getElem?_eq_some_iff.1 aj).1;unfold rB at h1;rw[Nat.add_sub_cancel,om aI,om aj,Bool.and_eq_true] at h1;simpa using h1.2
theorem BO {l:List br} (h:kL l=true) :∀ {d i:Nat} {a b:br},l[i]? = some a->l[i+d+1]? = some b->el a b=true
 | 0,i,a,b,aI,aj=>HK h aI aj
 | d+1,i,a,b,aI,aj=>by
  obtain⟨c,al,_⟩:=cg (l:=l) (k:=i+d+1) (by have:=(List.getElem?_eq_some_iff.1 aj).1; omega);exact pl (BO h aI al) (HK h al aj)
theorem agD {l:List br} (h:kL l=true) (x:br) :alu l x:=by
 intro i j a b iA aI aj aS;by_cases aw:i=j
 ·subst aw; rw[aI] at aj; cases aj; exact aS
 ·exact pl (BO h (d:=j - i - 1) aI (by rw[show i+(j - i - 1)+1=j by omega]; exact aj)) aS
def aoT (o:bS) (b:fS) (t:br) :Bool:=decide (t.key=o.act.key)&&decide (t.id∈b.l)
theorem Sl (o:bS) :((u o.act.kind:Int)=2)<->o.act.kind=2#8:=q5 o.act.kind 2#8
theorem Sm (o:bS) :((u o.act.kind:Int)=3)<->o.act.kind=3#8:=q5 o.act.kind 3#8
def m7 (l:List br) (x:br) :Nat->Nat
 | 0=>0
 | i+1=>if el x (nf l i) then m7 l x i else i+1
theorem Dw (l:List br) (x:br) :∀ i,m7 l x i<=i
 | 0=>Nat.le_refl _
 | i+1=>by
  unfold m7;split
  ·have:=Dw l x i; omega
  ·exact Nat.le_refl _
def sm (l:List br) (x:br) :List br:=n7 l (m7 l x l.length) x
structure aqB (l:av) (a:List br) (x:br) (m:Nat) (ah:bj) (l1:av) :Prop where
 ex:∃ (i:Nat) (v:ae),i=m/\i<=a.length/\ah 5=v/\ah 6=.int .i64 (i:Int)/\cl 33 ep l l1 v (n7 a i x) false/\m7 a x i=m7 a x a.length
def VH (o:bS) (b:fS) (t:br) :Bool:=decide (¬ o.act.kind=3#8)||(decide (¬ t.key=o.act.key)||!decide (t.id∈b.l))
def DV (l:List br) :jQ:=match l with | []=>none | a::r=>some (a::r)
theorem DW (l:List br) :(DV l).l=l:=by cases l<;>rfl
theorem aoW (l:List br) :(DV l).isNone=l.isEmpty:=by cases l<;>rfl
structure aqq (s:jQ) (x:br) (L:av) (k:Nat) (ah:bj) (l:av) :Prop where
 ar:l=L
 bi:ah 3=.ptr 0 0 1
 cx:ah 6=.ptr 2 0 1
 dN:ah 8=.ptr 3 0 33
 ib:ah 9=.int .i64 k
 au:∀ (j:Nat) (t:br),j<k->s.l[j]? = some t->t≠x
structure adg (s:jQ) (o:bS) (b:fS) (k:Nat) (l:av) :Prop where
 ex:∃ v j,l[3]? = some (.cells 1 [v])/\b0 33 l v j (((s.l.take k).filter (VH o b)).map ep)/\(v=.aZ\/4<=j)/\cS v=((s.l.take k).filter (VH o b)).isEmpty
 len:4<=l.length
 eT:l[0]? = some (.cells 1 [hv s])
 pv:l[1]? = some (.cells 11 (bz o))
 Dt:l[2]? = some (.cells 1 [.aZ])
structure aqD (s:jQ) (o:bS) (b:fS) (k:Nat) (ah:bj) (l:av) :Prop where
 a6:ah 2=bl b
 bi:ah 3=.ptr 0 0 1
 bI:ah 4=.ptr 1 0 11
 cx:ah 6=.ptr 2 0 1
 eP:ah 10=.ptr 3 0 1
 hx:ah 11=.int .i64 k
 h:adg s o b k l
theorem Kz (l:List br) (x:br) :∀ (n i:Nat),m7 l x n<=i->i<n->el x (nf l i)=true
 | 0,i,_,h=>by omega
 | n+1,i,h1,ag=>by
  unfold m7 at h1;split at h1
  ·rename_i h;by_cases aA:i=n
   ·rw[aA]; exact h
   ·exact Kz l x n i h1 (by omega)
  ·omega
theorem XU (l:List br) (x:br) :∀ (n i:Nat),m7 l x n=i+1->el x (nf l i)=false
 | 0,i,h=>by cases h
 | n+1,i,h1=>by
  unfold m7 at h1;split at h1
  ·exact XU l x n i h1
  ·rename_i h;obtain rfl:n=i:=by omega
   exact Bool.eq_false_iff.2 h
theorem XV {l:List br} {x:br} (ay:kL l=true) (ak:x∉l) :m7 l x l.length=pX l x:=by
 refine (R4 x (Dw l x l.length) (fun t y aW aP=>?_) (fun y aP=>?_)).symm
 ·obtain⟨i,aA⟩:∃ i,m7 l x l.length=i+1:=⟨m7 l x l.length - 1,by omega⟩
  have dO:=Dw l x l.length;obtain⟨z,aC,CW⟩:=cg (l:=l) (k:=i) (by omega);have h1:=XU l x l.length i aA;rw[om aC] at h1;have ag:=vy h1 (fun h=>ak (by rw[h]; exact CW));exact agD ay x t i y z (by omega) aP aC ag
 ·have aS:=(List.getElem?_eq_some_iff.1 aP).1;have h1:=Kz l x l.length _ (Nat.le_refl _) aS;rw[om aP] at h1;cases ag:el y x with
  | false=>rfl
  | true=>have:=pl h1 ag; rw[xv] at this; cases this
theorem VJ {a b:br} (h:el a b=true) :a.key=b.key\/k3 a.key b.key=true:=by
 unfold el at h;by_cases e:a.key=b.key
 ·exact .inl e
 ·rw[if_neg e] at h; exact .inr h
theorem akt {l:List br} (ay:kL l=true) {k:Nat} {y:br} (aP:l[k]? = some y) :nN (l.take k) y.key=true<->∃ x,1<=k/\l[k - 1]? = some x/\x.key=y.key:=by
 constructor
 ·intro h;unfold nN at h;rw[decide_eq_true_eq] at h;obtain⟨z,aC,Jo⟩:=List.mem_map.1 h;obtain⟨i,aA⟩:=List.mem_iff_getElem?.1 aC;have d5:=(List.getElem?_eq_some_iff.1 aA).1;rw[List.length_take] at d5;rw[List.getElem?_take_of_lt (by omega)] at aA;have tn:1<=k:=by omega
  have cY:=(List.getElem?_eq_some_iff.1 aP).1;obtain⟨x,ak,_⟩:=cg (l:=l) (k:=k - 1) (by omega);refine⟨x,tn,ak,?_⟩;have h1:=VJ (HK ay ak (by rw[show k - 1+1=k by omega]; exact aP));rcases h1 with h1 | h1
  ·exact h1
  ·exfalso;by_cases oX:i=k - 1
   ·rw[oX,ak] at aA; obtain rfl:=Option.some.inj aA;rw[Jo,DO] at h1; cases h1
   ·have ag:=VJ (BO ay (d:=k - 1 - i - 1) aA (by rw[show i+(k - 1 - i - 1)+1=k - 1 by omega]; exact ak));rcases ag with ag | ag
    ·rw[<-ag,Jo,DO] at h1; cases h1
    ·have:=abx ag h1;rw[Jo,DO] at this; cases this
 ·rintro⟨x,tn,ak,xm⟩;exact ahj (List.mem_iff_getElem?.2 ⟨k - 1,by rw[List.getElem?_take_of_lt (by omega)]; exact ak⟩) xm
theorem JJ {l:List br} {k:Nat} {y:br} (aP:l[k]? = some y) :g4 (l.map br.key) k=y.key:=by
 unfold g4; rw[List.getD_eq_getElem?_getD,List.getElem?_map,aP]; rfl
theorem VL {l:List br} (ay:kL l=true) :∀ m,m<=l.length->nF (l.map br.key) m=qR l m
 | 0,_=>rfl
 | m+1,h=>by
  obtain⟨y,aP,_⟩:=cg (l:=l) (k:=m) (by omega);rw[yJ,aaW,VL ay m (by omega),JJ aP,om aP];congr 1;have aH:=akt ay aP;by_cases aQ:nN (l.take m) y.key=true
  ·rw[if_pos aQ];obtain⟨x,tn,ak,xm⟩:=aH.1 aQ;rw[if_neg];rintro (aO | aO)
   ·omega
   ·exact aO (by rw[JJ ak,xm])
  ·rw[if_neg aQ,if_pos];by_cases aO:m=0
   ·exact .inl aO
   ·right;intro aw;obtain⟨x,ak,_⟩:=cg (l:=l) (k:=m - 1) (by omega);rw[JJ ak] at aw;exact aQ (aH.2 ⟨x,by omega,ak,aw.symm⟩)
theorem akv (l:List br) :(pg l).l=(JP l).l:=by
 unfold pg JP;by_cases aO:k4 l=0
 ·rw[if_pos aO,if_pos aO];have ay:=(agB aO).2;unfold x3 MQ;by_cases ar:l=[]
  ·rw[if_pos ar,if_pos ar]
  ·rw[if_neg ar,if_neg ar];show p0 (l.map br.key)=qR l l.length;unfold p0;rw[List.length_map];exact VL ay l.length (Nat.le_refl _)
 ·rw[if_neg aO,if_neg aO]
theorem Xg {l:List br} {k:List UInt8}:∀ m,m<=l.length->(k∈qR l m<->k∈(l.take m).map br.key)
 | 0,_=>by simp[qR]
 | m+1,h=>by
  obtain⟨y,aP,_⟩:=cg (l:=l) (k:=m) (by omega);rw[aaW,List.mem_append,Xg m (by omega),om aP,List.take_add_one,aP,List.map_append,List.mem_append];by_cases aQ:nN (l.take m) y.key=true
  ·rw[if_pos aQ];unfold nN at aQ;rw[decide_eq_true_eq] at aQ;simp;rintro rfl;simpa using aQ
  ·rw[if_neg aQ];simp
theorem ahk (l:List br) (k:List UInt8) :u2 l k=H7 l k:=by
 unfold u2 H7;rw[akv];unfold JP;by_cases aO:k4 l=0
 ·rw[if_pos aO,decide_eq_true aO,Bool.true_and];unfold MQ nN;by_cases ar:l=[]
  ·rw[if_pos ar,ar]; simp
  ·rw[if_neg ar];have:=Xg (l:=l) (k:=k) l.length (Nat.le_refl _);rw[List.take_length] at this;show decide (k∈qR l l.length)=_;simp only[this]
 ·rw[if_neg aO,decide_eq_false aO]; simp
end Op
end Go.cj

namespace Go.cj
open Go Go.Proofs Go.RowKit
set_option maxRecDepth 100000
namespace Op
open g9
theorem Xm:bT Tryz.prog GS 17 [] (.aV [.aZ]) :=by
 refine cd Tryz.checked.mixed b2 ?_;apply bH Qa Zf;unfold FJ xL;simp;exact a7 rfl rfl
theorem HJ (l:List br) :kL l=true<->(∀ t∈l,gk t.key=true)/\l.Pairwise fun a b=>el a b=true:=by
 constructor
 ·intro h;refine⟨fun t aW=>?_,List.pairwise_iff_getElem.2 fun i j aA am iA=>?_⟩
  ·obtain⟨k,aF⟩:=List.mem_iff_getElem?.1 aW;have h1:=(of_decide_eq_true h) k (List.getElem?_eq_some_iff.1 aF).1;unfold rB at h1;rw[om aF,Bool.and_eq_true] at h1;exact h1.1
  ·exact BO h (d:=j - i - 1) (List.getElem?_eq_getElem aA) (by rw[show i+(j - i - 1)+1=j by omega]; exact List.getElem?_eq_getElem am)
 ·rintro⟨h1,ag⟩;refine Tc fun k aF=>?_
  unfold rB;have aP:=List.getElem?_eq_getElem aF;rw[om aP,h1 _ (List.getElem_mem aF),Bool.true_and];by_cases zm:k=0
  ·simp[zm]
  ·have ak:=List.getElem?_eq_getElem (l:=l) (i:=k - 1) (by omega);rw[om ak,(List.pairwise_iff_getElem.1 ag) (k - 1) k (by omega) aF (by omega)]; simp
theorem agC {l:List br} {x:br} (ay:kL l=true) (ak:x∉l) (aF:gk x.key=true) :kL (n7 l (pX l x) x)=true:=by
 obtain⟨h1,ag⟩:=(HJ l).1 ay;have aG:=XV ay ak;have dO:=Dw l x l.length;refine (HJ _).2 ⟨fun t aW=>?_,?_⟩
 ·unfold n7 at aW;rcases List.mem_append.1 aW with h | h
  ·exact h1 t (List.mem_of_mem_take h)
  ·rcases List.mem_cons.1 h with h | h
   ·rw[h]; exact aF
   ·exact h1 t (List.mem_of_mem_drop h)
 ·have dy:∀ a∈l.take (pX l x),el a x=true:=fun a aI=>by
   have a1:l.takeWhile (fun t=>el t x)=l.take (pX l x) :=List.prefix_iff_eq_take.1 (List.takeWhile_prefix _);rw[<-a1] at aI;have:=List.all_takeWhile (l:=l) (p:=fun t=>el t x);exact List.all_eq_true.1 this a aI
  have qf:∀ b∈l.drop (pX l x),el x b=true:=fun b aj=>by
   obtain⟨j,am⟩:=List.mem_iff_getElem?.1 aj;rw[List.getElem?_drop] at am;have:=Kz l x l.length (pX l x+j) (by omega) (List.getElem?_eq_some_iff.1 am).1;rw[om am] at this; exact this
  unfold n7;rw[List.pairwise_append];refine⟨ag.sublist (List.take_sublist _ _),List.pairwise_cons.2 ⟨qf,ag.sublist (List.drop_sublist _ _)⟩,fun a aI b aj=>?_⟩;rcases List.mem_cons.1 aj with h | h
  ·rw[h]; exact dy a aI
  ·exact pl (dy a aI) (qf b h)
theorem af2 {l:List br} (h1:l.length<=60) (ag:kL l=true) :k4 l=0:=by
 unfold k4; rw[if_neg (by omega),ag]; rfl
def agz (o:bS) (b:fS) (t:br) :Bool:=decide (o.act.kind=3#8)&&aoT o b t
structure aqt (s:jQ) (o:bS) (b:fS) (t:List br) :Prop where
 ok:k4 t=0
 mem:∀ x∈s.l,decide (x∈t)=!agz o b x
 new:∀ x∈t,x∉s.l->o.act.kind=2#8/\x=⟨o.act.key,kt o⟩
 cnt:∃ p:Nat,(o.act.kind=2#8->p<t.length/\∀ (i:Nat) (y:br),t[i]? = some y->(y∉s.l<->i=p))/\(o.act.kind≠2#8->∀ x∈t,x∈s.l)
theorem ajP {l:List br} {i:Nat} {x y:br}:y∈n7 l i x<->y=x\/y∈l:=by
 unfold n7;rw[List.mem_append,List.mem_cons];have:y∈l<->y∈l.take i\/y∈l.drop i:=by rw[<-List.mem_append,List.take_append_drop]
 rw[this];constructor
 ·rintro (h | h | h)
  ·exact .inr (.inl h)
  ·exact .inl h
  ·exact .inr (.inr h)
 ·rintro (h | h | h)
  ·exact .inr (.inl h)
  ·exact .inl h
  ·exact .inr (.inr h)
end Op
end Go.cj

namespace Go.Proofs
open Go.Shelf
set_option maxRecDepth 100000
def Tryz.aoA:Go.Shelf.Ren:=⟨fun | 6=>57 | 15=>91 | 14=>90 | 28=>134 | 29=>135 | 20=>126 | 21=>127 | 22=>128 | 23=>129 | 24=>130 | 25=>131 | 26=>132 | 27=>133 | 46=>169 | 47=>170 | 48=>171 | 49=>172 | 50=>173 | 57=>193 | n=>n,fun | 22=>22 | 24=>77 | 25=>92 | 3=>3 | 39=>125 | 0=>0 | 53=>25 | 55=>27 | 4=>4 | 46=>174 | 45=>173 | 50=>90 | 5=>5 | 9=>9 | 66=>208 | 70=>212 | 76=>231 | 77=>232 | n=>n,fun | n=>n⟩
theorem Tryz.aoz:Go.Proofs.SlLaysF0.n6 Tryz.prog Tryz.aoA where
 mixed:=by kernel_rfl
 f6:=⟨ "slices.SortFunc[[]braid/api.Tag,braid/api.Tag]",by decide,Tryz.func57.trans (congrArg some (by kernel_rfl))⟩
 f14:=⟨ "slices.pdqsortCmpFunc[braid/api.Tag]",by decide,Tryz.func90.trans (congrArg some (by kernel_rfl))⟩
 f15:=Tryz.func91.trans (congrArg some (by kernel_rfl))
 f20:=⟨ "slices.insertionSortCmpFunc[braid/api.Tag]",by decide,Tryz.func126.trans (congrArg some (by kernel_rfl))⟩
 f21:=⟨ "slices.heapSortCmpFunc[braid/api.Tag]",by decide,Tryz.func127.trans (congrArg some (by kernel_rfl))⟩
 f22:=⟨ "slices.breakPatternsCmpFunc[braid/api.Tag]",by decide,Tryz.func128.trans (congrArg some (by kernel_rfl))⟩
 f23:=⟨ "slices.choosePivotCmpFunc[braid/api.Tag]",by decide,Tryz.func129.trans (congrArg some (by kernel_rfl))⟩
 f24:=⟨ "slices.reverseRangeCmpFunc[braid/api.Tag]",by decide,Tryz.func130.trans (congrArg some (by kernel_rfl))⟩
 f25:=⟨ "slices.partialInsertionSortCmpFunc[braid/api.Tag]",by decide,Tryz.func131.trans (congrArg some (by kernel_rfl))⟩
 f26:=⟨ "slices.partitionEqualCmpFunc[braid/api.Tag]",by decide,Tryz.func132.trans (congrArg some (by kernel_rfl))⟩
 f27:=⟨ "slices.partitionCmpFunc[braid/api.Tag]",by decide,Tryz.func133.trans (congrArg some (by kernel_rfl))⟩
 f28:=Tryz.func134.trans (congrArg some (by kernel_rfl))
 f29:=Tryz.func135.trans (congrArg some (by kernel_rfl))
 f46:=⟨ "slices.siftDownCmpFunc[braid/api.Tag]",by decide,Tryz.func169.trans (congrArg some (by kernel_rfl))⟩
 f47:=Tryz.func170.trans (congrArg some (by kernel_rfl))
 f48:=Tryz.func171.trans (congrArg some (by kernel_rfl))
 f49:=⟨ "slices.medianAdjacentCmpFunc[braid/api.Tag]",by decide,Tryz.func172.trans (congrArg some (by kernel_rfl))⟩
 f50:=⟨ "slices.medianCmpFunc[braid/api.Tag]",by decide,Tryz.func173.trans (congrArg some (by kernel_rfl))⟩
 f57:=⟨ "slices.order2CmpFunc[braid/api.Tag]",by decide,Tryz.func193.trans (congrArg some (by kernel_rfl))⟩
 t0:=Tryz.underlying0
 a0:=Tryz.isAgg0
 z0:=Tryz.sizeOf0
 v0:=Tryz.zeroValue0
 t3:=Tryz.underlying3
 a3:=Tryz.isAgg3
 z3:=Tryz.sizeOf3
 v3:=Tryz.zeroValue3
 t4:=Tryz.underlying4
 a4:=Tryz.isAgg4
 z4:=Tryz.sizeOf4
 v4:=Tryz.zeroValue4
 t5:=Tryz.underlying5
 a5:=Tryz.isAgg5
 z5:=Tryz.sizeOf5
 v5:=Tryz.zeroValue5
 t9:=Tryz.underlying9
 a9:=Tryz.isAgg9
 z9:=Tryz.sizeOf9
 v9:=Tryz.zeroValue9
 t22:=Tryz.underlying22
 a22:=Tryz.isAgg22
 z22:=Tryz.sizeOf22
 v22:=Tryz.zeroValue22
 t25:=Tryz.underlying92
 a25:=Tryz.isAgg92
 z25:=Tryz.sizeOf92
 v25:=Tryz.zeroValue92
 t39:=Tryz.underlying125
 a39:=Tryz.isAgg125
 z39:=Tryz.sizeOf125
 v39:=Tryz.zeroValue125
 t45:=Tryz.underlying173
 a45:=Tryz.isAgg173
 z45:=Tryz.sizeOf173
 v45:=Tryz.zeroValue173
 t46:=Tryz.underlying174
 a46:=Tryz.isAgg174
 z46:=Tryz.sizeOf174
 v46:=Tryz.zeroValue174
 t50:=Tryz.underlying90
 a50:=Tryz.isAgg90
 z50:=Tryz.sizeOf90
 v50:=Tryz.zeroValue90
 t53:=Tryz.underlying25
 a53:=Tryz.isAgg25
 z53:=Tryz.sizeOf25
 v53:=Tryz.zeroValue25
 t55:=Tryz.underlying27
 a55:=Tryz.isAgg27
 z55:=Tryz.sizeOf27
 v55:=Tryz.zeroValue27
 t66:=Tryz.underlying208
 a66:=Tryz.isAgg208
 z66:=Tryz.sizeOf208
 v66:=Tryz.zeroValue208
 t70:=Tryz.underlying212
 a70:=Tryz.isAgg212
 z70:=Tryz.sizeOf212
 v70:=Tryz.zeroValue212
 t76:=Tryz.underlying231
 a76:=Tryz.isAgg231
 z76:=Tryz.sizeOf231
 v76:=Tryz.zeroValue231
 t77:=Tryz.underlying232
 a77:=Tryz.isAgg232
 z77:=Tryz.sizeOf232
 v77:=Tryz.zeroValue232
end Go.Proofs

namespace Go.cj
open Go Go.Proofs
set_option maxRecDepth 100000
namespace Op
open g9
structure Eg (g:b9) (i:Nat) (out:List (List B)) :Prop where
 mem:∀ (j:Nat) (p:List B),g.ids.l[j]? = some p->(p∈out<->h7 g.ids.l g.ops.l (df g.ops.l i) j)
 sub:∀ p∈out,p∈g.ids.l
 len:out.length<=g.ids.l.length
theorem adq (g:b9) (ay:gT g) (V:mq g) {i:Nat} {x:List B} (aA:g.ids.l[i]? = some x) :∃ out,Eg g i out/\bT Tryz.prog GS 29 [dv g,.aV (bb x)] (bl (g7 out)) :=by
 obtain⟨r,l',Cm,dO,out,h1,ag,aq,l4⟩:=adp g ay V aA;exact⟨out,⟨h1,ag,aq⟩,cd Tryz.checked.mixed b2 ⟨r,l',Cm,dO,l4⟩⟩
open Classical in
noncomputable def fv (g:b9) (i:Nat) :List (List B) :=if h:∃ out,Eg g i out/\bT Tryz.prog GS 29 [dv g,.aV (bb (cb g.ids.l i))] (bl (g7 out)) then h.choose else []
theorem Ev (g:b9) (ay:gT g) (V:mq g) {i:Nat} {x:List B} (aA:g.ids.l[i]? = some x) :Eg g i (fv g i)/\bT Tryz.prog GS 29 [dv g,.aV (bb x)] (bl (g7 (fv g i))) :=by
 have h:=adq g ay V aA;have ak:cb g.ids.l i=x:=hq aA;rw[<-ak] at h ⊢;unfold fv;rw[dif_pos h];exact h.choose_spec
def qX (o:bS) (k:List UInt8) :Bool:=decide (o.act.kind=3#8)&&decide (o.act.key=k)
def mD (g:b9) (A:Nat->List (List B)) (k:List UInt8) (x:List B) :Nat->Bool
 | 0=>false
 | m+1=>mD g A k x m||(match g.ops.l[m]? with | some o=>qX o k&&decide (x∈A m) | none=>false)
theorem Ta {g:b9} {A:Nat->List (List B)} {k:List UInt8} {x:List B} {m:Nat} {o:bS} (h:g.ops.l[m]? = some o) :mD g A k x (m+1)=(mD g A k x m||(qX o k&&decide (x∈A m))) :=by
 show (mD g A k x m||(match g.ops.l[m]? with | some o=>qX o k&&decide (x∈A m) | none=>false))=_;rw[h]
def sv (g:b9) (A:Nat->List (List B)) (o:bS) (x:List B) :Bool:=decide (o.act.kind=2#8)&&!mD g A o.act.key x g.ops.l.length
def fO (g:b9) (A:Nat->List (List B)) :Nat->jQ
 | 0=>none
 | m+1=>match g.ops.l[m]?,g.ids.l[m]? with
  | some o,some x=>if sv g A o x=true then some (sm (fO g A m).l ⟨o.act.key,x⟩) else fO g A m
  | _,_=>fO g A m
theorem Xv {g:b9} {A:Nat->List (List B)} {m:Nat} {o:bS} {x:List B} (h:g.ops.l[m]? = some o) (ak:g.ids.l[m]? = some x) :fO g A (m+1)=if sv g A o x=true then some (sm (fO g A m).l ⟨o.act.key,x⟩) else fO g A m:=by
 show (match g.ops.l[m]?,g.ids.l[m]? with
  | some o,some x=>if sv g A o x=true then some (sm (fO g A m).l ⟨o.act.key,x⟩) else fO g A m
  | _,_=>fO g A m)=_
 rw[h,ak]
theorem Xu {g:b9} (ay:gT g) {A:Nat->List (List B)}:∀ m,pt (fO g A m).l/\(fO g A m).l.length<=m
 | 0=>⟨fun t aW=>(by cases aW),Nat.le_refl _⟩
 | m+1=>by
  obtain⟨h1,ag⟩:=Xu ay (A:=A) m;cases az:g.ops.l[m]? with
  | none=>
   have:fO g A (m+1)=fO g A m:=by
    show (match g.ops.l[m]?,g.ids.l[m]? with
     | some o,some x=>if sv g A o x=true then some (sm (fO g A m).l ⟨o.act.key,x⟩) else fO g A m
     | _,_=>fO g A m)=_
    rw[az]
   rw[this]; exact⟨h1,by omega⟩
  | some o=>
   cases ak:g.ids.l[m]? with
   | none=>
    have:fO g A (m+1)=fO g A m:=by
     show (match g.ops.l[m]?,g.ids.l[m]? with
      | some o,some x=>if sv g A o x=true then some (sm (fO g A m).l ⟨o.act.key,x⟩) else fO g A m
      | _,_=>fO g A m)=_
     rw[az,ak]
    rw[this]; exact⟨h1,by omega⟩
   | some x=>
    rw[Xv az ak];split
    ·refine⟨ajQ h1 (ay.ids x (List.mem_of_getElem? ak)),?_⟩;show (sm (fO g A m).l ⟨o.act.key,x⟩).length<=m+1;unfold sm;rw[ajO]; omega
    ·exact⟨h1,by omega⟩
def wx (L:List (List B)) :List ae:=[bl (g7 L)]
theorem ae4 (s:fS) :(bl s).cells=some [bl s] :=by cases s<;>rfl
theorem ae3 (s:jQ) :(hv s).cells=some [hv s] :=by cases s<;>rfl
structure aqy (g:b9) (k:Nat) (ah:bj) (l:av) :Prop where
 aY:ah 1=.ptr 0 0 2
 a6:ah 2=.ptr 1 0 1
 bi:ah 3=.int .i64 0
 bq:ah 5=.int .i64 k
 qJ:∃ v,ah 4=v/\cl 1 wx [.cells 2 [bl g.ids,cw g.ops],.cells 1 [.aZ]] l v ((List.range k).map (fv g)) (decide (k=0))
structure aqz (g:b9) (yb:av) (v4:ae) (k:Nat) (ah:bj) (l:av) :Prop where
 aY:ah 1=.ptr 0 0 2
 a6:ah 2=.ptr 1 0 1
 bi:ah 3=.int .i64 0
 bI:ah 4=v4
 cx:ah 6=.ptr yb.length 0 1
 eb:ah 7=.int .i64 k
 ex:∃ m,l=yb++.cells 1 [hv (fO g (fv g) k)] ::m
structure aqA (g:b9) (yb:av) (v4:ae) (i:Nat) (o:bS) (x:List B) (b:Nat) (k:Nat) (ah:bj) (l:av) :Prop where
 aY:ah 1=.ptr 0 0 2
 a6:ah 2=.ptr 1 0 1
 bi:ah 3=.int .i64 0
 bI:ah 4=v4
 cx:ah 6=.ptr yb.length 0 1
 eb:ah 7=.int .i64 i
 dN:ah 8=.ptr b 0 6
 ib:ah 9=.bool (mD g (fv g) o.act.key x k)
 eP:ah 10=.int .i64 k
 ex:∃ m,l=yb++.cells 1 [hv (fO g (fv g) i)] ::m/\l[b]? = some (.cells 6 (jR o.act))
noncomputable def Kf (g:b9) :jQ:=if gK g=0 then fO g (fv g) g.ops.l.length else none
end Op
end Go.cj

namespace Go.cj
open Go Go.Proofs Go.Sort Go.Shelf
set_option maxRecDepth 100000
namespace Op
open g9
abbrev sH:={t:br // t.id.length=32}
instance:Inhabited sH:=⟨⟨⟨[],List.replicate 32 0#8⟩,by simp⟩⟩
def yQ (x:sH) :List ae:=ep x.1
def sX (x y:sH) :Int:=jo x.1 y.1
theorem sb (a b:br) :ltOf jo a b=el a b:=by
 unfold ltOf;cases h:el a b with
 | true=>exact decide_eq_true ((Hc a b).2 h)
 | false=>exact decide_eq_false fun aQ=>by rw[(Hc a b).1 aQ] at h; cases h
theorem abT:SWO (ltOf sX) where
 irrefl x:=by show ltOf jo x.1 x.1=false; rw[sb]; exact xv _
 trans x y z:=by
  show ltOf jo x.1 y.1=true->ltOf jo y.1 z.1=true->ltOf jo x.1 z.1=true;rw[sb,sb,sb]; exact pl
 ntrans x y z:=by
  show ltOf jo x.1 y.1=false->ltOf jo y.1 z.1=false->ltOf jo x.1 z.1=false;rw[sb,sb,sb];intro h1 ag;cases aq:el x.1 z.1 with
  | false=>rfl
  | true=>
   by_cases a1:x.1=y.1
   ·rw[a1] at aq; rw[aq] at ag; cases ag
   ·by_cases b3:y.1=z.1
    ·rw[b3] at h1; rw[aq] at h1; cases h1
    ·have:=pl (pl aq (vy ag b3)) (vy h1 a1);rw[xv] at this; cases this
theorem adC (x y:sH) (h1:ltOf sX x y=false) (ag:ltOf sX y x=false) :x=y:=by
 have er:ltOf jo x.1 y.1=false:=h1;have fX:ltOf jo y.1 x.1=false:=ag;rw[sb] at er fX;by_cases e:x.1=y.1
 ·exact Subtype.ext e
 ·rw[vy er e] at fX; cases fX
theorem Sq (x:sH) :(yQ x).length=33:=wy x.2
theorem afN (x:sH) :∀ c∈yQ x,xJ c=true:=fun c al=>by
 rcases List.mem_cons.1 al with h | h
 ·rw[h]; rfl
 ·obtain⟨b,_,rfl⟩:=List.mem_map.1 h; rfl
theorem aox {g:Nat} (afL:∀ args w,(callFunc g args).run Tryz.prog w=.ok (.enter g args) w) :Eo Tryz.prog 57 g 33 (fun x=>(yQ x).map valOf) sX:=
 fun blk off cap d w rJ hy f0 gE=>
  AnyQ.slices_SortFunc Tryz.aoz 33 (by intro w; exact Tryz.isAgg77 w) (by intro w; exact Tryz.sizeOf77 w) _ (fun x=>by rw[List.length_map,Sq]) (fun x v ax=>by obtain⟨c,_,rfl⟩:=List.mem_map.1 ax; exact NQ c) sX abT g #[] blk off cap d w afL rJ hy f0 gE
def kA (l:List br) :List br:=l.mergeSort fun x y=>!el y x
theorem ab6:∀ {xs:List br},pt xs->∃ bd:List sH,bd.map (·.1)=xs
 | [],_=>⟨[],rfl⟩
 | x::xs,h=>by
  obtain⟨bd,aP⟩:=ab6 (xs:=xs) fun i aA=>h i (by simp[aA])
  exact⟨⟨x,h x (by simp)⟩::bd,by simp[aP]⟩
theorem aoD (bd:List sH) :(sorted sX bd).map (·.1)=kA (bd.map (·.1)) :=by
 unfold sorted kA;rw[List.map_mergeSort];intro a _ b _;show (!ltOf jo b.1 a.1)=(!el b.1 a.1)
 rw[sb]
theorem amz {z:Nat} {l l' : av} {v:ae} {j:Nat} {es de:List (List ae)} (h:b0 z l v j es) (h' : dB z l' v j de) :b0 z l' v j de:=by
 cases h with
 | nil j=>have:=h'.xA; subst this; exact .nil j
 | ao j n cap sz cs es aj ar aH aC al cX cH=>
  generalize ax:ae.ao z j 0 n cap sz=w at h';cases h' with
  | nil=>cases ax
  | ao atM avS qH ars awz gW wz fz gC qk jZ jy asS ahD=>
   injection ax with _ a1 b3 dD lk Hk
   subst b3 dD lk Hk;exact .ao j n cap sz gW _ fz gC qk jZ jy (by omega) (by simpa using ahD)
theorem apd:h6 Tryz.prog GS 57 [.aZ,.fn 41 [] []] (.bP []) :=
 vI (P:=Tryz.prog) Tryz.checked.mixed b2 (Xo _ _) ui (fuel:=100) (k:=10) (by kernel_rfl)
theorem apc {l:av} {v:ae} {j:Nat} {xs:List br} (ak:pt xs) (ar:xs.length<=1000000) (aH:cS v=xs.isEmpty) (h:b0 33 l v j (xs.map ep)) {K:ae->av->Prop}
  (a8:∀ l',l'.length=l.length->(∀ b,v=.aZ\/b≠j->l'[b]? = l[b]?)->b0 33 l' v j ((kA xs).map ep)->K (.bP []) l') :dp Tryz.prog GS 57 [v,.fn 41 [] []] l (c:=⟨K⟩) :=by
 by_cases iB:xs=[]
 ·subst iB;have Jg:v=.aZ:=iC.1 (by rw[aH]; rfl);subst Jg;exact bB apd.x1 rfl (a8 l rfl (fun _ _=>rfl) (by simpa [kA] using b0.nil j))
 ·obtain⟨bd,aP⟩:=ab6 ak;have aw:bd.map yQ=xs.map ep:=by rw[<-aP,List.map_map]; rfl
  have au:(sorted sX bd).map yQ=(kA xs).map ep:=by rw[<-aP,<-aoD,List.map_map]; rfl
  have eJ:bd.length=xs.length:=by rw[<-aP]; simp
  have Jg:v≠.aZ:=fun ax=>by subst ax; rw[show cS .aZ=true from rfl] at aH; exact iB (by simpa using aH.symm)
  rw[<-aw] at h;exact aoy sX (aox (by intro args w; exact enters_of Tryz.func41 (by kernel_rfl) rfl args w)) abT adC Sq afN (fun x y=>R1 x.1 y.1 x.2 y.2) h.q (by omega) (fun rR=>absurd (by rw[<-aP,rR]; rfl) iB)
   (fun l' h1 ag aq=>a8 l' h1 (fun b aj=>ag b (aj.resolve_left Jg)) (by rw[<-au]; exact amz h aq))
theorem Nj (l:List br) (y:br) :y∈kA l<->y∈l:=by unfold kA; exact List.mem_mergeSort
theorem abD (l:List br) :(kA l).length=l.length:=by unfold kA; exact List.length_mergeSort l
theorem aoB {l:List br} (aH:l.Nodup) :(kA l).Pairwise fun a b=>el a b=true:=by
 have h1:(kA l).Pairwise fun a b=>(!el b a)=true:=by
  unfold kA;refine List.pairwise_mergeSort (fun a b c h1 ag=>?_) (fun a b=>?_) l
  ·simp only[Bool.not_eq_true'] at *
   cases aq:el c a with
   | false=>rfl
   | true=>
    by_cases a1:b=c
    ·rw[a1] at h1; rw[aq] at h1; cases h1
    ·by_cases b3:a=b
     ·rw[b3] at aq; rw[aq] at ag; cases ag
     ·have:=pl (pl aq (vy h1 (Ne.symm b3))) (vy ag (Ne.symm a1));rw[xv] at this; cases this
  ·cases h:el b a with
   | false=>rfl
   | true=>
    cases ag:el a b with
    | false=>rfl
    | true=>have:=pl h ag; rw[xv] at this; cases this
 have ag:(kA l).Nodup:=(List.mergeSort_perm l _).nodup_iff.2 aH;refine (h1.and ag).imp fun {a b} h=>?_
 have aq:el b a=false:=by simpa using h.1
 exact vy aq (Ne.symm h.2)
end Op
end Go.cj

namespace Go.cj
open Go Go.Proofs
set_option maxRecDepth 100000
namespace Op
open g9
theorem adQ (t:br) :ae.beq (.aV (ep t)) (.aV (ep t))=true:=by
 show eO (.str t.key::bb t.id) (.str t.key::bb t.id)=true;have h:=EH t.id;unfold bb;simp[eO,ae.beq,h]
theorem Hw {t:br} (h:t.id.length=32) :jI Tryz.prog 77 (.aV (ep t))=true:=by
 have h1:pf Tryz.prog 8 77=true:=by kernel_rfl
 have ag:dC Tryz.prog 77=some true:=by kernel_rfl
 have aq:cr Tryz.prog 77=some 33:=by kernel_rfl
 have aK:(ep t).all qP=true:=by
  rw[List.all_eq_true];intro c al;rcases List.mem_cons.1 al with h | h
  ·rw[h]; rfl
  ·obtain⟨b,_,rfl⟩:=List.mem_map.1 h; rfl
 show (pf Tryz.prog 8 77&&(match dC Tryz.prog 77,cr Tryz.prog 77 with | some true,some m=>Nat.beq (ep t).length m | _,_=>false)&&(ep t).all qP)=true;rw[h1,ag,aq,aK,wy h];rfl
theorem afX {a b:br} (aI:a.id.length=32) (aj:b.id.length=32) :dT Tryz.prog 10000 77 (.aV (ep a)) (.aV (ep b))=some (decide (a=b)) :=by
 rw[<-adO aI aj];obtain⟨x,y,nJ,lX,ru⟩:=(BA (P:=Tryz.prog) 20 10000 (by omega) 77 C2 aky).2 _ _ (Xy aI) (Xy aj);have ag:dC Tryz.prog 77=some true:=by kernel_rfl
 simp only[jk,ag,Option.some.injEq] at nJ lX;subst nJ; subst lX;exact ru
inductive oz:List (ae × ae × Nat)->List br->Prop
 | nil:oz [] []
 | cons {es:List (ae × ae × Nat)} {bQ:List br} {k:br} (n:Nat) (aF:k.id.length=32) (h:oz es bQ) :oz ((.aV (ep k),.bool true,n) ::es) (k::bQ)
theorem oz.snoc {es:List (ae × ae × Nat)} {bQ:List br} (h:oz es bQ) {k:br} (aF:k.id.length=32) (n:Nat) :oz (es++[(.aV (ep k),.bool true,n)]) (bQ++[k]) :=by
 induction h with
 | nil=>exact .cons n aF .nil
 | cons m ed h aM=>exact .cons m ed aM
theorem oz.modify {es:List (ae × ae × Nat)} {bQ:List br} (h:oz es bQ) :∀ {i:Nat} {k:br},bQ[i]? = some k->oz (es.modify i fun e=>(.aV (ep k),.bool true,e.2.2)) bQ:=by
 induction h with
 | nil=>intro i k h; simp at h
 | cons n aF h aM=>
  intro i k aA;cases i with
  | zero=>simp at aA; subst aA; exact .cons n aF h
  | succ i=>exact .cons n aF (aM (by simpa using aA))
theorem BF {x:br} (ak:x.id.length=32) {es:List (ae × ae × Nat)} {bQ:List br} (h:oz es bQ) :∀ c,(x∈bQ->∃ i,bQ[i]? = some x/\ia Tryz.prog 77 (.aV (ep x)) es c=some (some (c+i,.bool true)))/\(x∉bQ->ia Tryz.prog 77 (.aV (ep x)) es c=some none) :=by
 induction h with
 | nil=>intro c; exact⟨fun h=>by simp at h,fun _=>rfl⟩
 | @cons es bQ k n aF h aM=>
  intro c;unfold ia;rw[Hw aF];simp only;rw[afX ak aF];by_cases aw:x=k
  ·subst aw;simp only[decide_true,adQ];exact⟨fun _=>⟨0,by simp⟩,fun h=>absurd (by simp) h⟩
  ·simp only[aw,decide_false];obtain⟨h1,ag⟩:=aM (c+1);refine⟨fun hm=>?_,fun h=>ag (fun h'=>h (by simp[h']))⟩;obtain⟨i,aA,aJ⟩:=h1 (by simpa [aw] using hm);exact⟨i+1,by simpa using aA,by rw[aJ,show c+1+i=c+(i+1) by omega]⟩
structure lb (l:av) (j:Nat) (M:br->Prop) :Prop where
 e:∃ es dX bQ,l[j]? = some (.map es dX)/\oz es bQ/\∀ x,x∈bQ<->M x
open Classical in
theorem lb.look {l:av} {j:Nat} {M:br->Prop} (h:lb l j M) {x:br} (ak:x.id.length=32) :tO Tryz.prog l 77 (.bool false) false (.mp j) (.aV (ep x))=some (.bool (decide (M x))) :=by
 obtain⟨es,dX,bQ,h1,ag,aK⟩:=h.e;have aq:qE l (.mp j)=some es:=by simp[qE,h1]
 unfold tO;rw[aq];simp only[Hw ak];by_cases hm:x∈bQ
 ·obtain⟨i,_,aJ⟩:=(BF ak ag 0).1 hm;rw[aJ];simp[(aK x).1 hm]
 ·rw[(BF ak ag 0).2 hm];have:¬ M x:=fun aQ=>hm ((aK x).2 aQ)
  simp[this]
theorem lb.put {l:av} {j:Nat} {M:br->Prop} (h:lb l j M) {x:br} (ak:x.id.length=32) :∃ c,qF Tryz.prog l 77 (.mp j) (.aV (ep x)) (.bool true)=some (l.set j c)/\(∀ l' : av,l'[j]? = some c->lb l' j (fun y=>M y\/y=x)) :=by
 obtain⟨es,dX,bQ,h1,ag,aK⟩:=h.e;unfold qF;simp only[h1,Hw ak];by_cases hm:x∈bQ
 ·obtain⟨i,aA,aJ⟩:=(BF ak ag 0).1 hm;rw[aJ];rw[Nat.zero_add];refine⟨_,rfl,fun l' c1=>⟨_,_,bQ,c1,ag.modify aA,fun y=>?_⟩⟩;rw[aK y];exact⟨.inl,fun aQ=>aQ.elim id fun e=>by rw[e]; exact (aK x).1 hm⟩
 ·rw[(BF ak ag 0).2 hm];refine⟨_,rfl,fun l' c1=>⟨_,_,_,c1,ag.snoc ak dX,fun y=>?_⟩⟩;rw[List.mem_append,List.mem_singleton,aK y]
theorem lb.frame {l l' : av} {j:Nat} {M:br->Prop} (h:lb l j M) (am:l'[j]? = l[j]?) :lb l' j M:=by
 obtain⟨es,dX,bQ,h1,ag,aK⟩:=h.e;exact⟨es,dX,bQ,by rw[am,h1],ag,aK⟩
theorem lb.lt {l:av} {j:Nat} {M:br->Prop} (h:lb l j M) :j<l.length:=by
 obtain⟨es,dX,bQ,h1,ag⟩:=h.e;exact (List.getElem?_eq_some_iff.1 h1).1
theorem al8 (l:av) :lb (l++[.map [] 0]) l.length (fun _=>False) :=⟨[],0,[],by simp,.nil,fun x=>by simp⟩
theorem lb.iff {l:av} {j:Nat} {M N:br->Prop} (h:lb l j M) (aQ:∀ x,M x<->N x) :lb l j N:=by
 obtain⟨es,dX,bQ,h1,ag,aK⟩:=h.e;exact⟨es,dX,bQ,h1,ag,fun x=>(aK x).trans (aQ x)⟩
def k9 (g:b9) (m:Nat) (t:br) :Prop:=∃ k o,k<m/\g.ops.l[k]? = some o/\o.act.kind=3#8/\o.act.key=t.key/\t.id∈iQ g k
def ya (g:b9) (m:Nat) (key:List UInt8) (L:List (List B)) (t:br) :Prop:=k9 g m t\/(key=t.key/\t.id∈L)
theorem agw {g:b9} {m:Nat} {o:bS} (az:g.ops.l[m]? = some o) (aF:¬ o.act.kind=3#8) (t:br) :k9 g m t<->k9 g (m+1) t:=by
 constructor
 ·rintro⟨k,cC,h1,ag⟩; exact⟨k,cC,by omega,ag⟩
 ·rintro⟨k,cC,h1,ag,aq,aK⟩;by_cases kp:k=m
  ·subst kp; rw[az] at ag; obtain rfl:=Option.some.inj ag; exact absurd aq aF
  ·exact⟨k,cC,by omega,ag,aq,aK⟩
theorem agx {g:b9} {m:Nat} {o:bS} (az:g.ops.l[m]? = some o) (aF:o.act.kind=3#8) (t:br) :ya g m o.act.key (iQ g m) t<->k9 g (m+1) t:=by
 constructor
 ·rintro (⟨k,cC,h1,ag⟩ | ⟨h1,ag⟩)
  ·exact⟨k,cC,by omega,ag⟩
  ·exact⟨m,o,by omega,az,aF,h1,ag⟩
 ·rintro⟨k,cC,h1,ag,aq,aK,bg⟩;by_cases kp:k=m
  ·subst kp; rw[az] at ag; obtain rfl:=Option.some.inj ag; exact .inr ⟨aK,bg⟩
  ·exact .inl ⟨k,cC,by omega,ag,aq,aK,bg⟩
theorem agy {g:b9} {m:Nat} {key:List UInt8} {L:List (List B)} {k:Nat} {x:List B} (ak:L[k]? = some x) (t:br) :(ya g m key (L.take k) t\/t=⟨key,x⟩)<->ya g m key (L.take (k+1)) t:=by
 unfold ya;rw[List.take_add_one,ak,List.mem_append];simp only[Option.toList_some,List.mem_singleton];constructor
 ·rintro ((h | ⟨h1,ag⟩) | h)
  ·exact .inl h
  ·exact .inr ⟨h1,.inl ag⟩
  ·subst h; exact .inr ⟨rfl,.inr rfl⟩
 ·rintro (h | ⟨h1,ag | ag⟩)
  ·exact .inl (.inl h)
  ·exact .inl (.inr ⟨h1,ag⟩)
  ·right; cases t; simp_all
open Classical in
noncomputable def ga (g:b9) (m:Nat) :List br:=(List.range m).flatMap fun k=>match g.ops.l[k]?,g.ids.l[k]? with
 | some o,some x=>if o.act.kind=2#8/\¬ k9 g g.ops.l.length ⟨o.act.key,x⟩ then [⟨o.act.key,x⟩] else []
 | _,_=>[]
open Classical in
theorem yk {g:b9} {m:Nat} {o:bS} {x:List B} (az:g.ops.l[m]? = some o) (ak:g.ids.l[m]? = some x) :ga g (m+1)=ga g m++(if o.act.kind=2#8/\¬ k9 g g.ops.l.length ⟨o.act.key,x⟩ then [⟨o.act.key,x⟩] else []) :=by
 unfold ga;rw[List.range_succ,List.flatMap_append];simp[az,ak]
theorem Od {g:b9} {t:br}:∀ {m:Nat},t∈ga g m<->∃ k o x,k<m/\g.ops.l[k]? = some o/\g.ids.l[k]? = some x/\o.act.kind=2#8/\¬ k9 g g.ops.l.length ⟨o.act.key,x⟩/\t=⟨o.act.key,x⟩:=by
 intro m;unfold ga;rw[List.mem_flatMap];constructor
 ·rintro⟨k,aF,aW⟩;rw[List.mem_range] at aF;cases az:g.ops.l[k]? with
  | none=>simp[az] at aW
  | some o=>
   cases ak:g.ids.l[k]? with
   | none=>simp[az,ak] at aW
   | some x=>
    simp only[az,ak] at aW;split at aW
    ·rename_i aQ;rw[List.mem_singleton] at aW;exact⟨k,o,x,aF,az,ak,aQ.1,aQ.2,aW⟩
    ·simp at aW
 ·rintro⟨k,o,x,aF,az,ak,h1,ag,aq⟩;refine⟨k,List.mem_range.2 aF,?_⟩;simp only[az,ak];rw[if_pos ⟨h1,ag⟩,List.mem_singleton];exact aq
theorem AZ (g:b9) :∀ m,(ga g m).length<=m
 | 0=>by simp[ga]
 | m+1=>by
  have aM:=AZ g m;cases az:g.ops.l[m]? with
  | none=>unfold ga at *; rw[List.range_succ,List.flatMap_append]; simp[az] at *; omega
  | some o=>
   cases ak:g.ids.l[m]? with
   | none=>unfold ga at *; rw[List.range_succ,List.flatMap_append]; simp[az,ak] at *; omega
   | some x=>
    rw[yk az ak,List.length_append];split<;>simp<;>omega
theorem Og {g:b9} (ay:gT g) (m:Nat) :pt (ga g m) :=fun t aW=>by
 obtain⟨k,o,x,_,_,ak,_,_,aq⟩:=Od.1 aW;rw[aq]; exact ay.ids x (List.mem_of_getElem? ak)
structure j9 (g:b9) (M:br->Prop) (l:av) :Prop where
 eT:l[0]? = some (.cells 2 [bl g.ids,cw g.ops])
 pv:l[1]? = some (.cells 1 [.aZ])
 m:lb l 2 M
theorem j9.lt {g:b9} {M:br->Prop} {l:av} (h:j9 g M l) :3<=l.length:=h.m.lt
theorem j9.frame {g:b9} {M:br->Prop} {l l' : av} (h:j9 g M l) (aJ:∀ b,b<3->l'[b]? = l[b]?) :j9 g M l':=
 ⟨(aJ 0 (by omega)).trans h.eT,(aJ 1 (by omega)).trans h.pv,h.m.frame (aJ 2 (by omega))⟩
theorem j9.more {g:b9} {M:br->Prop} {l:av} (h:j9 g M l) (x:av) :j9 g M (l++x) :=h.frame fun b aj=>List.getElem?_append_left (by have:=h.lt; omega)
theorem j9.iff {g:b9} {M N:br->Prop} {l:av} (h:j9 g M l) (aQ:∀ x,M x<->N x) :j9 g N l:=⟨h.eT,h.pv,h.m.iff aQ⟩
structure ac7 (g:b9) (k:Nat) (ah:bj) (l:av) :Prop where
 aY:ah 1=.ptr 0 0 2
 a6:ah 2=.ptr 1 0 1
 bi:ah 3=.int .i64 0
 bq:ah 5=.mp 2
 mB:ah 24=cw g.ops
 ki:ah 25=.int .i64 g.ops.l.length
 kj:ah 26=.int .i64 k
 h:j9 g (k9 g k) l
structure ac9 (g:b9) (i:Nat) (o:bS) (b:Nat) (k:Nat) (ah:bj) (l:av) :Prop where
 aY:ah 1=.ptr 0 0 2
 a6:ah 2=.ptr 1 0 1
 bi:ah 3=.int .i64 0
 bq:ah 5=.mp 2
 eb:ah 7=.ptr b 0 11
 mB:ah 24=cw g.ops
 ki:ah 25=.int .i64 g.ops.l.length
 kj:ah 26=.int .i64 i
 ry:ah 45=bl (g7 (iQ g i))
 rz:ah 46=.int .i64 (iQ g i).length
 rA:ah 47=.int .i64 k
 h:j9 g (ya g i o.act.key ((iQ g i).take k)) l
 gu:3<=b
 aj:l[b]? = some (.cells 11 (bz o))
structure ac8 (g:b9) (b:Nat) (k:Nat) (ah:bj) (l:av) :Prop where
 aY:ah 1=.ptr 0 0 2
 a6:ah 2=.ptr 1 0 1
 bi:ah 3=.int .i64 0
 bq:ah 5=.mp 2
 e7:ah 12=.ptr b 0 1
 HF:ah 60=cw g.ops
 HG:ah 61=.int .i64 g.ops.l.length
 HH:ah 62=.int .i64 k
 h:j9 g (k9 g g.ops.l.length) l
 gu:3<=b
 ex:∃ v j,l[b]? = some (.cells 1 [v])/\b0 33 l v j ((ga g k).map ep)/\cS v=(ga g k).isEmpty/\(v=.aZ\/b<j)
theorem adx (g:b9) (i:Nat) :(iQ g i).length<=g.ids.l.length:=J5 _ _ _
theorem ady {g:b9} {i:Nat} {x:List B} (h:x∈iQ g i) :x∈g.ids.l:=by
 unfold iQ at h;obtain⟨j,am,_,rfl⟩:=Xi.1 h;obtain⟨y,aP,eA⟩:=cg am;rw[hq aP]; exact eA
noncomputable def iG (g:b9) :jQ:=if gK g=0 then DV (kA (ga g g.ops.l.length)) else none
set_option maxHeartbeats 8000000 in
theorem apX (g:b9) (ay:gT g) :bT Tryz.prog GS 24 [dv g] (.bP [.aV [hv (iG g)],.int .i64 (gK g)]) :=by
 refine cd Tryz.checked.mixed b2 ?_;apply bH QD ZH;unfold Gf tW;have aD:cQ=140737488355328:=rfl;have e4:=hM g.ids;have ds:=nE g.ops;have dU:=acw g ay;unfold dv ea at dU;have dy:db (.ao 11) (cw g.ops)=some (.int .i64 g.ops.l.length) :=by simp[cw]
 simp[dv,ea];refine bB dU (by simp[bV,ae.closed,e4,ds]) ?_;by_cases aO:gK g=0
 ·have V:=xF aO;have UD:=V.n60;have jG:=V.len;have agV:j9 g (fun _=>False) [bv.cells 2 [bl g.ids,cw g.ops],.cells 1 [.aZ],.map [] 0] :=⟨rfl,rfl,al8 [bv.cells 2 [bl g.ids,cw g.ops],.cells 1 [.aZ]]⟩
  simp[aO,dy];refine c0 g.ops.l.length (ac7 g) ?_ ⟨by simp,by simp,by simp,by simp,by simp,by simp,by simp,agV.iff fun x=>⟨fun h=>h.elim,fun ⟨k,_,aF,_⟩=>by omega⟩⟩;rintro k ah l aF ⟨aY,a6,bi,bq,mB,ki,kj,hy⟩;obtain⟨ah,rfl⟩:=NL aY a6 bi bq mB ki kj;clear aY a6 bi bq mB ki kj;unfold Wu;by_cases cY:k<g.ops.l.length
  ·obtain⟨x,ak,d0⟩:=cg (l:=g.ids.l) (k:=k) (by omega);obtain⟨o,az,eF⟩:=cg cY;have m0:=ay.ids x d0;have bJ:=dr m0;have a1:IntKind.i64.wrap ((k:Int)+1)=((k+1:Nat) :Int) :=by rw[IntKind.wrap_i64]; omega
   have hc:cU (.ao 32) (bl g.ids) (.int .i64 (k:Int))=some (.cp (bb x) 0) :=by simp[bl,ak]
   have c2:cU (.ao 11) (cw g.ops) (.int .i64 (k:Int))=some (.cp (bz o) 0) :=by simp[cw,az]
   have dQ:(bz o).length=11:=rfl;have nM:∀ h,(bz o)[3]'h=bF o.act.kind:=fun _=>rfl
   have mF:∀ h,(bz o)[4]'h=.str o.act.key:=fun _=>rfl
   have g0:=ha x;have qh:=Sm o;have y6:=adA g ay V aO x k ak;unfold dv ea at y6;obtain⟨O,e3⟩:∃ O,O=bz o:=⟨_,rfl⟩
   obtain⟨Y,gf⟩:∃ Y,Y=bb x:=⟨_,rfl⟩
   rw[<-e3] at c2 dQ nM mF;rw[<-gf] at hc bJ g0 y6;obtain⟨Z,p9⟩:∃ Z,Z=[ae.int .u32 0,.aZ,.int .u64 0,.int .u8 0,.str [],.int .u8 0,.int .i64 0,.int .u64 0,.str [],.int .u32 0,.int .u32 0] :=⟨_,rfl⟩
   have oM:Z.length=11:=by rw[p9]; rfl
   have l5:bU Z 0 O=O:=h3 (by rw[dQ,oM]);have BU:=hy.more [.cells 11 O];have mR:∀ y z:bv,(l++[y]).set l.length z=l++[z] :=fun y z=>by rw[List.set_append_right _ _ (Nat.le_refl _)]; simp
   have il:=BU.eT;have ky:∀ (X:av) h,(l++X)[0]'h=.cells 2 [bl g.ids,cw g.ops] :=fun X h=>by
    have:=(hy.more X).eT; rw[List.getElem?_eq_some_iff] at this; exact this.2
   have y4:O.take 11=O:=List.take_of_length_le (by omega);by_cases dz:o.act.kind=3#8
   ·have tK:=qh.2 dz;simp[cY,c2,dQ,<-p9,oM,l5,mR,y4,nM,mF,tK,ky,hc,bJ,List.take_of_length_le];refine bB y6 (by simp[bV,ae.closed,e4,ds,g0]) ?_;have Uu:db (.ao 32) (bl (g7 (iQ g k)))=some (.int .i64 (iQ g k).length) :=by simp[bl,kB]
    have gZ:=adx g k;simp[Uu];refine c0 (iQ g k).length (ac9 g k o l.length) ?_ ⟨by simp,by simp,by simp,by simp,by simp,by simp,by simp,by simp,by simp,by simp,by simp,BU.iff fun t=>⟨.inl,fun h=>h.elim id fun h=>by simp at h⟩,hy.lt,by rw[<-e3]; simp⟩;obtain⟨b,jv⟩:∃ b,b=l.length:=⟨_,rfl⟩
    rw[<-jv];clear hy BU mR il ky;rintro q ah l bp ⟨aY,a6,bi,bq,eb,mB,ki,kj,ry,rz,rA,hy,gu,aj⟩;obtain⟨ah,rfl⟩:=ack aY a6 bi bq eb mB ki kj ry rz rA;clear aY a6 bi bq eb mB ki kj ry rz rA;unfold Wt;by_cases fJ:q<(iQ g k).length
    ·obtain⟨y,aP,eA⟩:=cg fJ;have Vg:=ay.ids y (ady eA);have eJ:=dr Vg;have h9:IntKind.i64.wrap ((q:Int)+1)=((q+1:Nat) :Int) :=by rw[IntKind.wrap_i64]; omega
     have Ub:cU (.ao 32) (bl (g7 (iQ g k))) (.int .i64 (q:Int))=some (.cp (bb y) 0) :=by simp[bl,kB,aP]
     have p8:ep ⟨o.act.key,y⟩=.str o.act.key::bb y:=rfl;have fr:=(hy.more [.cells 32 (bb y)]).m;obtain⟨c,w9,nW⟩:=fr.put (x:=⟨o.act.key,y⟩) Vg;rw[p8] at w9;rw[<-e3] at aj;have fA:b<l.length:=(List.getElem?_eq_some_iff.1 aj).1;obtain⟨W,eR⟩:∃ W,W=bb y:=⟨_,rfl⟩
     rw[<-eR] at eJ Ub p8 w9 fr;have ajn:bU (rep 32 (.int .u8 0)) 0 W=W:=h3 (by rw[eJ]; rfl);have mR:∀ y z:bv,(l++[y]).set l.length z=l++[z] :=fun y z=>by rw[List.set_append_right _ _ (Nat.le_refl _)]; simp
     have b4:∀ X:av,(l++X)[b]? = some (.cells 11 O) :=fun X=>by rw[List.getElem?_append_left fA]; exact aj
     simp[fJ,Ub,eJ,ajn,mR,List.take_of_length_le,b4,mF,dQ,w9,h9];have jF:∀ a,a≠2->((l++[bv.cells 32 W]).set 2 c)[a]? = (l++[bv.cells 32 W])[a]?:=fun a aI=>List.getElem?_set_ne (Ne.symm aI)
     have wN:=hy.more [.cells 32 W];refine⟨by simp,by simp,by simp,by simp,by simp,by simp,by simp,by simp,by simp,by simp,by simp,⟨(jF 0 (by omega)).trans wN.eT,(jF 1 (by omega)).trans wN.pv,?_⟩,gu,?_⟩
     ·refine (nW _ (List.getElem?_set_self (by have:=wN.lt; omega))).iff (agy aP)
     ·rw[jF b (by omega),<-e3]; exact b4 _
    ·have o4:q=(iQ g k).length:=by omega
     subst o4;rw[List.take_length] at hy;simp[fJ,a1];exact⟨cY,by simp,by simp,by simp,by simp,by simp,by simp,by simp,hy.iff (agx az dz)⟩
   ·have tK:¬ (u o.act.kind:Int)=3:=fun h=>dz (qh.1 h)
    simp[cY,c2,dQ,<-p9,oM,l5,mR,y4,nM,mF,tK,a1];exact⟨by simp,by simp,by simp,by simp,by simp,by simp,by simp,BU.iff (agw az dz)⟩
  ·have gh:k=g.ops.l.length:=by omega
   subst gh;have ky:∀ (X:av) h,(l++X)[0]'h=.cells 2 [bl g.ids,cw g.ops] :=fun X h=>by
    have:=(hy.more X).eT; rw[List.getElem?_eq_some_iff] at this; exact this.2
   simp[cY,ky,dy];refine c0 g.ops.l.length (ac8 g l.length) ?_ ⟨by simp,by simp,by simp,by simp,by simp,by simp,by simp,by simp,hy.more _,hy.lt,.aZ,l.length+1,by simp,by simpa [ga] using b0.nil _,by simp[ga,cS],.inl rfl⟩;obtain⟨b,jv⟩:∃ b,b=l.length:=⟨_,rfl⟩
   rw[<-jv];clear hy ky jv;rintro i ah l aA ⟨aY,a6,bi,bq,e7,HF,HG,HH,hy,gu,v,j,aj,iZ,tw,am⟩;obtain⟨ah,rfl⟩:=D3 aY a6 bi bq e7 HF HG HH;clear aY a6 bi bq e7 HF HG HH;unfold Wv;have fA:b<l.length:=(List.getElem?_eq_some_iff.1 aj).1;have ky:∀ (X:av) h,(l++X)[0]'h=.cells 2 [bl g.ids,cw g.ops] :=fun X h=>by
    have:=(hy.more X).eT; rw[List.getElem?_eq_some_iff] at this; exact this.2
   by_cases d5:i<g.ops.l.length
   ·obtain⟨x,ak,d0⟩:=cg (l:=g.ids.l) (k:=i) (by omega);obtain⟨o,az,eF⟩:=cg d5;have m0:=ay.ids x d0;have bJ:=dr m0;have a1:IntKind.i64.wrap ((i:Int)+1)=((i+1:Nat) :Int) :=by rw[IntKind.wrap_i64]; omega
    have hc:cU (.ao 32) (bl g.ids) (.int .i64 (i:Int))=some (.cp (bb x) 0) :=by simp[bl,ak]
    have c2:cU (.ao 11) (cw g.ops) (.int .i64 (i:Int))=some (.cp (bz o) 0) :=by simp[cw,az]
    have dQ:(bz o).length=11:=rfl;have nM:∀ h,(bz o)[3]'h=bF o.act.kind:=fun _=>rfl
    have mF:∀ h,(bz o)[4]'h=.str o.act.key:=fun _=>rfl
    have qh:=Sl o;have p8:ep ⟨o.act.key,x⟩=.str o.act.key::bb x:=rfl;have td:(ep ⟨o.act.key,x⟩).length=33:=wy m0;have gZ:=yk az ak;obtain⟨O,e3⟩:∃ O,O=bz o:=⟨_,rfl⟩
    obtain⟨Y,gf⟩:∃ Y,Y=bb x:=⟨_,rfl⟩
    obtain⟨T,eu⟩:∃ T,T=ep ⟨o.act.key,x⟩:=⟨_,rfl⟩
    rw[<-e3] at c2 dQ nM mF;rw[<-gf] at hc bJ p8;have jB:=(hy.more [bv.cells 11 O,.cells 33 T]).m.look (x:=⟨o.act.key,x⟩) m0;rw[<-eu] at p8 td jB;obtain⟨Z,p9⟩:∃ Z,Z=[ae.int .u32 0,.aZ,.int .u64 0,.int .u8 0,.str [],.int .u8 0,.int .i64 0,.int .u64 0,.str [],.int .u32 0,.int .u32 0] :=⟨_,rfl⟩
    have oM:Z.length=11:=by rw[p9]; rfl
    have l5:bU Z 0 O=O:=h3 (by rw[dQ,oM]);have zC:bU (rep 32 (.int .u8 0)) 0 Y=Y:=h3 (by rw[bJ]; rfl);have I8:bU (ae.str [] ::rep 32 (.int .u8 0)) 0 T=T:=Nk td;have y4:O.take 11=O:=List.take_of_length_le (by omega);have Tx:T.take 33=T:=List.take_of_length_le (by omega);have mR:∀ y z:bv,(l++[y]).set l.length z=l++[z] :=fun y z=>by rw[List.set_append_right _ _ (Nat.le_refl _)]; simp
    have Ux:∀ y z w:bv,(l++[w,y]).set (l.length+1) z=l++[w,z] :=fun y z w=>by rw[List.set_append_right _ _ (by omega)]; simp
    have b4:∀ X:av,(l++X)[b]? = some (.cells 1 [v]) :=fun X=>by rw[List.getElem?_append_left fA]; exact aj
    by_cases ch:o.act.kind=2#8
    ·have tJ:=qh.2 ch;simp[d5,c2,dQ,<-p9,oM,l5,mR,y4,nM,mF,tJ,ky,hc,bJ,List.take_of_length_le,zC,<-p8,td,I8,Ux,jB];by_cases hm:k9 g g.ops.l.length ⟨o.act.key,x⟩
     ·rw[if_neg (fun h=>h.2 hm),List.append_nil] at gZ;simp[hm,a1];exact⟨d5,by simp,by simp,by simp,by simp,by simp,by simp,by simp,by simp,hy.more _,gu,v,j,b4 _,by rw[gZ]; exact iZ.more _,by rw[gZ]; exact tw,am⟩
     ·rw[if_pos ⟨ch,hm⟩] at gZ;obtain⟨ek,rN⟩:∃ ek,ek=l++[bv.cells 11 O,bv.cells 33 T,bv.cells 33 T] :=⟨_,rfl⟩
      have as8:ek.length=l.length+3:=by rw[rN]; simp
      have ahg:=AZ g i;have aiR:b0 33 ek v j ((ga g i).map ep) :=by rw[rN]; exact iZ.more _
      obtain⟨bc,cJ,l',me,nh,AJ,AK,x2,apr⟩:=Ot (by_:=48) aiR (x:=.ao 33 (l.length+2) 0 1 1 33) (xs:=[T]) (by rw[rN]; simp[dj,td,Tx]) (by simp[td]) (by omega) (by omega) (by simp; omega);have gM:cS bc=false:=by rw[apr]; simp
      have zE:=nh.cells;have agW:j9 g (k9 g g.ops.l.length) ek:=by rw[rN]; exact hy.more _
      have rI:ek[b]? = some (.cells 1 [v]) :=by rw[rN]; exact b4 _
      have bK:l'[b]? = some (.cells 1 [v]) :=by rw[AK b (by omega) (am.imp_right (by omega))]; exact rI
      rw[rN] at me;simp[hm,b4,td,Tx,I8,me,List.take_of_length_le];refine dM.cM ?_;simp[zE,bK,a1];have b7:∀ a,a≠b->(l'.set b (.cells 1 [bc]))[a]? = l'[a]?:=fun a aI=>List.getElem?_set_ne (Ne.symm aI)
      refine⟨d5,by simp,by simp,by simp,by simp,by simp,by simp,by simp,by simp,agW.frame fun a aI=>?_,gu,bc,cJ,List.getElem?_set_self (by omega),?_,by rw[gM,gZ]; simp,?_⟩
      ·rw[b7 a (by omega),AK a (by omega) (am.imp_right (by omega))]
      ·have aik:cJ≠b:=by
        rcases x2 with h | ⟨h1,ag⟩ | h
        ·omega
        ·have:=am.resolve_left h1; omega
        ·rw[h] at gM; cases gM
       rw[gZ,List.map_append];have:b0 33 (l'.set b (.cells 1 [bc])) bc cJ ((ga g i).map ep++[T]) :=nh.frame fun _=>b7 cJ aik
       rw[eu] at this;exact this
      ·right;rcases x2 with h | ⟨h1,ag⟩ | h
       ·omega
       ·have:=am.resolve_left h1; omega
       ·rw[h] at gM; cases gM
    ·have tJ:¬ (u o.act.kind:Int)=2:=fun h=>ch (qh.1 h)
     simp[d5,c2,dQ,<-p9,oM,l5,mR,y4,nM,mF,tJ,ky,hc,bJ,List.take_of_length_le,zC,<-p8,td,I8,Ux,a1];rw[if_neg (fun h=>ch h.1),List.append_nil] at gZ;exact⟨by simp,by simp,by simp,by simp,by simp,by simp,by simp,by simp,hy.more _,gu,v,j,b4 _,by rw[gZ]; exact iZ.more _,by rw[gZ]; exact tw,am⟩
   ·have ec:i=g.ops.l.length:=by omega
    subst ec;have ahg:=AZ g g.ops.l.length;simp[d5,aj];refine apc (Og ay _) (by omega) tw iZ (fun l' h1 ag aq=>?_);have bK:l'[b]? = some (.cells 1 [v]) :=by rw[ag b (am.imp_right (by omega))]; exact aj
    have wN:j9 g (k9 g g.ops.l.length) l':=hy.frame fun a aI=>ag a (am.imp_right (by omega))
    have pv:=wN.pv;have rN:=wN.lt;have zE:=aq.cells;have dx:∀ (y:bv),(l'.set 1 y)[1]? = some y:=fun y=>List.getElem?_set_self (by omega)
    simp[bK,pv,dx];refine aa3 (anH ?_) (a7 (by rw[aO]) rfl);unfold iG;rw[if_pos aO];have aK:b0 33 (l'.set 1 (.cells 1 [v])) v j ((kA (ga g g.ops.l.length)).map ep) :=by
     rcases am with e | e
     ·subst e;have:=aq.q.xA;rw[this]; exact .nil _
     ·exact aq.frame fun _=>List.getElem?_set_ne (by omega)
    exact aK.q.xQ (fun x=>Hb x) (DV (kA (ga g g.ops.l.length))) (by
     rw[tw,aoW];have:=abD (ga g g.ops.l.length);cases bg:kA (ga g g.ops.l.length)<;>cases bL:ga g g.ops.l.length<;>simp_all) (DW _)
 ·simp[aO];refine a7 ?_ ?_
  ·unfold iG; rw[if_neg aO]; rfl
  ·simp[ae.closed,bV,Bn]
theorem agt {α:Type} {l:List α} {i:Nat} {d x:α} (h:l[i]? = some x) :l.getD i d=x:=by rw[List.getD_eq_getElem?_getD,h]; rfl
open Classical in
theorem adz {g:b9} (am:iL g.ids.l) {i j:Nat} {p:List B} (aG:g.ids.l[j]? = some p) :p∈iQ g i<->h7 g.ids.l g.ops.l (df g.ops.l i) j:=by
 have aD:∀ t,t<g.ids.l.length->(nb g (df g.ops.l i)).getD t false=decide (h7 g.ids.l g.ops.l (df g.ops.l i) t) :=fun t aW=>by
  apply agt;unfold nb;rw[List.getElem?_map,List.getElem?_range aW]; rfl
 unfold iQ;rw[Xi];constructor
 ·rintro⟨t,aW,h1,ag⟩;rw[aD t aW] at h1;obtain⟨y,aP,_⟩:=cg aW;rw[hq aP] at ag;subst ag;rw[am j t y aG aP];exact of_decide_eq_true h1
 ·intro h;have ar:=(List.getElem?_eq_some_iff.1 aG).1;exact⟨j,ar,by rw[aD j ar]; exact decide_eq_true h,hq aG⟩
theorem HI {g:b9} (ay:gT g) (V:mq g) {key:List UInt8} {x:List B} (ak:x∈g.ids.l) :∀ {m:Nat},m<=g.ops.l.length->(mD g (fv g) key x m=true<->k9 g m ⟨key,x⟩)
 | 0,_=>by
  constructor
  ·intro h; cases h
  ·rintro⟨k,_,aF,_⟩; omega
 | m+1,hm=>by
  have aM:=HI ay V ak (key:=key) (m:=m) (by omega);obtain⟨o,az,_⟩:=cg (l:=g.ops.l) (k:=m) (by omega);obtain⟨y,aP,_⟩:=cg (l:=g.ids.l) (k:=m) (by rw[V.len]; omega);obtain⟨j,am⟩:=List.mem_iff_getElem?.1 ak;have cR:=(Ev g ay V aP).1;have h1:x∈fv g m<->x∈iQ g m:=(cR.mem j x am).trans (adz (tG V.eV) am).symm;rw[Ta az,Bool.or_eq_true,aM,Bool.and_eq_true,decide_eq_true_eq,h1];unfold qX;rw[Bool.and_eq_true,decide_eq_true_eq,decide_eq_true_eq];constructor
  ·rintro (⟨k,cC,bt,bE⟩ | ⟨⟨bt,bE⟩,a3⟩)
   ·exact⟨k,cC,by omega,bE⟩
   ·exact⟨m,o,by omega,az,bt,bE,a3⟩
  ·rintro⟨k,cC,bt,bE,a3,a4,a5⟩;by_cases kp:k=m
   ·subst kp; rw[az] at bE; obtain rfl:=Option.some.inj bE; exact .inr ⟨⟨a3,a4⟩,a5⟩
   ·exact .inl ⟨k,cC,by omega,bE,a3,a4,a5⟩
theorem aks {g:b9} (V:mq g) {k:Nat} {o:bS} (az:g.ops.l[k]? = some o) (ch:o.act.kind=2#8) :gk o.act.key=true:=by
 obtain⟨y,aP,_⟩:=cg (l:=g.ids.l) (k:=k) (by rw[V.len]; exact (List.getElem?_eq_some_iff.1 az).1);have h1:=Sw (D4 (V.agA k o y az aP).1);rw[yi ch,Bool.and_eq_true] at h1;exact h1.1
theorem Oe {g:b9} (V:mq g) {m:Nat} {key:List UInt8} {x:List B} (ak:g.ids.l[m]? = some x) :(⟨key,x⟩:br)∉ga g m:=fun h=>by
 obtain⟨k,o,y,h1,_,aq,_,_,bL⟩:=Od.1 h;have:x=y:=congrArg br.id bL;subst this;have:=tG V.eV k m x aq ak;omega
theorem Of {g:b9} (V:mq g) :∀ {m:Nat},m<=g.ops.l.length->(ga g m).Nodup
 | 0,_=>by simp[ga]
 | m+1,hm=>by
  have aM:=Of V (m:=m) (by omega);obtain⟨o,az,_⟩:=cg (l:=g.ops.l) (k:=m) (by omega);obtain⟨x,ak,_⟩:=cg (l:=g.ids.l) (k:=m) (by rw[V.len]; omega);rw[yk az ak];split
  ·rw[List.nodup_append];refine⟨aM,by simp,fun a aI b aj e=>?_⟩;rw[List.mem_singleton] at aj;subst e;rw[aj] at aI;exact Oe V ak aI
  ·simpa using aM
theorem Ke {g:b9} (ay:gT g) (V:mq g) :∀ {m:Nat},m<=g.ops.l.length->kL (fO g (fv g) m).l=true/\∀ t,t∈(fO g (fv g) m).l<->t∈ga g m
 | 0,_=>⟨rfl,fun t=>by simp[fO,ga]⟩
 | m+1,hm=>by
  obtain⟨h1,ag⟩:=Ke ay V (m:=m) (by omega);obtain⟨o,az,_⟩:=cg (l:=g.ops.l) (k:=m) (by omega);obtain⟨x,ak,d0⟩:=cg (l:=g.ids.l) (k:=m) (by rw[V.len]; omega);have Cs:=HI ay V (key:=o.act.key) d0 (Nat.le_refl g.ops.l.length);rw[Xv az ak,yk az ak];by_cases al:o.act.kind=2#8/\¬ k9 g g.ops.l.length ⟨o.act.key,x⟩
  ·have au:sv g (fv g) o x=true:=by
    unfold sv;rw[Bool.and_eq_true,decide_eq_true_eq,Bool.not_eq_true'];exact⟨al.1,Bool.eq_false_iff.2 fun h=>al.2 (Cs.1 h)⟩
   rw[if_pos au,if_pos al];have aH:(⟨o.act.key,x⟩:br)∉(fO g (fv g) m).l:=fun h=>Oe V ak ((ag _).1 h)
   have aG:sm (fO g (fv g) m).l ⟨o.act.key,x⟩=n7 (fO g (fv g) m).l (pX (fO g (fv g) m).l ⟨o.act.key,x⟩) ⟨o.act.key,x⟩:=by unfold sm; rw[XV h1 aH]
   rw[eh.JU,aG];refine⟨agC h1 aH (aks V az al.1),fun t=>?_⟩;rw[ajP,ag t,List.mem_append,List.mem_singleton,Or.comm]
  ·have au:¬ sv g (fv g) o x=true:=by
    intro h;unfold sv at h;rw[Bool.and_eq_true,decide_eq_true_eq,Bool.not_eq_true'] at h;exact al ⟨h.1,fun aQ=>by rw[Cs.2 aQ] at h; cases h.2⟩
   rw[if_neg au,if_neg al,List.append_nil];exact⟨h1,ag⟩
theorem alU {g:b9} (ay:gT g) :(iG g).l=(Kf g).l:=by
 unfold iG Kf;by_cases aO:gK g=0
 ·have V:=xF aO;rw[if_pos aO,if_pos aO,DW];obtain⟨h1,ag⟩:=Ke ay V (Nat.le_refl _);exact abF (lt:=el) xv (fun a b c h1 ag=>pl h1 ag) (aoB (Of V (Nat.le_refl _))) ((HJ _).1 h1).2 (fun t=>by rw[Nj,ag])
 ·rw[if_neg aO,if_neg aO]
theorem alT {g:b9} (ay:gT g) :pt (iG g).l/\(iG g).l.length<=g.ops.l.length:=by
 unfold iG;by_cases aO:gK g=0
 ·rw[if_pos aO,DW];refine⟨fun t aW=>Og ay _ t ((Nj _ _).1 aW),?_⟩;rw[abD]; exact AZ g _
 ·rw[if_neg aO]; exact⟨fun t aW=>(by cases aW),Nat.zero_le _⟩
structure Es (g:b9) :Prop where
 ids:ik g.ids
 ops:∀ o∈g.ops.l,Et o
theorem apf {ts:List TypeId} {cs:List ae} (h:kF Tryz.prog (60::ts) cs) :∃ (g:b9) (cs' : List ae),cs=dv g::cs'/\Es g/\kF Tryz.prog ts cs':=by
 obtain⟨c,cs',rfl,h1,ag⟩:=ace h;obtain⟨cs,rfl,aq⟩:=api (by kernel_rfl) h1;have aK:=AI (fs:=[26,58]) (by kernel_rfl) aq;obtain⟨i,_,rfl,aA,bg⟩:=acg aK;obtain⟨s,_,rfl,_,az,bL⟩:=ach (e:=35) (z:=11) (enc:=bz) (Q:=Et) (by kernel_rfl) (by kernel_rfl) (fun r aD=>by
  obtain⟨x,_,rfl,ak,aq⟩:=apn aD;rw[NE aq,List.append_nil];exact⟨x,rfl,ak⟩) bg
 rw[NE bL];exact⟨⟨i,s⟩,cs',rfl,⟨aA,az⟩,ag⟩
theorem alV {g:b9} (h:Es g) (ay:s8 g=false) :gT g:=by
 unfold s8 at ay;simp only[Bool.or_eq_false_iff,decide_eq_false_iff_not] at ay;obtain⟨h1,ag,aq,aK⟩:=ay;refine⟨h.ids,fun o az=>?_,by omega,by omega⟩;have bg:¬ rD o=true:=fun aQ=>h1 ⟨o,by rw[List.take_of_length_le (by omega)]; exact az,aQ⟩
 unfold rD at bg;simp only[Bool.or_eq_true,decide_eq_true_eq,not_or] at bg;have aW:=h.ops o az;exact⟨aW.ids,by omega,⟨aW.lE,aW.qH,by omega⟩,by omega⟩
theorem Xw {g:b9} (ay:gT g) (aO:gK g=0) :kL (iG g).l=true/\k4 (iG g).l=0:=by
 have V:=xF aO;have h1:=(Ke ay V (Nat.le_refl _)).1;have ag:(iG g).l=(fO g (fv g) g.ops.l.length).l:=by rw[alU ay]; unfold Kf; rw[if_pos aO]
 have aq:=(Xu ay (A:=fv g) g.ops.l.length).2;rw[ag];exact⟨h1,af2 (by have:=V.n60; omega) h1⟩
noncomputable def ox (g:b9) (key:List UInt8) :Nat->Bool
 | 0=>false
 | m+1=>ox g key m||(match g.ops.l[m]?,g.ids.l[m]? with | some o,some x=>decide (o.act.kind=2#8)&&(decide (o.act.key=key)&&!mD g (fv g) key x g.ops.l.length) | _,_=>false)
theorem acA {g:b9} {key:List UInt8} {m:Nat} {o:bS} {x:List B} (az:g.ops.l[m]? = some o) (ak:g.ids.l[m]? = some x) :ox g key (m+1)=(ox g key m||(decide (o.act.kind=2#8)&&(decide (o.act.key=key)&&!mD g (fv g) key x g.ops.l.length))) :=by
 show (ox g key m||(match g.ops.l[m]?,g.ids.l[m]? with | some o,some x=>decide (o.act.kind=2#8)&&(decide (o.act.key=key)&&!mD g (fv g) key x g.ops.l.length) | _,_=>false))=_;rw[az,ak]
theorem acz {g:b9} (ay:gT g) (V:mq g) {key:List UInt8}:∀ {m:Nat},m<=g.ops.l.length->(ox g key m=true<->∃ t∈ga g m,t.key=key)
 | 0,_=>by simp[ox,ga]
 | m+1,hm=>by
  have aM:=acz ay V (key:=key) (m:=m) (by omega);obtain⟨o,az,_⟩:=cg (l:=g.ops.l) (k:=m) (by omega);obtain⟨x,ak,d0⟩:=cg (l:=g.ids.l) (k:=m) (by rw[V.len]; omega);have Cs:=HI ay V (key:=key) d0 (Nat.le_refl g.ops.l.length);rw[acA az ak,yk az ak,Bool.or_eq_true,aM,Bool.and_eq_true,Bool.and_eq_true,decide_eq_true_eq,decide_eq_true_eq,Bool.not_eq_true'];have ah5:mD g (fv g) key x g.ops.l.length=false<->¬ k9 g g.ops.l.length ⟨key,x⟩:=by
   rw[<-Cs]; simp
  rw[ah5];constructor
  ·rintro (⟨t,h1,ag⟩ | ⟨h1,ag,aq⟩)
   ·exact⟨t,by simp[h1],ag⟩
   ·subst ag;rw[if_pos ⟨h1,aq⟩];exact⟨⟨o.act.key,x⟩,by simp,rfl⟩
  ·rintro⟨t,h1,ag⟩;rw[List.mem_append] at h1;rcases h1 with h1 | h1
   ·exact .inl ⟨t,h1,ag⟩
   ·right;split at h1
    ·rename_i aQ;rw[List.mem_singleton] at h1;subst h1;simp only at ag;subst ag;exact⟨aQ.1,rfl,aQ.2⟩
    ·cases h1
theorem aqb {g:b9} (ay:gT g) (aO:gK g=0) (key:List UInt8) :u2 (iG g).l key=ox g key g.ops.l.length:=by
 have V:=xF aO;obtain⟨h1,ag⟩:=Xw ay aO;rw[ahk];have aq:=acz ay V (key:=key) (Nat.le_refl _);have aK:nN (iG g).l key=true<->∃ t∈ga g g.ops.l.length,t.key=key:=by
  unfold nN iG;rw[decide_eq_true_eq,if_pos aO,DW,List.mem_map];simp only[Nj]
 unfold H7;rw[ag];simp only[decide_true,Bool.true_and];rw[Bool.eq_iff_iff,aK,aq]
structure adh (g:b9) (key:List UInt8) (T:jQ) (K:nr) (au:Bool) (k:Nat) (ah:bj) (l:av) :Prop where
 aY:ah 1=.str key
 a6:ah 2=.ptr 0 0 2
 bq:ah 5=.bool true
 dN:ah 8=.bool au
 eP:ah 10=lY K
 e7:ah 12=.bool false
 uQ:ah 14=.int .i64 k
 qJ:∃ v,ah 13=v/\cl 1 wx [.cells 2 [bl g.ids,cw g.ops],.cells 1 [hv T]] l v ((List.range k).map (fv g)) (decide (k=0))
structure adi (g:b9) (key:List UInt8) (K:nr) (au:Bool) (v:ae) (L:av) (k:Nat) (ah:bj) (l:av) :Prop where
 aY:ah 1=.str key
 a6:ah 2=.ptr 0 0 2
 bq:ah 5=.bool true
 dN:ah 8=.bool au
 eP:ah 10=lY K
 e7:ah 12=.bool (ox g key k)
 hb:ah 13=v
 lp:ah 15=.int .i64 k
 e:l=L
structure adj (g:b9) (key:List UInt8) (K:nr) (au:Bool) (v:ae) (L:av) (i:Nat) (x:List B) (k:Nat) (ah:bj) (l:av) :Prop where
 aY:ah 1=.str key
 a6:ah 2=.ptr 0 0 2
 bq:ah 5=.bool true
 dN:ah 8=.bool au
 eP:ah 10=lY K
 e7:ah 12=.bool (ox g key i)
 hb:ah 13=v
 lp:ah 15=.int .i64 i
 lZ:ah 16=.bool (!mD g (fv g) key x k)
 my:ah 17=.int .i64 k
 e:l=L
structure adk (key:List UInt8) (K:nr) (au w:Bool) (L:av) (k:Nat) (ah:bj) (l:av) :Prop where
 aY:ah 1=.str key
 bq:ah 5=.bool true
 dN:ah 8=.bool au
 eP:ah 10=lY K
 e7:ah 12=.bool w
 mz:ah 18=.bool (decide (key∈K.l.take k))
 mA:ah 19=.int .i64 k
 e:l=L
set_option maxHeartbeats 8000000 in
theorem alX (gZ:bT Tryz.prog GS 27 [] (.bool true)) (g:b9) (aW:Es g) (key:List UInt8) :dp Tryz.prog GS 5 [dv g,.str key] [] (c:=⟨fun r _=>r=.bool true⟩) :=by
 apply bH Q7 aad;unfold yw tX;have e4:=hM g.ids;have ds:=nE g.ops;have qe:=ani g;unfold dv ea at qe;simp[dv,ea];refine bB gZ rfl ?_;simp;refine bB qe (by simp[bV,ae.closed,e4,ds]) ?_;cases Im:s8 g with
 | true=>simp
 | false=>
  have ay:=alV aW Im;have dU:=anh g ay;unfold dv ea at dU;simp;refine bB dU (by simp[bV,ae.closed,e4,ds]) ?_;by_cases aO:gK g=0
  ·by_cases asu:100<key.length
   ·have HM:(100:Int)<(key.length:Int) :=by omega
    simp[aO,HM]
   ·have HM:¬ (100:Int)<(key.length:Int) :=by omega
    have V:=xF aO;have UD:=V.n60;have jG:=V.len;have hT:=ay.li;have aD:cQ=140737488355328:=rfl;have l3:=apX g ay;rw[aO] at l3;obtain⟨cc,ch⟩:=alT ay;obtain⟨dz,f2⟩:=Xw ay aO;have Ct:=apR (iG g) cc (by omega) key;have Cy:=acx (iG g) cc (by omega);rw[f2] at Ct Cy;have Jm:=aqb ay aO key;have Cz:u2 (iG g).l key=decide (key∈(pg (iG g).l).l) :=rfl;have cY:=VK (iG g).l;unfold dv ea at l3;have cN:=Bn (iG g);obtain⟨T,eu⟩:∃ T,T=iG g:=⟨_,rfl⟩
    rw[<-eu] at l3 Ct Cy Cz Jm cN cY;obtain⟨K,a8⟩:∃ K,K=pg T.l:=⟨_,rfl⟩
    obtain⟨au,ah8⟩:∃ au,au=u2 T.l key:=⟨_,rfl⟩
    rw[<-a8] at Cy Cz cY;rw[<-ah8] at Ct Cz Jm;have ag9:=ae3 T;have td:T.l.length<=g.ops.l.length:=by rw[eu]; exact ch
    have asD:=cY;have BV:db (.ao 1) (lY K)=some (.int .i64 K.l.length) :=oa _;have dy:db (.ao 11) (cw g.ops)=some (.int .i64 g.ops.l.length) :=by simp[cw]
    have ahq:∀ x y:Bool,fw Tryz.prog .eql 4 (.bool x) (.bool y)=some (.bool (x == y)) :=adU (by kernel_rfl);simp[aO,HM];refine bB l3 (by simp[bV,ae.closed,e4,ds]) ?_;simp[ag9];refine bB Ct (by simp[bV,ae.closed,cN]) ?_;simp;refine bB Cy (by simp[bV,ae.closed,cN]) ?_;simp;refine c0 g.ops.l.length (adh g key T K au) ?_ ⟨by simp,by simp,by simp,by simp,by simp,by simp,by simp,.aZ,by simp,by simpa using cl.nil⟩;rintro k ah l aF ⟨aY,a6,bq,dN,eP,e7,uQ,v,hb,eI⟩;obtain⟨ah,rfl⟩:=D3 aY a6 bq dN eP e7 hb uQ;clear aY a6 bq dN eP e7 hb uQ;unfold WF;have eT:l[0]? = some (.cells 2 [bl g.ids,cw g.ops]) :=by rw[eI.same 0 (by simp)]; rfl
    by_cases cY:k<g.ops.l.length
    ·obtain⟨x,ak,d0⟩:=cg (l:=g.ids.l) (k:=k) (by omega);obtain⟨cR,kN⟩:=Ev g ay V ak;unfold dv ea at kN;have m0:=ay.ids x d0;have bJ:=dr m0;have a1:IntKind.i64.wrap ((k:Int)+1)=((k+1:Nat) :Int) :=by rw[IntKind.wrap_i64]; omega
     have hc:cU (.ao 32) (bl g.ids) (.int .i64 (k:Int))=some (.cp (bb x) 0) :=by simp[bl,ak]
     have g0:=ha x;obtain⟨Y,gf⟩:∃ Y,Y=bb x:=⟨_,rfl⟩
     rw[<-gf] at kN hc bJ g0;obtain⟨bc,l',me,nh,AJ⟩:=alR (by_:=24) (eI.more [bv.cells 1 [bl (g7 (fv g k))]]) (fv g k) (b:=l.length) (by simp[wx]) (by simp[wx]) (by omega) (by omega) (by simp; omega);simp[eT,dy,cY,hc,bJ,List.take_of_length_le];refine bB kN (by simp[bV,ae.closed,e4,ds,g0]) ?_;simp[ae4,me];refine dM.cM ?_;simp[a1];refine⟨cY,by simp,by simp,by simp,by simp,by simp,by simp,by simp,bc,by simp,?_⟩;have bD:decide (k+1=0)=false:=by simp
     rw[bD,List.range_succ,List.map_append];exact nh
    ·have gh:k=g.ops.l.length:=by omega
     subst gh;obtain⟨r6,od,dO,vo,asA,pq⟩:=id eI;simp[eT,dy,cY];refine c0 g.ops.l.length (adi g key K au v l) ?_ ⟨by simp,by simp,by simp,by simp,by simp,by simp[ox],by simp,by simp,rfl⟩;rintro i ah l1 aA ⟨aY,a6,bq,dN,eP,e7,hb,lp,rfl⟩;obtain⟨ah,rfl⟩:=D3 aY a6 bq dN eP e7 hb lp;clear aY a6 bq dN eP e7 hb lp;unfold WH;by_cases d5:i<g.ops.l.length
     ·obtain⟨x,ak,d0⟩:=cg (l:=g.ids.l) (k:=i) (by omega);obtain⟨o,az,eF⟩:=cg d5;have m0:=ay.ids x d0;have bJ:=dr m0;have a1:IntKind.i64.wrap ((i:Int)+1)=((i+1:Nat) :Int) :=by rw[IntKind.wrap_i64]; omega
      have hc:cU (.ao 32) (bl g.ids) (.int .i64 (i:Int))=some (.cp (bb x) 0) :=by simp[bl,ak]
      have c2:cU (.ao 11) (cw g.ops) (.int .i64 (i:Int))=some (.cp (bz o) 0) :=by simp[cw,az]
      have nM:(bz o)[3]? = some (bF o.act.kind) :=rfl;have mF:(bz o)[4]? = some (.str o.act.key) :=rfl;have g0:=ha x;have n5:=acA (key:=key) az ak;have qh:=Sl o;obtain⟨O,e3⟩:∃ O,O=bz o:=⟨_,rfl⟩
      obtain⟨Y,gf⟩:∃ Y,Y=bb x:=⟨_,rfl⟩
      rw[<-e3] at c2 nM mF;rw[<-gf] at hc bJ g0;by_cases tJ:o.act.kind=2#8
      ·have C1:=qh.2 tJ;by_cases iE:o.act.key=key
       ·simp[eT,dy,d5,c2,nM,mF,C1,iE];refine c0 g.ops.l.length (adj g key K au v l1 i x) ?_ ⟨by simp,by simp,by simp,by simp,by simp,by simp,by simp,by simp,by simp[mD],by simp,rfl⟩;rintro q ah l bp ⟨aY,a6,bq,dN,eP,e7,hb,lp,lZ,my,rfl⟩;obtain⟨ah,rfl⟩:=apv aY a6 bq dN eP e7 hb lp lZ my;clear aY a6 bq dN eP e7 hb lp lZ my;unfold WG;by_cases fJ:q<g.ops.l.length
        ·obtain⟨cC,dw,UN⟩:=cg fJ;have h9:IntKind.i64.wrap ((q:Int)+1)=((q+1:Nat) :Int) :=by rw[IntKind.wrap_i64]; omega
         have Cv:cU (.ao 11) (cw g.ops) (.int .i64 (q:Int))=some (.cp (bz cC) 0) :=by simp[cw,dw]
         have BX:(bz cC)[3]? = some (bF cC.act.kind) :=rfl;have BZ:(bz cC)[4]? = some (.str cC.act.key) :=rfl;have oV:=Ta (A:=fv g) (k:=key) (x:=x) dw;have Uk:=Sm cC;obtain⟨aqx,ag1⟩:∃ O,O=bz cC:=⟨_,rfl⟩
         rw[<-ag1] at Cv BX BZ;by_cases dz:cC.act.kind=3#8
         ·have tK:=Uk.2 dz;by_cases C5:cC.act.key=key
          ·have vn:qX cC key=true:=by unfold qX; simp[dz,C5]
           rw[vn] at oV;obtain⟨Ed,rZ,atu⟩:=cg (l:=g.ids.l) (k:=q) (by omega);obtain⟨Tl,_⟩:=Ev g ay V rZ;obtain⟨Ko,yw,sC,bt,bE,a3,a4⟩:=od.q.get (k:=.i64) (i:=q) (e:=wx (fv g q)) (by simp[fJ]);have a5:=one_cell (c:=bl (g7 (fv g q))) (by simpa [wx] using a4);have ec:=aaV (g7 (fv g q)) (fun y aP=>ay.ids y (Tl.sub y (by rw[kB] at aP; exact aP))) (by rw[kB]; have:=Tl.len; omega) x m0;rw[kB,<-gf] at ec;have iW:=hM (g7 (fv g q));simp[eT,dy,fJ,Cv,BX,BZ,tK,C5,bt,bE,a5,hc,bJ,List.take_of_length_le];refine bB ec (by simp[bV,ae.closed,iW,g0]) ?_;by_cases hm:x∈fv g q
           ·simp[hm,h9,fJ];exact⟨by simp,by simp,by simp,by simp,by simp,by simp,by simp,by simp,by simp[oV,hm],by simp,rfl⟩
           ·simp[hm,h9,fJ];exact⟨by simp,by simp,by simp,by simp,by simp,by simp,by simp,by simp,by simp[oV,hm],by simp,rfl⟩
          ·have vn:qX cC key=false:=by unfold qX; simp[C5]
           rw[vn] at oV;simp[eT,dy,fJ,Cv,BX,BZ,tK,C5,h9];exact⟨by simp,by simp,by simp,by simp,by simp,by simp,by simp,by simp,by simp[oV],by simp,rfl⟩
         ·have tK:¬ (u cC.act.kind:Int)=3:=fun h=>dz (Uk.1 h)
          have vn:qX cC key=false:=by unfold qX; simp[dz]
          rw[vn] at oV;simp[eT,dy,fJ,Cv,BX,BZ,tK,h9];exact⟨by simp,by simp,by simp,by simp,by simp,by simp,by simp,by simp,by simp[oV],by simp,rfl⟩
        ·have o4:q=g.ops.l.length:=by omega
         subst o4;cases Vc:ox g key i with
         | true=>
          simp[eT,dy,fJ,a1];exact⟨d5,by simp,by simp,by simp,by simp,by simp,by simp[n5,Vc],by simp,by simp,rfl⟩
         | false=>
          simp[eT,dy,fJ,a1];exact⟨d5,by simp,by simp,by simp,by simp,by simp,by simp[n5,Vc,tJ,iE],by simp,by simp,rfl⟩
       ·simp[eT,dy,d5,c2,nM,mF,C1,iE,a1];exact⟨by simp,by simp,by simp,by simp,by simp,by simp[n5,iE],by simp,by simp,rfl⟩
      ·have C1:¬ (u o.act.kind:Int)=2:=fun h=>tJ (qh.1 h)
       simp[eT,dy,d5,c2,nM,mF,C1,a1];exact⟨by simp,by simp,by simp,by simp,by simp,by simp[n5,tJ],by simp,by simp,rfl⟩
     ·have ec:i=g.ops.l.length:=by omega
      subst ec;simp[eT,dy,d5];refine c0 K.l.length (adk key K au (ox g key g.ops.l.length) l1) ?_ ⟨by simp,by simp,by simp,by simp,by simp,by simp,by simp,rfl⟩;rintro q ah l bp ⟨aY,bq,dN,eP,e7,mz,mA,rfl⟩;obtain⟨ah,rfl⟩:=NL aY bq dN eP e7 mz mA;clear aY bq dN eP e7 mz mA;unfold WI;by_cases fJ:q<K.l.length
      ·obtain⟨y,aP,eA⟩:=cg fJ;have h9:IntKind.i64.wrap ((q:Int)+1)=((q+1:Nat) :Int) :=by rw[IntKind.wrap_i64]; omega
       have tm:cU (.ao 1) (lY K) (.int .i64 (q:Int))=some (.cp (hN y) 0) :=by unfold lY; rw[pa]; simp[aP]
       have gF:∀ z,z∈K.l.take (q+1)<->z∈K.l.take q\/z=y:=fun z=>by rw[List.take_add_one,aP,List.mem_append]; simp
       by_cases hm:key∈K.l.take q
       ·simp[BV,fJ,hm,h9];exact⟨by simp,by simp,by simp,by simp,by simp,by simp[gF,hm],by simp,rfl⟩
       ·by_cases CU:y=key
        ·simp[BV,fJ,hm,h9,tm,hN,CU];exact⟨by simp,by simp,by simp,by simp,by simp,by simp[gF,CU],by simp,rfl⟩
        ·simp[BV,fJ,hm,h9,tm,hN,CU];exact⟨by simp,by simp,by simp,by simp,by simp,by simp[gF,hm,Ne.symm CU],by simp,rfl⟩
      ·have o4:q=K.l.length:=by omega
       subst o4;rw[List.take_length,<-Cz];simp[BV,ahq,<-Jm]
  ·simp[aO]
end Op
end Go.cj

namespace Go.cj
open Go Go.Proofs
set_option maxRecDepth 1000000
set_option maxHeartbeats 8000000
abbrev Vx:List ae:=[.aV ([.int .u32 (1024)]++[.bW 32 []]++[.int .u64 (1)]++[.int .u8 2]++[.str [107]]++[.int .u8 0]++[m2 (0)]++[.int .u64 (0)]++[.str []]++[.int .u32 (279904696)]++[.int .u32 (405231647)])]
abbrev VC:ae:=m2 (0)
theorem akj:h6 Tryz.prog GS 61 Vx VC:=
 vI (P:=Tryz.prog) Tryz.checked.mixed b2 (vE (ml.mem (ny DG (wd)))) ui (orc:=sj [As]) (fuel:=100000) (k:=60) (by kernel_rfl)
abbrev Vy:List ae:=[.aV ([.int .u32 (1024)]++[.bW 32 [c5 [229,124,185,107,70,231,131,233,115,130,99,242,254,26,152,21,36,103,69,47,253,120,128,100,162,223,201,56,16,173,61,62]]]++[.int .u64 (2)]++[.int .u8 3]++[.str [107]]++[.int .u8 0]++[m2 (0)]++[.int .u64 (0)]++[.str []]++[.int .u32 (222953725)]++[.int .u32 (492791184)])]
abbrev VD:ae:=m2 (0)
theorem akk:h6 Tryz.prog GS 61 Vy VD:=
 vI (P:=Tryz.prog) Tryz.checked.mixed b2 (vE (ml.mem (ny DG (wd)))) ui (orc:=sj [As]) (fuel:=100000) (k:=60) (by kernel_rfl)
abbrev Vz:List ae:=[.aV ([.int .u32 (1024)]++[.bW 32 []]++[.int .u64 (3)]++[.int .u8 2]++[.str [107]]++[.int .u8 0]++[m2 (0)]++[.int .u64 (0)]++[.str []]++[.int .u32 (466031157)]++[.int .u32 (154584838)])]
abbrev VE:ae:=m2 (0)
theorem akl:h6 Tryz.prog GS 61 Vz VE:=
 vI (P:=Tryz.prog) Tryz.checked.mixed b2 (vE (ml.mem (ny DG (wd)))) ui (orc:=sj [As]) (fuel:=100000) (k:=60) (by kernel_rfl)
abbrev VA:List ae:=[.aV ([.bW 32 [c5 [118,22,95,112,174,4,111,107,240,22,10,146,23,178,112,45,83,205,202,96,101,37,118,128,7,255,191,103,167,230,185,199],c5 [229,124,185,107,70,231,131,233,115,130,99,242,254,26,152,21,36,103,69,47,253,120,128,100,162,223,201,56,16,173,61,62],c5 [236,1,228,215,173,162,212,26,73,9,238,81,3,24,43,149,66,163,18,250,15,204,37,92,161,241,167,131,64,202,126,40]]]++[.bW 11 [[.int .u32 (1024)]++[.bW 32 []]++[.int .u64 (3)]++[.int .u8 2]++[.str [107]]++[.int .u8 0]++[m2 (0)]++[.int .u64 (0)]++[.str []]++[.int .u32 (466031157)]++[.int .u32 (154584838)],[.int .u32 (1024)]++[.bW 32 []]++[.int .u64 (1)]++[.int .u8 2]++[.str [107]]++[.int .u8 0]++[m2 (0)]++[.int .u64 (0)]++[.str []]++[.int .u32 (279904696)]++[.int .u32 (405231647)],[.int .u32 (1024)]++[.bW 32 [c5 [229,124,185,107,70,231,131,233,115,130,99,242,254,26,152,21,36,103,69,47,253,120,128,100,162,223,201,56,16,173,61,62]]]++[.int .u64 (2)]++[.int .u8 3]++[.str [107]]++[.int .u8 0]++[m2 (0)]++[.int .u64 (0)]++[.str []]++[.int .u32 (222953725)]++[.int .u32 (492791184)]]])]
abbrev VF:ae:=m2 (0)
theorem akm:h6 Tryz.prog GS 55 VA VF:=
 vI (P:=Tryz.prog) Tryz.checked.mixed b2 (vE (ml.mem (ny XQ (ny abR (ny X0 (wd)))))) ui (orc:=sj [Kv,jM,KA]) (fuel:=100000) (k:=60) (by kernel_rfl)
abbrev VB:List ae:=[.aV ([.bW 32 [c5 [229,124,185,107,70,231,131,233,115,130,99,242,254,26,152,21,36,103,69,47,253,120,128,100,162,223,201,56,16,173,61,62],c5 [236,1,228,215,173,162,212,26,73,9,238,81,3,24,43,149,66,163,18,250,15,204,37,92,161,241,167,131,64,202,126,40]]]++[.bW 11 [[.int .u32 (1024)]++[.bW 32 []]++[.int .u64 (1)]++[.int .u8 2]++[.str [107]]++[.int .u8 0]++[m2 (0)]++[.int .u64 (0)]++[.str []]++[.int .u32 (279904696)]++[.int .u32 (405231647)],[.int .u32 (1024)]++[.bW 32 [c5 [229,124,185,107,70,231,131,233,115,130,99,242,254,26,152,21,36,103,69,47,253,120,128,100,162,223,201,56,16,173,61,62]]]++[.int .u64 (2)]++[.int .u8 3]++[.str [107]]++[.int .u8 0]++[m2 (0)]++[.int .u64 (0)]++[.str []]++[.int .u32 (222953725)]++[.int .u32 (492791184)]]])]
abbrev VG:ae:=m2 (0)
theorem akn:h6 Tryz.prog GS 55 VB VG:=
 vI (P:=Tryz.prog) Tryz.checked.mixed b2 (vE (ml.mem (ny XQ (ny abR (ny X0 (wd)))))) ui (orc:=sj [Kv,jM,KA]) (fuel:=100000) (k:=60) (by kernel_rfl)
theorem ako:dp Tryz.prog GS 27 [] [] (c:=⟨fun r _=>r=.bool true⟩) :=
 aeT (vE (ml.mem (ny DG (ny (Kt (yl akm (yl akn (Oj)))) (ny (Kt (yl akj (yl akk (yl akl (Oj))))) (wd)))))) ui (orc:=sj [As,(55,true,Ag [(VA,VF),(VB,VG)]),(61,true,Ag [(Vx,VC),(Vy,VD),(Vz,VE)])]) (fuel:=100000) (k:=60) (by kernel_rfl)
theorem adt:bT Tryz.prog GS 27 [] (.bool true) :=
 cd Tryz.checked.mixed b2 (by
  obtain⟨r,l,h1,ag,aq⟩:=ako;exact⟨r,l,h1,ag,a7 aq rfl⟩)
end Go.cj

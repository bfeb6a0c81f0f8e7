/-
  op.Message: walked.
-/
import Derived.Test.YtboebmmklamaeaaGreatDoorSj
set_option linter.unusedVariables false
set_option linter.unusedSimpArgs false
set_option linter.unnecessarySimpa false
namespace Go.cl
open Go Go.Proofs
set_option maxRecDepth 100000
namespace Op
open gX
def gi (o:bH) :bH:={ o with e:=0#32,s:=0#32 }
theorem aa9 (o:bH) (ay:iv o) (aE:fX (gi o)=0) {l:au} {K:ae->au->Prop} (a7:∀ w l',cq 1 b9 l l' w (i8 o) false->K (.bU [w,.int .i64 0]) l') :
  dB Tryz.prog GS 108 [.aS (bl o)] l (c:=⟨K⟩) :=by
 apply bI OL Xj;unfold EI Kt;have aC:cJ=140737488355328:=rfl;have Is:=ha o.fP.toNat
 have p2:=ha o.gT.toNat
 have fU:=zD ay.ids;have eu:iv (gi o) :=⟨ay.ids,ay.len,ay.val,ay.key⟩
 have ea:=DU (gi o) eu;rw[aE] at ea;have rs:o.bx.l.length<=4:=xx (o:=gi o) aE;have Cw:eU o.bx.l=true:=by
  unfold fX at aE;have a1:(gi o).bx=o.bx:=rfl;rw[a1,if_neg (by omega)] at aE;cases ap:eU o.bx.l with
  | true=>rfl
  | false=>rw[ap] at aE; cases aE
 have IY:(BitVec.setWidth 64 o.fP).toNat=o.fP.toNat:=by rw[BitVec.toNat_setWidth]; exact Nat.mod_eq_of_lt (by have:=o.fP.isLt; omega)
 have afz:=kb (gi o);have aN:l.length<(l++[bg.cells 11 (bl (gi o))]).length:=by simp
 have fx:(l++[bg.cells 11 (bl (gi o))])[l.length]? = some (.cells 11 (bl (gi o))) :=by simp
 simp[bl];refine bv ea (show bP [ae.aS (bl (gi o))]=true by simp[bP,ae.closed,afz]) ?_;simp;refine anh o.bx ay.ids (by omega) Cw fun b4 l1 h1=>?_
 have p3:l1[l.length]? = some (.cells 11 (bl (gi o))) :=by rw[h1.same _ aN]; exact fx
 have nP:l.length<l1.length:=by have:=h1.le; simp at this; omega
 have u1:=p3;simp[bl,gi] at u1;have ag3:(l1++[bg.cells 1 [ae.int .u8 111]])[l.length]? = some (.cells 11 (bl (gi o))) :=by rw[List.getElem?_append_left nP]; exact p3
 have aqx:l.length<(l1++[bg.cells 1 [ae.int .u8 111]]).length:=by simp; omega
 have Ub:=ag3;simp[bl,gi] at Ub;simp[Ub];have ag8:(l1++[bg.cells 1 [ae.int .u8 111],bg.cells 1 [ae.int .u8 (u o.act.kind)]])[l.length]? = some (.cells 11 (bl (gi o))) :=by rw[List.getElem?_append_left nP]; exact p3
 have ag4:(l1++[bg.cells 1 [ae.int .u8 111],bg.cells 1 [ae.int .u8 (u o.act.kind)]])[l1.length]? = some (.cells 1 [.int .u8 111]) :=by simp
 have zc:(l1++[bg.cells 1 [ae.int .u8 111],bg.cells 1 [ae.int .u8 (u o.act.kind)]])[l1.length+1]? = some (.cells 1 [.int .u8 (u o.act.kind)]) :=by simp
 have rh:(l1++[bg.cells 1 [ae.int .u8 111],bg.cells 1 [ae.int .u8 (u o.act.kind)]]).length=l1.length+2:=by simp
 refine vK _ fun w2 cg af=>?_
 rw[IY] at af;have Ck:=af.le;rw[rh] at Ck;have p4:cg[l.length]? = some (.cells 11 (bl (gi o))) :=by rw[af.same _ (by rw[rh]; omega)]; exact ag8
 have St:cg[l1.length]? = some (.cells 1 [.int .u8 111]) :=by rw[af.same _ (by rw[rh]; omega)]; exact ag4
 have Su:cg[l1.length+1]? = some (.cells 1 [.int .u8 (u o.act.kind)]) :=by rw[af.same _ (by rw[rh]; omega)]; exact zc
 have oT:=p4;simp[bl,gi] at oT;simp[oT,St,Su];refine vK _ fun ef eS ap=>?_
 have TK:=ap.le;have cH:eS[l.length]? = some (.cells 11 (bl (gi o))) :=by rw[ap.same _ (by omega)]; exact p4
 have Sv:eS[l1.length]? = some (.cells 1 [.int .u8 111]) :=by rw[ap.same _ (by omega)]; exact St
 have Sw:eS[l1.length+1]? = some (.cells 1 [.int .u8 (u o.act.kind)]) :=by rw[ap.same _ (by omega)]; exact Su
 have s8:=cH;simp[bl,gi] at s8;simp[s8,Sv,Sw,h1.cells,af.cells,ap.cells,bS];obtain⟨L,f5⟩:∃ L,L=eS++[bg.cells 5 [.ao 1 l1.length 0 1 1 1,w2,b4,ef,.ao 1 (l1.length+1) 0 1 1 1]] :=⟨_,rfl⟩
 have uE:eS.length<=L.length:=by rw[f5]; simp
 have nH:∀ b,b<eS.length->L[b]? = eS[b]?:=fun b ai=>by rw[f5,List.getElem?_append_left ai]
 have HG:L[eS.length]? = some (.cells 5 [.ao 1 l1.length 0 1 1 1,w2,b4,ef,.ao 1 (l1.length+1) 0 1 1 1]) :=by rw[f5]; simp
 rw[<-f5];have D4:ld L (.ao 1 l1.length 0 1 1 1) [111#8] :=WR (by rw[nH _ (by omega)]; exact Sv);have abM:ld L (.ao 1 (l1.length+1) 0 1 1 1) [o.act.kind] :=WR (by rw[nH _ (by omega)]; exact Sw);have D5:ld L w2 (dT o.fP.toNat) :=((xr af).frame TK ap.same).frame uE nH;have D6:ld L b4 (o7 o.bx.l) :=((((xr h1).frame (l1:=l1++[bg.cells 1 [ae.int .u8 111],bg.cells 1 [ae.int .u8 (u o.act.kind)]]) (by rw[rh]; omega) (fun b ai=>List.getElem?_append_left ai)).frame (by rw[rh]; exact Ck) af.same).frame TK ap.same).frame uE nH;have abL:ld L ef (dT o.gT.toNat) :=(xr ap).frame uE nH;have T6:L[l.length]? = some (.cells 11 (bl (gi o))) :=by rw[nH _ (by omega)]; exact cH
 obtain⟨M,lr⟩:∃ M,M=hI [[111#8],dT o.fP.toNat,o7 o.bx.l,dT o.gT.toNat,[o.act.kind]] :=⟨_,rfl⟩
 have HI:M=[111#8]++dT o.fP.toNat++o7 o.bx.l++dT o.gT.toNat++[o.act.kind] :=by rw[lr]; simp[hI]
 have ae0:M.length<=40000:=by rw[HI]; simp only[List.length_append,List.length_cons,List.length_nil]; omega
 have HH:M.length≠0:=by rw[HI]; simp
 refine Ro (bs:=[[111#8],dT o.fP.toNat,o7 o.bx.l,dT o.gT.toNat,[o.act.kind]]) HG rfl rfl ?_ (by rw[<-lr]; omega) (by omega) fun pp n4 aH=>?_
 ·intro k w s bt ar;rcases k with _ | _ | _ | _ | _ | k
  ·obtain rfl:=Option.some.inj bt; obtain rfl:=Option.some.inj ar; exact D4
  ·obtain rfl:=Option.some.inj bt; obtain rfl:=Option.some.inj ar; exact D5
  ·obtain rfl:=Option.some.inj bt; obtain rfl:=Option.some.inj ar; exact D6
  ·obtain rfl:=Option.some.inj bt; obtain rfl:=Option.some.inj ar; exact abL
  ·obtain rfl:=Option.some.inj bt; obtain rfl:=Option.some.inj ar; exact abM
  ·cases bt
 rw[<-lr,decide_eq_false HH] at aH;have aeZ:l.length<=L.length:=by omega
 have wB:cq 1 b9 l n4 pp M false:=aH.base aeZ fun b ai=>by
  have fi:b<l1.length:=by omega
  rw[nH b (by omega),ap.same b (by omega),af.same b (by rw[rh]; omega),List.getElem?_append_left fi,h1.same b (by simp; omega),List.getElem?_append_left ai]
 have Cp:n4[l.length]? = some (.cells 11 (bl (gi o))) :=by rw[aH.same _ (by omega)]; exact T6
 have agw:l.length<n4.length:=fg Cp;have wZ:=Cp;simp[bl,gi] at wZ;have d9:i8 o=M++(if o.act.kind=1#8 then [] else hU (eW o.act.key))++(if o.act.kind=4#8 then hV o.act.val else []) :=by rw[HI]; rfl
 have jS:=xO (eW o.act.key);rw[od] at jS;have Ik:=ay.key;have jz:=Aq o.act.val;have ahz:=ay.val.2.2;have ak:sJ (.str o.act.key)=some (.b6 1 ((eW o.act.key).map b9)) :=by
  show some (ae.b6 1 (o.act.key.map fun b=>[hZ b]))=_;rw[DJ]
 by_cases cz:o.act.kind=1#8
 ·have a1:(u o.act.kind:Int)=1:=(hi o.act.kind).2 cz;have hF:¬ o.act.kind=4#8:=by rw[cz]; decide
  rw[if_pos cz,if_neg hF,List.append_nil,List.append_nil] at d9;simp[wZ,a1];exact a7 _ _ (by rw[d9]; exact wB)
 ·have a1:¬ (u o.act.kind:Int)=1:=fun h=>cz ((hi o.act.kind).1 h)
  rw[if_neg cz] at d9;simp[wZ,a1,ak];refine aa7 (some (eW o.act.key)) (by simpa [od] using Ik) (by simp[df]) (by simp) (fun l' _ _=>by simp[df]) fun DT jV gN=>?_
  obtain⟨anb,JC,a9,sp,_⟩:=(wB.frame gN.le gN.same).app (by_:=1) (x:=DT) (xs:=hU (eW o.act.key)) gN.contents (by simp[b9]) (by omega) (by omega) (by rw[aC]; omega);have ace:=(aH.frame gN.le gN.same).app (by_:=1) (x:=DT) (xs:=hU (eW o.act.key)) gN.contents (by simp[b9]) (by omega) (by omega) (by rw[aC]; omega);obtain⟨aun,asg,NJ,acR,_⟩:=ace;rw[a9] at NJ;obtain⟨rfl,rfl⟩:=Prod.mk.inj (Option.some.inj NJ);have IB:JC[l.length]? = some (.cells 11 (bl (gi o))) :=by rw[acR.same _ (by omega)]; exact T6
  have u3:=IB;simp[bl,gi] at u3;simp[a9];refine du.cM ?_;simp only[Bool.false_and] at sp;by_cases hF:o.act.kind=4#8
  ·have ke:(u o.act.kind:Int)=4:=(tT o.act.kind).2 hF;rw[if_pos hF] at d9;have sV:jg o.act=true:=by
    cases h:jg o.act with
    | true=>rfl
    | false=>
     unfold fX at aE;have b7:(gi o).bx=o.bx:=rfl;have dO:(gi o).act=o.act:=rfl;rw[b7,if_neg (by omega),Cw,if_pos rfl] at aE;unfold rc at aE;rw[dO,h] at aE;simp at aE
   rw[x2 hF,Bool.and_eq_true] at sV;simp[u3,ke];refine anl o.act.val ay.val sV.2 fun Nu aiz lq=>?_
   obtain⟨ana,aiA,Ee,Ep,_⟩:=(sp.frame lq.le lq.same).app (by_:=1) (x:=Nu) (xs:=hV o.act.val) lq.contents (by simp[b9]) (by omega) (by omega) (by rw[aC]; simp only[List.length_append]; omega);simp[Ee];refine du.cM ?_;simp;exact a7 _ _ (by rw[d9]; exact Ep)
  ·have ke:¬ (u o.act.kind:Int)=4:=fun h=>hF ((tT o.act.kind).1 h)
   rw[if_neg hF,List.append_nil] at d9;simp[u3,ke];exact a7 _ _ (by rw[d9]; exact sp)
theorem Oh {o:bH} (h:fX o=0) :fX (gi o)=0:=by
 unfold fX at h ⊢;have a1:(gi o).bx=o.bx:=rfl;rw[a1];have az:rc o=true->rc (gi o)=true:=by
  unfold rc gi;simp only[Bool.and_eq_true];rintro⟨a,b,c,d,e⟩;exact⟨a,b,c,by decide,by decide⟩
 split at h
 ·cases h
 ·rename_i h1;rw[if_neg h1];split at h
  ·rename_i af;rw[if_pos af];split at h
   ·rename_i ap;rw[if_pos (az ap)]
   ·cases h
  ·cases h
theorem RK {o:bH} (h:fX o=0) :jg o.act=true:=by
 unfold fX at h;split at h
 ·cases h
 ·split at h
  ·split at h
   ·rename_i ap;unfold rc at ap;simp only[Bool.and_eq_true] at ap;exact ap.2.2.1
   ·cases h
  ·cases h
theorem Jw {s:List UInt8} (h:g9 s=true) :s.length<=20:=by
 unfold g9 at h;simp only[Bool.and_eq_true,decide_eq_true_eq] at h;omega
theorem RL {o:bH} (ay:iv o) (h:fX o=0) :(hh o).length<=1000:=by
 have h1:=ha o.fP.toNat
 have af:=ha o.gT.toNat
 have ap:=zD ay.ids;have aH:=xO (eW o.act.key);rw[od] at aH;have bM:=Aq o.act.val;have aF:=xx h;have aw:=ha o.e.toNat
 have ar:=ha o.s.toNat
 have aG:=RK h;have aV:(if o.act.kind=1#8 then [] else hU (eW o.act.key)).length<=100:=by
  split
  ·simp
  ·rename_i cz;have:o.act.key.length<=20:=by
    by_cases de:o.act.kind=2#8
    ·rw[AF de,Bool.and_eq_true] at aG; exact Jw aG.1
    ·by_cases lk:o.act.kind=3#8
     ·rw[Eh lk,Bool.and_eq_true] at aG; exact Jw aG.1
     ·by_cases hF:o.act.kind=4#8
      ·rw[x2 hF,Bool.and_eq_true] at aG; exact Jw aG.1
      ·rw[Ei cz de lk hF] at aG; cases aG
   omega
 have aY:(if o.act.kind=4#8 then hV o.act.val else []).length<=100:=by
  split
  ·rename_i hF;rw[x2 hF,Bool.and_eq_true] at aG;have ax:=aG.2;have:o.act.val.text.length<=30:=by
    by_cases cd:o.act.val.kind=1#8
    ·rw[Nq cd] at ax;simp only[Bool.and_eq_true,decide_eq_true_eq] at ax;rw[ax.2]; simp
    ·by_cases ce:o.act.val.kind=2#8
     ·rw[Nr ce] at ax;simp only[Bool.and_eq_true,decide_eq_true_eq] at ax;rw[ax.2.2]; simp
     ·by_cases dH:o.act.val.kind=3#8
      ·by_cases aq:o.act.val.text.length<=30
       ·exact aq
       ·rw[aa3 dH] at ax;unfold qE at ax;rw[if_neg aq] at ax;simp only[Bool.and_eq_true,decide_eq_true_eq,t6] at ax;have:=ax.1;rw[dH] at this;exact absurd this (by decide)
      ·rw[Ns cd ce dH] at ax; cases ax
   omega
  ·simp
 unfold hh i8 opHead;simp only[List.length_append,List.length_cons,List.length_nil];omega
theorem anf (o:bH) (ay:iv o) (aE:fX o=0) {l:au} {K:ae->au->Prop} (a7:∀ w l',cq 1 b9 l l' w (hh o) false->K (.bU [w,.int .i64 0]) l') :
  dB Tryz.prog GS 72 [.aS (bl o)] l (c:=⟨K⟩) :=by
 apply bI Gx Mf;unfold A1 Dq;have ea:=DU o ay;rw[aE] at ea;have er:=kb o;have iX:=RL ay aE;have jx:(BitVec.setWidth 64 o.e).toNat=o.e.toNat:=by rw[BitVec.toNat_setWidth]; exact Nat.mod_eq_of_lt (by have:=o.e.isLt; omega)
 have mc:(BitVec.setWidth 64 o.s).toNat=o.s.toNat:=by rw[BitVec.toNat_setWidth]; exact Nat.mod_eq_of_lt (by have:=o.s.isLt; omega)
 have aN:l.length<(l++[bg.cells 11 (bl o)]).length:=by simp
 have fx:(l++[bg.cells 11 (bl o)])[l.length]? = some (.cells 11 (bl o)) :=by simp
 simp[bl];refine bv ea (show bP [ae.aS (bl o)]=true by simp[bP,ae.closed,er]) ?_;simp;refine aa9 o ay (Oh aE) fun b4 l1 h1=>?_
 have p3:l1[l.length]? = some (.cells 11 (bl o)) :=by rw[h1.same _ aN]; exact fx
 have nP:l.length<l1.length:=fg p3;have u1:=p3;simp[bl] at u1;simp[u1];refine vK _ fun w2 cg af=>?_
 rw[jx] at af;have p4:cg[l.length]? = some (.cells 11 (bl o)) :=by rw[af.same _ nP]; exact p3
 have oT:=p4;simp[bl] at oT;simp[oT];refine vK _ fun ef eS ap=>?_
 rw[mc] at ap;simp[h1.cells,af.cells,ap.cells,bS];obtain⟨L,f5⟩:∃ L,L=eS++[bg.cells 3 [b4,w2,ef]] :=⟨_,rfl⟩
 have uE:eS.length<=L.length:=by rw[f5]; simp
 have nH:∀ b,b<eS.length->L[b]? = eS[b]?:=fun b ai=>by rw[f5,List.getElem?_append_left ai]
 have HG:L[eS.length]? = some (.cells 3 [b4,w2,ef]) :=by rw[f5]; simp
 rw[<-f5];have D4:ld L b4 (i8 o) :=(((xr h1).frame af.le af.same).frame ap.le ap.same).frame uE nH;have D5:ld L w2 (dT o.e.toNat) :=((xr af).frame ap.le ap.same).frame uE nH;have D6:ld L ef (dT o.s.toNat) :=(xr ap).frame uE nH;have lr:hI [i8 o,dT o.e.toNat,dT o.s.toNat]=hh o:=by simp[hI,hh]
 have HH:(hh o).length≠0:=by unfold hh i8 opHead; simp
 refine Ro (bs:=[i8 o,dT o.e.toNat,dT o.s.toNat]) HG rfl rfl ?_ (by rw[lr]; omega) (by omega) fun pp n4 aH=>?_
 ·intro k w s bt ar;rcases k with _ | _ | _ | k
  ·obtain rfl:=Option.some.inj bt; obtain rfl:=Option.some.inj ar; exact D4
  ·obtain rfl:=Option.some.inj bt; obtain rfl:=Option.some.inj ar; exact D5
  ·obtain rfl:=Option.some.inj bt; obtain rfl:=Option.some.inj ar; exact D6
  ·cases bt
 rw[lr,decide_eq_false HH] at aH;simp;refine a7 _ _ (aH.base ?_ fun b ai=>?_)
 ·have:=af.le; have:=ap.le; omega
 ·have:=af.le; have:=ap.le;rw[nH b (by omega),ap.same b (by omega),af.same b (by omega),h1.same b (by simp; omega),List.getElem?_append_left ai]
theorem ane (o:bH) (ay:iv o) (aE:¬ fX o=0) :bT Tryz.prog GS 72 [.aS (bl o)] (.bU [.a6,.int .i64 (fX o)]) :=by
 refine ca Tryz.checked.mixed b3 ?_;apply bI Gx Mf;unfold A1 Dq;have ea:=DU o ay;have er:=kb o;obtain⟨E,fw⟩:∃ E,E=bl o:=⟨_,rfl⟩
 have BH:E.length=11:=by rw[fw]; rfl
 rw[<-fw] at ea er ⊢;simp[BH,List.take_of_length_le];refine bv ea (by simp[bP,ae.closed,er]) ?_;simp[aE];exact aZ rfl rfl
theorem ang (o:bH) (ay:iv o) :bT Tryz.prog GS 38 [.aS (bl o)] (.bU [fj (kt o),.int .i64 (fX o)]) :=by
 refine ca Tryz.checked.mixed b3 ?_;apply bI Qe YL;unfold Ga LS kt;have er:=kb o;have aB:(rep 32 (.int .u8 0) :List ae)=(List.replicate 32 0#8).map bG:=by simp[rep]
 obtain⟨E,fw⟩:∃ E,E=bl o:=⟨_,rfl⟩
 have BH:E.length=11:=by rw[fw]; rfl
 by_cases aQ:fX o=0
 ·have iX:=RL ay aQ;have e7:(hA (hh o)).length=32:=tO _;rw[<-fw];simp[BH,List.take_of_length_le];rw[fw];refine anf o ay aQ fun b4 l1 h1=>?_
  rw[<-fw] at h1;have fx:l1[1]? = some (.cells 32 (rep 32 (.int .u8 0))) :=by rw[h1.same 1 (by simp)]; rfl
  simp;refine ja (amh (some (hh o)) (by simp; omega)) (.cons (h1.qw (fun _=>rfl) (some (hh o)) rfl rfl) .nil) (by simp[ae.flat,kf,fj,wu bG (fun _=>rfl)]) ?_;have u9:bS (rep 32 (.int .u8 0)) 0 ((hA (hh o)).map bG)=(hA (hh o)).map bG:=hb (by rw[List.length_map,e7]; rfl);have lA:(l1.set 1 (bg.cells 32 ((hA (hh o)).map bG)))[1]? = some (.cells 32 ((hA (hh o)).map bG)) :=List.getElem?_set_self (fg fx);simp[fx,fj,e7,u9,lA,List.take_of_length_le];exact aZ (by rw[if_pos aQ,aQ]) (by simp[ae.closed,bP,kG bG (fun _=>rfl)])
 ·have Tb:=ane o ay aQ;rw[<-fw] at Tb er ⊢;simp[BH,List.take_of_length_le];refine bv Tb (by simp[bP,ae.closed,er]) ?_;simp[aQ,fj,aB];exact aZ rfl (by simp only[ae.closed,bP,kG bG (fun _=>rfl),Bool.and_self])
end Op
end Go.cl

namespace Go.cl
open Go Go.Proofs Go.RowKit
set_option maxRecDepth 100000
namespace Op
open gX
theorem aaS {P:Program} {t:TypeId} {ts:List TypeId} {cs:List ae} (aL:P.underlying t=some .string) (h:dy P (t::ts) cs) :∃ s cs',cs=.str s::cs'/\dy P ts cs':=by
 cases h
 case str s cs' ar n1 h=>exact⟨_,_,rfl,h⟩
 all_goals (exfalso; simp_all; done)
theorem aaU {ts:List TypeId} {cs:List ae} (h:dy Tryz.prog (5::ts) cs) :∃ (x:B) (cs' : List ae),cs=bG x::cs'/\dy Tryz.prog ts cs':=by
 obtain⟨k,wk,rfl,h1,af,ap⟩:=Ak (k:=.u8) (by kernel_rfl) h;have bc:(0:Int)<=k:=h1;have bM:k<=255:=af;refine⟨BitVec.ofNat 8 k.toNat,wk,?_,ap⟩;have:((BitVec.ofNat 8 k.toNat).toNat:Int)=k:=by
  rw[BitVec.toNat_ofNat,Nat.mod_eq_of_lt (by omega)]; omega
 simp[bG,u]; omega
theorem amM {ts:List TypeId} {cs:List ae} (h:dy Tryz.prog (71::ts) cs) :∃ (x:List B) (cs' : List ae),cs=x.map bG++cs'/\x.length=32/\dy Tryz.prog ts cs':=by
 have h1:=amL (e:=5) (n:=32) (by kernel_rfl) h;exact aaP (by kernel_rfl) 32 h1
theorem aaQ {ts:List TypeId} {cs:List ae} (h:dy Tryz.prog (26::ts) cs) :∃ (s:fp) (cs' : List ae),cs=a8 s::cs'/\hS s/\dy Tryz.prog ts cs':=by
 obtain⟨s,cs',rfl,_,h1,af⟩:=aaR (e:=71) (z:=32) (enc:=a2) (Q:=fun x=>x.length=32) (by kernel_rfl) (by kernel_rfl) (fun r aC=>by
  obtain⟨x,cs',rfl,aj,ap⟩:=amM aC;rw[Nk ap,List.append_nil];exact⟨x,rfl,aj⟩) h
 exact⟨s,cs',rfl,h1,af⟩
theorem Nl {ts:List TypeId} {cs:List ae} (h:dy Tryz.prog (25::ts) cs) :∃ (x:D) (cs' : List ae),cs=bu x::cs'/\dy Tryz.prog ts cs':=by
 obtain⟨k,wk,rfl,h1,af,ap⟩:=Ak (k:=.u32) (by kernel_rfl) h;have bc:(0:Int)<=k:=h1;have bM:k<=4294967295:=af;refine⟨BitVec.ofNat 32 k.toNat,wk,?_,ap⟩;have:((BitVec.ofNat 32 k.toNat).toNat:Int)=k:=by
  rw[BitVec.toNat_ofNat,Nat.mod_eq_of_lt (by omega)]; omega
 simp[bu,u]; omega
structure Ec (o:bH) :Prop where
 ids:hS o.bx
 lD:-9223372036854775808<=o.act.val.num
 ql:o.act.val.num<9223372036854775808
theorem amP {ts:List TypeId} {cs:List ae} (h:dy Tryz.prog (29::ts) cs) :∃ (v:hk) (cs' : List ae),cs=[bG v.kind,.int .i64 v.num,dz v.bits,.str v.text]++cs'/\(-9223372036854775808<=v.num/\v.num<9223372036854775808)/\dy Tryz.prog ts cs':=by
 have h1:=Al (fs:=[5,2,27,9]) (by kernel_rfl) h;obtain⟨k,_,rfl,af⟩:=aaU h1;obtain⟨n,_,rfl,ry,p1,ap⟩:=Ak (k:=.i64) (by kernel_rfl) af;obtain⟨b,_,rfl,aH⟩:=aaT ap;obtain⟨s,_,rfl,bc⟩:=aaS (by kernel_rfl) aH;have bM:n<=9223372036854775807:=p1;exact⟨⟨k,n,b,s⟩,_,rfl,⟨ry,by show n<9223372036854775808; omega⟩,bc⟩
theorem amK {ts:List TypeId} {cs:List ae} (h:dy Tryz.prog (31::ts) cs) :∃ (a:Act) (cs' : List ae),cs=[bG a.kind,.str a.key,bG a.val.kind,.int .i64 a.val.num,dz a.val.bits,.str a.val.text]++cs'/\(-9223372036854775808<=a.val.num/\a.val.num<9223372036854775808)/\dy Tryz.prog ts cs':=by
 have h1:=Al (fs:=[5,9,29]) (by kernel_rfl) h;obtain⟨k,_,rfl,af⟩:=aaU h1;obtain⟨s,_,rfl,ap⟩:=aaS (by kernel_rfl) af;obtain⟨v,_,rfl,ax,aH⟩:=amP ap;exact⟨⟨k,s,v⟩,_,rfl,ax,aH⟩
theorem amN {ts:List TypeId} {cs:List ae} (h:dy Tryz.prog (35::ts) cs) :∃ (o:bH) (cs' : List ae),cs=bl o++cs'/\Ec o/\dy Tryz.prog ts cs':=by
 have h1:=Al (fs:=[25,26,27,31,33]) (by kernel_rfl) h;obtain⟨a,_,rfl,af⟩:=Nl h1;obtain⟨p,_,rfl,aF,ap⟩:=aaQ af;obtain⟨n,_,rfl,aH⟩:=aaT ap;obtain⟨c,_,rfl,ak,bc⟩:=amK aH;have bM:=Al (fs:=[25,25]) (by kernel_rfl) bc;obtain⟨x,_,rfl,eE⟩:=Nl bM;obtain⟨y,cs',rfl,gN⟩:=Nl eE;exact⟨⟨a,p,n,c,x,y⟩,cs',by simp[bl],⟨aF,ak.1,ak.2⟩,gN⟩
end Op
end Go.cl

namespace Go.cl
open Go Go.Proofs
set_option maxRecDepth 100000
open gX Op
def Dh (a n:Nat) :Nat->Nat
 | 0=>1
 | k+1=>match Nat.beq (n / 2 ^ (63 - k) % 2) 1 with
  | true=>((Dh a n k) ^ 2 % 1000000007)*a % 1000000007
  | false=>(Dh a n k) ^ 2 % 1000000007
theorem WW (a n:Nat) (aI:n<2 ^ 64) :∀ k,k<=64->Dh a n k=eY a (n / 2 ^ (64 - k))
 | 0,_=>by
  have:n / 2 ^ (64 - 0)=0:=Nat.div_eq_of_lt aI;rw[this]; rfl
 | k+1,aE=>by
  have aK:=WW a n aI k (by omega);have ai:=SN n k (by omega);have e:64 - (k+1)=63 - k:=by omega
  rw[e];unfold Dh;rw[aK,Nat.pow_two,W1];split
  ·rename_i h;have h1:=Nat.eq_of_beq_eq_true h;rw[WZ,ai,h1]
  ·rename_i h;have h1:n / 2 ^ (63 - k) % 2≠1:=fun aR=>by rw[aR] at h; cases h
   rw[ai];congr 1; omega
end Go.cl

namespace Go.cl
open Go Go.Proofs
set_option maxRecDepth 100000
namespace Op
open gX
section
variable {α:Type} {z:Nat} {enc:α->List ae}
theorem WJ {bm:List α} (aB:∀ y∈bm,(enc y).length=z) (k:Nat) (aE:k<=bm.length) {n:Nat} (aI:bm.length=n) {cs:List ae} (cL:cs.take (n*z)=(bm.map enc).flatten) (aq:n*z<=cs.length) :
  cs.take (k*z)=((bm.take k).map enc).flatten/\(cs.drop (k*z)).take (n*z - k*z)=((bm.drop k).map enc).flatten:=by
 have fG:k*z<=n*z:=Nat.mul_le_mul_right _ (by omega);have b7:bm.map enc=(bm.take k).map enc++(bm.drop k).map enc:=by rw[<-List.map_append,List.take_append_drop]
 have dO:((bm.take k).map enc).flatten.length=k*z:=by
  rw[l3 (z:=z) (fun e aw=>by obtain⟨y,aO,rfl⟩:=List.mem_map.1 aw; exact aB _ (List.mem_of_mem_take aO))];rw[List.length_map,List.length_take,Nat.min_eq_left (by omega)]
 have a1:cs.take (k*z)=(cs.take (n*z)).take (k*z) :=by rw[List.take_take,Nat.min_eq_left fG]
 constructor
 ·rw[a1,cL,b7,List.flatten_append,List.take_append_of_le_length (by omega),List.take_of_length_le (by omega)]
 ·rw[<-List.drop_take,cL,b7,List.flatten_append,List.drop_append_of_le_length (by omega),List.drop_of_length_le (by omega),List.nil_append]
theorem WK {l:au} {v:ae} {j k:Nat} {bm:List α} {x:α} {X:ae} (dY:X.cells=some (enc x)) (h:bX z l v j (bm.map enc)) (aB:∀ y∈bm,(enc y).length=z) (aE:k<bm.length) (aj:(enc x).length=z) :
  ∃ p l',cO (.ao z) v (.int .i64 (k:Int))=some p/\iJ z l p (X)=some l'/\bX z l' v j ((bm.set k x).map enc)/\l'.length=l.length/\∀ b,b≠j->l'[b]? = l[b]?:=by
 generalize aw:bm.map enc=es at h;cases h with
 | nil j=>rw[List.map_eq_nil_iff] at aw; subst aw; simp at aE
 | ao j n cap sz cs es ai aq aI kr ak cY cL=>
  subst aw;have rv:bm.length=n:=by simpa using aI
  have eQ:j<l.length:=fg ai;have bE:=aj;have fG:(k+1)*z<=n*z:=Nat.mul_le_mul_right _ (by omega);have jO:n*z<=cap*z:=Nat.mul_le_mul_right _ ak;have ar:(k+1)*z=k*z+z:=by rw[Nat.succ_mul]
  obtain⟨h2,_⟩:=WJ aB k (by omega) rv cL (by omega);obtain⟨_,pL⟩:=WJ aB (k+1) (by omega) rv cL (by omega);refine⟨.ptr j (k*z) sz,l.set j (.cells sz (bS cs (k*z) (enc x))),?_,?_,?_,by simp,fun b kk=>by rw[List.getElem?_set_ne (fun h=>kk h.symm)]⟩
  ·simp[cO]; omega
  ·unfold iJ;simp[ai,dY,bE];omega
  ·refine .ao j n cap sz _ _ (List.getElem?_set_self eQ) (by rw[qC (by omega),bE]; omega) (by simp; omega) (fun e aw=>?_) ak cY ?_
   ·obtain⟨y,aO,rfl⟩:=List.mem_map.1 aw;rcases List.mem_or_eq_of_mem_set aO with h | h
    ·exact aB _ h
    ·rw[h]; exact bE
   ·have lA:bm.set k x=bm.take k++(x::bm.drop (k+1)) :=by rw[List.set_eq_take_append_cons_drop,if_pos aE]
    rw[lA,List.map_append,List.map_cons,List.flatten_append,List.flatten_cons,<-h2,<-pL];unfold bS;have ng:(cs.take (k*z)).length=k*z:=by rw[List.length_take]; omega
    have j0:(cs.take (k*z)).take (n*z)=cs.take (k*z) :=List.take_of_length_le (by rw[ng]; omega);have k8:(enc x).take (n*z - k*z)=enc x:=List.take_of_length_le (by rw[bE]; omega);rw[List.append_assoc,bE,<-ar,List.take_append,ng,j0,List.take_append,k8,bE,show n*z - k*z - z=n*z - (k+1)*z by omega]
end
end Op
end Go.cl

namespace Go.cl
open Go Go.Proofs
set_option maxRecDepth 100000
namespace Op
theorem Hl {α:Type} {enc:α->List ae} {z:Nat} {a:List α} (h:∀ x∈a,(enc x).length=z) :(a.map enc).flatten.length=a.length*z:=by
 rw[l3 (z:=z) (fun e aw=>by obtain⟨y,aO,rfl⟩:=List.mem_map.1 aw; exact h y aO),List.length_map]
theorem N3 {α:Type} {enc:α->List ae} {z by_:Nat} (l:au) (s:eh α) (h:∀ x∈s.l,(enc x).length=z) (aQ:z≠0) (ai:by_≠0) (aC:s.l.length*by_<=cJ) :
  ie (l++[bg.cells 0 []]) z by_ (.ao z l.length 0 0 0 0) (cS z enc s)=some (.ao z l.length 0 s.l.length s.l.length (s.l.length*z),l++[.cells (s.l.length*z) (s.l.map enc).flatten]) :=by
 have fE:=Hl h;unfold ie;rw[wh];simp only[];unfold hE;by_cases aB:s.l.length=0
 ·have aQ:s.l=[] :=List.length_eq_zero_iff.1 aB;rw[aQ];simp
 ·rw[if_neg aB,if_neg (by omega)];have b0:¬ s.l=[] :=fun h=>aB (by rw[h]; rfl)
  simp[aC,aQ,aB,b0]
theorem J6 {α:Type} {enc:α->List ae} {z:Nat} {l:au} {b n:Nat} {a:List α} (aG:∀ x∈a,(enc x).length=z) (aI:a.length=n) (ai:l[b]? = some (.cells (n*z) (a.map enc).flatten)) :bX z l (.ao z b 0 n n (n*z)) b (a.map enc) :=by
 have fE:=Hl aG;refine .ao b n n (n*z) _ _ ai (by rw[fE,aI]) (by simp[aI]) (fun e aw=>?_) (Nat.le_refl _) (Nat.le_refl _) ?_
 ·obtain⟨y,aO,rfl⟩:=List.mem_map.1 aw; exact aG y aO
 ·rw[List.take_of_length_le (by rw[fE,aI]; omega)]
end Op
end Go.cl

namespace Go.cl
open Go Go.Proofs
set_option maxRecDepth 100000
namespace Op
open gX
theorem ab1 {l:List D} {k:Nat} {x:D} (h:l[k]? = some x) (aF:(l.take k).all fk=true) :(l.take (k+1)).all fk=fk x:=by
 rw[List.take_add_one,h,List.all_append,aF]; simp
theorem abZ {l:List D} {k:Nat} {x:D} (h:l[k]? = some x) (aj:fk x=false) :l.all fk=false:=by
 cases aR:l.all fk with
 | false=>rfl
 | true=>rw[List.all_eq_true.1 aR x (List.mem_of_getElem? h)] at aj; cases aj
structure abp (l:List D) (k:Nat) (ah:bj) (h:au) :Prop where
 br:ah 5=cS 1 d7 (some l)
 cj:ah 6=.int .i64 l.length
 dU:ah 7=.int .i64 k
 aF:(l.take k).all fk=true
theorem Sj (l:List D) (aq:l.length<=1000) :bT Tryz.prog GS 190 [cS 1 d7 (some l)] (.bool (l.all fk)) :=by
 refine ca Tryz.checked.mixed b3 ?_;apply bI PP Ym;unfold FK Ls;have bz:c9 (.ao 1) (cS 1 d7 (some l))=some (.int .i64 l.length) :=o6 _;simp[bz];refine c0 l.length (abp l) ?_ ⟨by simp,by simp,by simp,by simp⟩;rintro k ah h aE ⟨br,cj,dU,aF⟩;obtain⟨ah,rfl⟩:=jG br cj dU;clear br cj dU;unfold Vo;by_cases h:k<l.length
 ·obtain⟨x,aj,_⟩:=ck h;have cQ:cO (.ao 1) (cS 1 d7 (some l)) (.int .i64 k)=some (.cn (d7 x) 0) :=by rw[qc]; simp[aj]
  have eF:IntKind.i64.wrap ((k:Int)+1)=(k+1:Nat) :=wrap_i64 (by omega) (by omega);simp[h,cQ,d7];refine bv (Jm x) rfl ?_;cases az:fk x with
  | false=>
   have:=abZ aj az;simp;exact aZ (by rw[this]) rfl
  | true=>
   simp[eF];exact⟨by omega,by simp,by simp,by simp,by rw[ab1 aj aF]; exact az⟩
 ·have eb:k=l.length:=by omega
  subst eb;rw[List.take_length] at aF;simp;exact aZ (by rw[aF]) rfl
theorem akP {l:au} {b:Nat} {x:D} (h:l[b]? = some (.cells 1 [bu x])) :fa (bW l) (.ao 1 b 0 1 1 1) (cS 1 d7 (some [x])) :=by
 refine zX (rest:=[]) (es:=[[bu x]]) (by simpa using h) rfl (by simp) (by simp[bP,ae.closed])
def zQ (a b:D) :D:=BitVec.ofNat 32 (a.toNat*b.toNat % 1000000007)
theorem aes (a b:D) :bT Tryz.prog GS 166 [bu a,bu b] (.bU [bu (if fk a&&fk b then zQ a b else 0#32),.int .i64 (if fk a&&fk b then 0 else 2)]) :=by
 refine ca Tryz.checked.mixed b3 ?_;apply bI Pv X0;unfold Fr La;simp;refine ja (Sj [a,b] (by simp)) (.cons (zY (by simp)) .nil) rfl ?_;cases aG:fk a with
 | false=>
  simp[aG];exact aZ rfl rfl
 | true=>
  cases ai:fk b with
  | false=>
   simp[aG,ai];exact aZ rfl rfl
  | true=>
   have aN:a.toNat<1000000007:=by unfold fk at aG; simp at aG; exact aG.1.2
   simp[aG,ai];refine ja (JS [a,b] (by simp)) (.cons (.same _ rfl) (.cons (zY (by simp)) .nil)) rfl ?_;simp[JR a b aN];exact aZ rfl rfl
theorem aet (a:D) (n:Q) :bT Tryz.prog GS 165 [bu a,dz n] (.bU [bu (if fk a then fY a n.toNat else 0#32),.int .i64 (if fk a then 0 else 2)]) :=by
 refine ca Tryz.checked.mixed b3 ?_;apply bI Pu XZ;unfold Fq K9;simp;refine ja (Sj [a] (by simp)) (.cons (akP (by simp)) .nil) rfl ?_;cases aG:fk a with
 | false=>
  simp[aG];exact aZ rfl rfl
 | true=>
  simp[aG];refine bv (Kf a n) rfl ?_;simp;exact aZ rfl rfl
theorem aer (n:Q) :bT Tryz.prog GS 167 [dz n] (bu (fY 4#32 n.toNat)) :=by
 refine ca Tryz.checked.mixed b3 ?_;apply bI Pw X1;unfold Fs Lb;simp;refine bv (Kf 4#32 n) rfl ?_;simp;exact aZ rfl rfl
theorem Mz (a:D) (n:Q) :bT Tryz.prog GS 175 [bu a,dz n] (bu (fY a n.toNat)) :=by
 refine ca Tryz.checked.mixed b3 ?_;apply bI Pz X4;unfold Fw Le;have bc:(a.setWidth 64:Q).toNat=a.toNat:=by rw[BitVec.toNat_setWidth]; omega
 have bM:=vw a.toNat n.toNat
 have eE:(BitVec.ofNat 64 (eY a.toNat n.toNat)).setWidth 32=fY a n.toNat:=by
  apply BitVec.eq_of_toNat_eq;rw[qs,BitVec.toNat_setWidth,BitVec.toNat_ofNat];omega
 have aF:=W2 (a.setWidth 64) n (by rw[bc]; exact a.isLt);rw[bc] at aF;simp;refine bv aF rfl ?_;simp[eE];exact aZ rfl rfl
theorem akk (n:Q) :bT Tryz.prog GS 143 [dz n] (bu (fY 4#32 n.toNat)) :=by
 refine ca Tryz.checked.mixed b3 ?_;apply bI Pc XI;unfold E6 KR;simp;refine bv (Mz 4#32 n) rfl ?_;simp;exact aZ rfl rfl
theorem akq (a:D) :bT Tryz.prog GS 174 [bu a] (.bU [bu (if fk a then fY a 500000002 else 0#32),.int .i64 (if fk a then 0 else 2)]) :=by
 refine ca Tryz.checked.mixed b3 ?_;apply bI Py X3;unfold Fv Ld;simp;refine bv (ZJ a) rfl ?_;cases aG:fk a with
 | false=>
  simp;exact aZ rfl rfl
 | true=>
  simp;refine bv (Mz a 500000002#64) rfl ?_;simp;exact aZ rfl rfl
theorem akz (a b:D) :bT Tryz.prog GS 176 [bu a,bu b] (bu (zQ a b)) :=by
 refine ca Tryz.checked.mixed b3 ?_;apply bI PA X5;unfold Fx Lf;have bc:∀ a:D,(a.setWidth 64:Q).toNat=a.toNat:=fun a=>by rw[BitVec.toNat_setWidth]; omega
 have eE:((a.setWidth 64:Q)*b.setWidth 64 % 1000000007#64).setWidth 32=zQ a b:=by
  apply BitVec.eq_of_toNat_eq;rw[BitVec.toNat_setWidth,xn _ _ (by rw[bc]; exact a.isLt) (by rw[bc]; exact b.isLt),bc,bc];unfold zQ;rw[BitVec.toNat_ofNat]
 simp[Du,eE];exact aZ rfl rfl
def sr (l:List B) :Q:=l.foldl (fun n x=>(n <<< 8) ||| x.setWidth 64) 0#64
theorem Oq (l:List B) (k:Nat) (x:B) (h:l[k]? = some x) :sr (l.take (k+1))=(sr (l.take k) <<< 8) ||| x.setWidth 64:=by
 rw[List.take_add_one,h]; simp[sr,List.foldl_append]
theorem alG (a:Q) (x:B) :(a <<< 8) ||| x.setWidth 64=256#64*a+x.setWidth 64:=by
 apply BitVec.eq_of_toNat_eq;have aj:x.toNat<256:=x.isLt;have aG:=a.isLt;rw[BitVec.toNat_or,BitVec.toNat_shiftLeft,BitVec.toNat_add,BitVec.toNat_mul,BitVec.toNat_setWidth];have h1:x.toNat % 2 ^ 64=x.toNat:=Nat.mod_eq_of_lt (by omega);have af:a.toNat <<< 8 % 2 ^ 64=(a.toNat % 2 ^ 56) <<< 8:=by rw[Nat.shiftLeft_eq,Nat.shiftLeft_eq]; omega
 have ap:=Nat.shiftLeft_add_eq_or_of_lt (b:=x.toNat) (i:=8) (by omega) (a.toNat % 2 ^ 56);rw[h1,af,<-ap,Nat.shiftLeft_eq];have aH:(256#64).toNat=256:=rfl;rw[aH];omega
def h3 (n:D) :List B:=[(n >>> 24).setWidth 8,(n >>> 16).setWidth 8,(n >>> 8).setWidth 8,n.setWidth 8]
def kg (l:List D) :List B:=l.flatMap h3
theorem aeo {l:List D} {k:Nat} {x:D} (h:l[k]? = some x) :kg (l.take (k+1))=kg (l.take k)++h3 x:=by
 unfold kg; rw[List.take_add_one,h,List.flatMap_append]; simp
theorem R4 (l:List D) :(kg l).length=4*l.length:=by
 induction l with
 | nil=>rfl
 | cons x l aK=>unfold kg at aK ⊢; rw[List.flatMap_cons,List.length_append,aK,List.length_cons]; simp[h3]; omega
def yJ (b:List B) :Q:=sr ((hA b).take 8)
theorem akQ {l:au} {b:Nat} {v m bf cp:ae} (h:l[b]? = some (.cells 2 [v,m])) (h1:fa (bW l) v bf) (af:fa (bW l) m cp) :fa (bW l) (.ao 1 b 0 2 2 2) (.b6 1 [[bf],[cp]]) :=by
 refine .ao 1 b 0 2 2 2 [v,m] [[bf],[cp]] (mC.2 h) rfl (by simp) (by simp) (fun i j e c c' aw am ak=>?_);rcases i with _ | _ | i
 ·simp at aw; subst aw;rcases j with _ | j
  ·simp at am ak; subst am ak; exact h1
  ·simp at am
 ·simp at aw; subst aw;rcases j with _ | j
  ·simp at am ak; subst am ak; exact af
  ·simp at am
 ·simp at aw
theorem alR {b:Nat}:fN (.arr 32 1) (.ptr b 0 32) none (some (.int .i64 8)) none=some (.ao 1 b 0 8 32 32) :=by
 have:f1 32 32 none (some (.int .i64 8)) none=some (0,8,32) :=rfl;simp only[fN,this]; rfl
structure aby (h9:B) (m:ew) (eR:List D) (k:Nat) (ah:bj) (l:au) :Prop where
 aV:ah 1=cE m
 q8:ah 21=cS 1 d7 (some eR)
 Ho:ah 22=.int .i64 eR.length
 wy:ah 23=.int .i64 k
 ex:∃ v,ah 8=v/\cq 1 b9 [] l v (h9::kg (eR.take k)) false
structure abq (d:List B) (e:Int) (k:Nat) (ah:bj) (l:au) :Prop where
 jm:ah 12=.int .i64 e
 lp:ah 13=dz (sr (d.take k))
 Hp:∃ b n,ah 49=.ao 1 b 0 8 n n/\l[b]? = some (.cells n (d.map bG))/\n=32
 Hq:ah 50=.int .i64 8
 Hr:ah 51=.int .i64 k
set_option maxHeartbeats 1000000 in
theorem afj (h9:B) (m:ew) (hm:m.l.length<=9991) (eR:List D) (aq:eR.length<=10) :bT Tryz.prog GS 192 [bG h9,cE m,cS 1 d7 (some eR)] (.bU [dz (yJ (h9::(kg eR++m.l))),.int .i64 0]) :=by
 refine ca Tryz.checked.mixed b3 ?_;apply bI PR Yo;unfold FM Lu;have aC:cJ=140737488355328:=rfl;have bz:c9 (.ao 1) (cE m)=some (.int .i64 m.l.length) :=o6 _;have agt:c9 (.ao 1) (cS 1 d7 (some eR))=some (.int .i64 eR.length) :=o6 _;have fb:¬ (9991:Int)<(m.l.length:Int) :=by omega
 have HB:¬ 9991<m.l.length:=by omega
 have ih:=kH m;simp[bz,agt,fb,HB];refine c0 eR.length (aby h9 m eR) ?_ ⟨by simp,by simp,by simp,by simp,_,rfl,⟨0,ph (n:=1) (a:=[h9]) rfl rfl,by simp,by simp,.inr (by simp),rfl⟩⟩;rintro k ah l aE ⟨aV,q8,Ho,wy,v,ff,eu⟩;obtain⟨ah,rfl⟩:=kC aV ff q8 Ho wy;clear aV ff q8 Ho wy;unfold Vq;by_cases h:k<eR.length
 ·obtain⟨x,aj,_⟩:=ck h;have cQ:cO (.ao 1) (cS 1 d7 (some eR)) (.int .i64 k)=some (.cn (d7 x) 0) :=by rw[qc]; simp[aj]
  have eF:IntKind.i64.wrap ((k:Int)+1)=(k+1:Nat) :=wrap_i64 (by omega) (by omega);have ar:=aeo aj;have fE:=R4 (eR.take k);rw[List.length_take] at fE;obtain⟨bf,l',bn,bA,a3⟩:=(eu.more [bg.cells 4 ((h3 x).map bG)]).app (by_:=1) (x:=.ao 1 l.length 0 4 4 4) (xs:=h3 x) (by rw[wq]; simp[df,h3]) (fun y _=>rfl) (by omega) (by omega) (by rw[aC]; simp[h3]; omega);rw[show (h3 x).map bG=[.int .u8 (u (BitVec.setWidth 8 (x >>> 24))),.int .u8 (u (BitVec.setWidth 8 (x >>> 16))),.int .u8 (u (BitVec.setWidth 8 (x >>> 8))),.int .u8 (u (BitVec.setWidth 8 x))] from rfl] at bn;simp[h,cQ,d7,eF,bn];refine du.cM ?_;simp[eF];exact⟨by omega,by simp,by simp,by simp,by simp,bf,by simp,by rw[ar,<-List.cons_append]; exact bA⟩
 ·have eb:k=eR.length:=by omega
  subst eb;rw[List.take_length] at eu;have fE:=R4 eR;have aF:=WS [some (h9::kg eR),m] (by simp) (fun s ar=>by
   rcases List.mem_cons.1 ar with h | h
   ·rw[h]; show (h9::kg eR).length<=_; simp; omega
   ·rw[List.mem_singleton.1 h]; omega)
  have dE:bytesOf [some (h9::kg eR),m]=h9::(kg eR++m.l) :=by simp[bytesOf]
  rw[dE] at aF;have vc:=eu.cells;have wT:(cE m).cells=some [cE m] :=by cases m<;>rfl
  obtain⟨hH,uN⟩:∃ hH,hH=hA (h9::(kg eR++m.l)) :=⟨_,rfl⟩
  have uO:hH.length=32:=by rw[uN]; exact tO _
  rw[<-uN] at aF;have H1:(hH.map bG).length=32:=by simp[uO]
  have Ia:fj hH=.aS (hH.map bG) :=rfl;rw[Ia] at aF;have IU:bS (rep 32 (.int .u8 0)) 0 (hH.map bG)=hH.map bG:=hb (by rw[H1]; rfl);have e7:∀ b,fN (.arr 32 1) (.ptr b 0 32) none (some (.int .i64 8)) none=some (.ao 1 b 0 8 32 32) :=fun b=>alR (b:=b)
  simp[vc,wT];refine ja aF (.cons (akQ (by simp) ((eu.more _).qw (fun _=>rfl) (some (h9::kg eR)) rfl rfl) (.same _ ih)) .nil) (by simp[ae.flat,kf,fj,wu bG (fun _=>rfl)]) ?_;simp[uO,IU,e7];refine c0 8 (abq hH 0) ?_ ⟨by simp,by simp[sr],⟨l.length+1,32,by simp,by simp[List.getElem?_append],rfl⟩,by simp,by simp⟩;clear eu;rintro k ah l aE ⟨jm,lp,⟨b,n,Hp,ai,rfl⟩,Hq,Hr⟩;obtain⟨ah,rfl⟩:=kC jm lp Hp Hq Hr;clear jm lp Hp Hq Hr;unfold Vr;by_cases h:k<8
  ·obtain⟨x,aj,_⟩:=ck (l:=hH) (k:=k) (by omega);have eF:IntKind.i64.wrap ((k:Int)+1)=(k+1:Nat) :=wrap_i64 (by omega) (by omega);have ar:=Oq hH k x aj;have eb:(k:Int)<8:=by omega
   have aqP:(hH.map bG)[k]? = some (bG x) :=by rw[List.getElem?_map,aj]; rfl
   simp[h,eb,ai,eF,aj];exact⟨by simp,by simp[ar],⟨b,32,by simp,by simpa using ai,rfl⟩,by simp,by simp⟩
  ·have g6:k=8:=by omega
   subst g6;simp;exact aZ (by unfold yJ; rw[uN]) rfl
def yb (r y:D) (m:List B) :D:=(yJ (99#8::(kg [r,y]++m)) % 500000003#64).setWidth 32
theorem ZN (x:Q) :ct .rem .u64 (u x) .u64 500000003=some (.int .u64 (u (x % 500000003#64))) :=v6 x 500000003#64 (by decide)
theorem anc (r y:D) (m:ew) (hm:m.l.length<=9991) :bT Tryz.prog GS 168 [bu r,bu y,cE m] (.bU [bu (yb r y m.l),.int .i64 0]) :=by
 refine ca Tryz.checked.mixed b3 ?_;apply bI Px X2;unfold Ft Lc;have ih:=kH m;simp;refine ja (afj 99#8 m hm [r,y] (by simp)) (.cons (.same _ rfl) (.cons (.same _ ih) (.cons (zY (by simp)) .nil))) rfl ?_;simp[ZN];exact aZ rfl rfl
theorem Km (a b:D) (ai:b≠0#32) :ct .quo .u32 (u a) .u32 (u b)=some (.int .u32 (u (a / b))) :=by
 have bL:(b.toNat:Int)≠0:=fun e=>ai (BitVec.eq_of_toNat_eq (by simpa using e))
 show (if IntKind.u32=IntKind.u32/\(b.toNat:Int)≠0 then some (ae.int .u32 (IntKind.u32.wrap ((a.toNat:Int).tdiv b.toNat))) else none)=_;rw[if_pos ⟨rfl,bL⟩,xR];congr 2;have:((a.toNat:Int).tdiv b.toNat)=((a.toNat / b.toNat:Nat) :Int) :=rfl;rw[this,BitVec.ofInt_natCast];congr 1;apply BitVec.eq_of_toNat_eq;rw[BitVec.toNat_ofNat,BitVec.toNat_udiv];exact Nat.mod_eq_of_lt (Nat.lt_of_le_of_lt (Nat.div_le_self _ _) a.isLt)
theorem R3 (x:D) {l:au} {K:ae->au->Prop} (a7:∀ v l',cq 1 b9 l l' v (h3 x) false->K v l') :dB Tryz.prog GS 181 [bu x] l (c:=⟨K⟩) :=by
 apply bI PG Yc;unfold FB Lj;have q1:ct .quo .u32 (u x) .u32 16777216=some (.int .u32 (u (x / 16777216#32))) :=Km x 16777216#32 (by decide);have hz:ct .quo .u32 (u x) .u32 65536=some (.int .u32 (u (x / 65536#32))) :=Km x 65536#32 (by decide);have r2:ct .quo .u32 (u x) .u32 256=some (.int .u32 (u (x / 256#32))) :=Km x 256#32 (by decide);have kz:∀ y:D,ct .rem .u32 (u y) .u32 256=some (.int .u32 (u (y % 256#32))) :=fun y=>acw y 256#32 (by decide)
 have aj:=x.isLt;have a1:BitVec.setWidth 8 (x / 16777216#32)=BitVec.setWidth 8 (x >>> 24) :=by
  apply BitVec.eq_of_toNat_eq;rw[BitVec.toNat_setWidth,BitVec.toNat_setWidth,BitVec.toNat_udiv,BitVec.toNat_ushiftRight,Nat.shiftRight_eq_div_pow];rfl
 have b7:BitVec.setWidth 8 (x / 65536#32 % 256#32)=BitVec.setWidth 8 (x >>> 16) :=by
  apply BitVec.eq_of_toNat_eq;rw[BitVec.toNat_setWidth,BitVec.toNat_setWidth,BitVec.toNat_umod,BitVec.toNat_udiv,BitVec.toNat_ushiftRight,Nat.shiftRight_eq_div_pow];show x.toNat / 65536 % 256 % 256=x.toNat / 65536 % 256;omega
 have dO:BitVec.setWidth 8 (x / 256#32 % 256#32)=BitVec.setWidth 8 (x >>> 8) :=by
  apply BitVec.eq_of_toNat_eq;rw[BitVec.toNat_setWidth,BitVec.toNat_setWidth,BitVec.toNat_umod,BitVec.toNat_udiv,BitVec.toNat_ushiftRight,Nat.shiftRight_eq_div_pow];show x.toNat / 256 % 256 % 256=x.toNat / 256 % 256;omega
 have ke:BitVec.setWidth 8 (x % 256#32)=BitVec.setWidth 8 x:=by
  apply BitVec.eq_of_toNat_eq;rw[BitVec.toNat_setWidth,BitVec.toNat_setWidth,BitVec.toNat_umod];show x.toNat % 256 % 256=x.toNat % 256;omega
 simp[q1,hz,r2,kz,a1,b7,dO,ke];exact a7 _ _ ⟨l.length,ph (n:=4) (a:=h3 x) rfl (by simp; rfl),by simp,fun b ai=>List.getElem?_append_left ai,.inr (by simp),rfl⟩
structure abB (d:List B) (k:Nat) (ah:bj) (l:au) :Prop where
 bd:ah 3=.ptr 0 0 32
 bD:ah 4=dz (sr (d.take k))
 br:ah 5=.int .i64 k
 eJ:l[0]? = some (.cells 32 (d.map bG))
theorem ajo (s:ew) (ar:s.l.length<=1000000) :bT Tryz.prog GS 182 [cE s] (dz (yJ s.l)) :=by
 refine ca Tryz.checked.mixed b3 ?_;apply bI PH Yd;unfold FC Lk;have kV:=ZK s ar;have cL:=kH s;obtain⟨hH,uN⟩:∃ hH,hH=hA s.l:=⟨_,rfl⟩
 have uO:hH.length=32:=by rw[uN]; exact tO _
 rw[<-uN] at kV;have Ia:fj hH=.aS (hH.map bG) :=rfl;rw[Ia] at kV;have H1:(hH.map bG).length=32:=by simp[uO]
 have IU:bS (rep 32 (.int .u8 0)) 0 (hH.map bG)=hH.map bG:=hb (by rw[H1]; rfl);simp;refine bv kV (by simp[bP,cL]) ?_;simp[uO,IU];refine c0 8 (abB hH) ?_ ⟨by simp,by simp[sr],by simp,rfl⟩;rintro k ah l aE ⟨bd,bD,br,eJ⟩;obtain⟨ah,rfl⟩:=jG bd bD br;clear bd bD br;unfold Vj;by_cases h:k<8
 ·obtain⟨x,aj,_⟩:=ck (l:=hH) (k:=k) (by omega);have eF:IntKind.i64.wrap ((k:Int)+1)=(k+1:Nat) :=wrap_i64 (by omega) (by omega);have ar:=Oq hH k x aj;rw[alG] at ar;have eb:(k:Int)<8:=by omega
  have Ii:k<32:=by omega
  simp[h,eb,Ii,eJ,eF,aj];exact⟨by omega,by simp,by simp[ar],by simp,eJ⟩
 ·have g6:k=8:=by omega
  subst g6;simp;exact aZ (by unfold yJ; rw[uN]) rfl
theorem akm (r y:D) (m:ew) (hm:m.l.length<=900000) :bT Tryz.prog GS 145 [bu r,bu y,cE m] (bu (yb r y m.l)) :=by
 refine ca Tryz.checked.mixed b3 ?_;apply bI Pd XJ;unfold E7 KS;have aC:cJ=140737488355328:=rfl;have ih:=kH m;simp;refine R3 r fun e0 l1 h1=>?_
 have TJ:=h1.le;have agQ:cq 1 b9 [] l1 (.ao 1 0 0 1 1 1) [99#8] false:=⟨0,ph (n:=1) (a:=[99#8]) rfl (by rw[h1.same 0 (by simp)]; rfl),by simp,by simp,.inr (by simp),rfl⟩
 obtain⟨dx,cg,bn,bA,a3⟩:=agQ.app (by_:=1) (x:=e0) (xs:=h3 r) h1.contents (fun _ _=>rfl) (by omega) (by omega) (by rw[aC]; simp[h3]);simp[bn];refine du.cM ?_;simp;refine R3 y fun v3 eS ap=>?_
 have agR:cq 1 b9 [] eS dx ([99#8]++h3 r) false:=bA.frame ap.le ap.same;obtain⟨v4,n4,ei,dN,gy⟩:=agR.app (by_:=1) (x:=v3) (xs:=h3 y) ap.contents (fun _ _=>rfl) (by omega) (by omega) (by rw[aC]; simp[h3]);simp[ei];refine du.cM ?_;obtain⟨v5,JB,cz,de,lk⟩:=dN.app (by_:=1) (x:=cE m) (xs:=m.l) (Rp _ _) (fun _ _=>rfl) (by omega) (by omega) (by rw[aC]; simp[h3]; omega);simp[cz];refine du.cM ?_;have ai:(eh.l (some ([99#8]++h3 r++h3 y++m.l)) :List B)=99#8::(kg [r,y]++m.l) :=by simp[kg]
 have TZ:=ajo (some ([99#8]++h3 r++h3 y++m.l)) (by rw[ai]; simp[kg,h3]; omega);rw[ai] at TZ;simp;refine ja TZ (.cons (de.qw (fun _=>rfl) (some ([99#8]++h3 r++h3 y++m.l)) (by simp) rfl) .nil) rfl ?_;simp[ZN];exact aZ rfl rfl
theorem Dk (a n k:Nat) :eY (eY a n) k=eY a (n*k) :=by
 unfold eY; rw[<-Nat.pow_mod,<-Nat.pow_mul]
theorem W0 (n:Nat) :eY 1 n=1:=by unfold eY; rw[Nat.one_pow]
theorem ajX (a m n:Nat) :eY a (m+n)=eY a m*eY a n % 1000000007:=by
 unfold eY; rw[Nat.pow_add,Nat.mul_mod]
theorem acg:eY 4 500000003=1:=by
 have h:=WW 4 500000003 (by decide) 64 (Nat.le_refl _);rw[show 500000003 / 2 ^ (64 - 64)=500000003 from rfl] at h;rw[<-h];decide +kernel
theorem Jn {y:D} (h:eY y.toNat 500000003=1) (n:Nat) :fk (fY y n)=true:=by
 have ax:=qs y n;have aN:=vw y.toNat n;have h1:eY (eY y.toNat n) 500000003=1:=by
  rw[Dk,Nat.mul_comm,<-Dk,h,W0]
 have aQ:eY y.toNat n≠0:=fun e=>by
  rw[e] at h1;have aB:∀ n,0<n->eY 0 n=0:=fun n aI=>by unfold eY; rw[Nat.zero_pow aI]
  rw[aB _ (by decide)] at h1;cases h1
 unfold fk;rw[ax,decide_eq_true (by omega),decide_eq_true aN,decide_eq_true h1]; rfl
theorem UI {y:D} (h:fk y=true) :eY y.toNat 500000003=1:=by
 unfold fk at h; simp only[Bool.and_eq_true,decide_eq_true_eq] at h; exact h.2
theorem acf {y:D} (h:eY y.toNat 500000003=1) {e:Nat} (aw:e<500000003) :fY (fY y e) 500000002=fY y (500000003 - e) :=by
 apply BitVec.eq_of_toNat_eq;rw[qs,qs,qs,Dk];rcases e with _ | e
 ·rw[Nat.zero_mul,Nat.sub_zero,h];unfold eY; rfl
 ·have a1:(e+1)*500000002=500000003*e+(500000003 - (e+1)) :=by omega
  rw[a1,ajX,<-Dk,h,W0,Nat.one_mul,Nat.mod_eq_of_lt (vw _ _)]
def zW (y:D) (e s:D) :D:=zQ (fY 4#32 s.toNat) (fY y (500000003 - e.toNat))
def Ad (y:D) (m:List B) (e s:D) :Bool:=h0 e&&(h0 s&&decide (yb (zW y e s) y m=e))
theorem ame {e:D} (aw:e.toNat<500000003) :(500000003#64 - e.setWidth 64).toNat=500000003 - e.toNat:=by
 rw[BitVec.toNat_sub,BitVec.toNat_setWidth];have:(500000003#64).toNat=500000003:=rfl;rw[this]; omega
theorem anm (y:D) (aO:fk y=true) (m:ew) (hm:m.l.length<=9991) (e s:D) :bT Tryz.prog GS 120 [bu y,cE m,.aS [bu e,bu s]] (.int .i64 (if Ad y m.l e s then 0 else 22)) :=by
 refine ca Tryz.checked.mixed b3 ?_;apply bI OV Xs;unfold ES KD Ad;have bz:c9 (.ao 1) (cE m)=some (.int .i64 m.l.length) :=o6 _;have fb:¬ (9991:Int)<(m.l.length:Int) :=by omega
 have HB:¬ 9991<m.l.length:=by omega
 have ih:=kH m;have bp:=UI aO;have Tl:=Jm y;rw[aO] at Tl;simp;refine bv Tl rfl ?_;obtain⟨M,lr⟩:∃ M:Int,M=if u e<u s then u s else u e:=⟨_,rfl⟩
 have uX:rS (bu e) (bu s)=some (.int .u32 M) :=by rw[lr]; simp[rS,bu]
 have SE:(500000003:Int)<=M<->500000003<=e.toNat\/500000003<=s.toNat:=by
  rw[lr]; unfold u; split<;>omega
 simp[bz,fb,HB,uX];by_cases h1:500000003<=e.toNat\/500000003<=s.toNat
 ·have ai:(h0 e&&(h0 s&&decide (yb (zW y e s) y m.l=e)))=false:=by
   unfold h0;rcases h1 with h | h
   ·rw[decide_eq_false (by omega)]; rfl
   ·rw[decide_eq_false (p:=s.toNat<500000003) (by omega)]; simp
  have ak:=SE.2 h1;simp[ak,ai];exact aZ rfl rfl
 ·have ak:¬ (500000003:Int)<=M:=fun h=>h1 (SE.1 h)
  have gG:h0 e=true:=by unfold h0; exact decide_eq_true (by omega)
  have e6:h0 s=true:=by unfold h0; exact decide_eq_true (by omega)
  have Ua:=aet y (500000003#64 - e.setWidth 64);have ahg:(s.setWidth 64:Q).toNat=s.toNat:=by rw[BitVec.toNat_setWidth]; omega
  have BR:=aer (s.setWidth 64);rw[aO,if_pos rfl,if_pos rfl,ame (by omega)] at Ua;rw[ahg] at BR;have ru:=aes (fY 4#32 s.toNat) (fY y (500000003 - e.toNat));rw[Jn (y:=4#32) acg,Jn bp] at ru;simp only[Bool.and_self,if_true] at ru;have yN:=anc (zW y e s) y m hm;have fw:∀ a b:D,((u a:Int)=u b)<->a=b:=fun a b=>⟨fun h=>BitVec.eq_of_toNat_eq (by unfold u at h; omega),fun h=>by rw[h]⟩
  simp[ak];refine bv Ua rfl ?_;simp;refine bv BR rfl ?_;simp;refine bv ru rfl ?_;simp;refine bv yN (by simp[bP,ae.closed,ih]) ?_;rw[gG,e6];by_cases ap:yb (zW y e s) y m.l=e
  ·simp[ap];exact aZ rfl rfl
  ·simp[ap,fw];exact aZ rfl rfl
theorem akr (s:D) :bT Tryz.prog GS 105 [bu s] (bu (fY 4#32 s.toNat)) :=by
 refine ca Tryz.checked.mixed b3 ?_;apply bI OJ Xh;unfold EG Kr;have alo:(s.setWidth 64:Q).toNat=s.toNat:=by rw[BitVec.toNat_setWidth]; omega
 have BQ:=akk (s.setWidth 64);rw[alo] at BQ;simp;refine bv BQ rfl ?_;simp;exact aZ rfl rfl
theorem akB (y:D) (aO:fk y=true) (m:ew) (hm:m.l.length<=900000) (e s:D) :bT Tryz.prog GS 136 [bu y,cE m,.aS [bu e,bu s]] (.bool (Ad y m.l e s)) :=by
 refine ca Tryz.checked.mixed b3 ?_;apply bI O4 XB;unfold EZ KK Ad;have ih:=kH m;have bp:=UI aO;have fw:∀ a b:D,((u a:Int)=u b)<->a=b:=fun a b=>⟨fun h=>BitVec.eq_of_toNat_eq (by unfold u at h; omega),fun h=>by rw[h]⟩
 simp;refine bv (Bm e) rfl ?_;cases h1:h0 e with
 | false=>simp; exact aZ rfl rfl
 | true=>
 simp;refine bv (Bm s) rfl ?_;cases af:h0 s with
 | false=>simp; exact aZ rfl rfl
 | true=>
 have aw:e.toNat<500000003:=by unfold h0 at h1; exact of_decide_eq_true h1
 have adM:(e.setWidth 64:Q).toNat=e.toNat:=by rw[BitVec.toNat_setWidth]; omega
 have Ue:=Mz y (e.setWidth 64);rw[adM] at Ue;have Tr:=akq (fY y e.toNat);rw[Jn bp,if_pos rfl,if_pos rfl,acf bp aw] at Tr;have BQ:=akr s;have w1:=akz (fY 4#32 s.toNat) (fY y (500000003 - e.toNat));have yN:=akm (zW y e s) y m hm;simp;refine bv Ue rfl ?_;simp;refine bv Tr rfl ?_;simp;refine bv BQ rfl ?_;simp;refine bv w1 rfl ?_;simp;refine bv yN (by simp[bP,ae.closed,ih]) ?_;simp[fw];exact aZ rfl rfl
def MY (o:bH) :Bool:=Ad o.fP (i8 o) o.e o.s
def po (o:bH) :Int:=if fX o=0 then (if MY o then 0 else 22) else fX o
theorem WC {o:bH} (aA:∀ x∈o.bx.l,x.length=32) (h:fX o=0) :fk o.fP=true/\(i8 o).length<=9991:=by
 have aH:=xx h;unfold fX at h;rw[if_neg (by omega)] at h;split at h
 ·split at h
  ·rename_i aC az;unfold rc at az;simp only[Bool.and_eq_true,decide_eq_true_eq] at az;obtain⟨aV,aY,bd,bD,br⟩:=az;refine⟨aV,?_⟩;have Il:o.act.key.length<=20/\(o.act.kind=4#8->o.act.val.text.length<=30) :=by
    unfold jg at bd;split at bd
    ·rename_i h1;simp only[Bool.and_eq_true,decide_eq_true_eq] at bd;rw[bd.1];exact⟨by simp,fun h=>by rw[h1] at h; cases h⟩
    ·split at bd
     ·rename_i h1 af;simp only[Bool.and_eq_true] at bd;have aE:=bd.1;unfold g9 at aE;simp only[Bool.and_eq_true,decide_eq_true_eq] at aE;exact⟨aE.1.2,fun h=>by rw[h] at af; rcases af with af | af<;>cases af⟩
     ·split at bd
      ·simp only[Bool.and_eq_true] at bd;obtain⟨aE,ax⟩:=bd;unfold g9 at aE;simp only[Bool.and_eq_true,decide_eq_true_eq] at aE;refine⟨aE.1.2,fun _=>?_⟩;unfold jd at ax;split at ax
       ·simp only[Bool.and_eq_true,decide_eq_true_eq] at ax; rw[ax.2]; simp
       ·split at ax
        ·simp only[Bool.and_eq_true,decide_eq_true_eq] at ax; rw[ax.1.2]; simp
        ·split at ax
         ·simp only[Bool.and_eq_true,decide_eq_true_eq] at ax; exact ax.1.2
         ·cases ax
      ·cases bd
   have lD:=ha o.fP.toNat
   have ql:=ha o.gT.toNat
   have rU:=zD aA;have pc:=xO (eW o.act.key);rw[od] at pc;have jW:=Aq o.act.val;have n6:(opHead o).length<=10:=by unfold opHead; simp; omega
   unfold i8;simp only[List.length_append,List.length_cons,List.length_nil];have atb:(if o.act.kind=1#8 then ([] :List B) else hU (eW o.act.key)).length<=29:=by
    split
    ·simp
    ·omega
   have atc:(if o.act.kind=4#8 then hV o.act.val else []).length<=50:=by
    split
    ·rename_i h; have:=Il.2 h; omega
    ·simp
   omega
  ·cases h
 ·cases h
theorem ann (o:bH) (ay:iv o) :bT Tryz.prog GS 85 [.aS (bl o)] (.int .i64 (po o)) :=by
 refine ca Tryz.checked.mixed b3 ?_;apply bI QK Zg;unfold GI Mn po;have da:=kb o;have ea:=DU o ay;have uM:bP [ae.aS (bl o)]=true:=by simp[bP,ae.closed,da]
 by_cases aQ:fX o=0
 ·obtain⟨az,bz⟩:=WC ay.ids aQ;rw[if_pos aQ];simp[bl];refine bv ea uM ?_;simp[aQ];refine aa9 o ay (Oh aQ) fun w l' h=>?_
  have eJ:l'[0]? = some (.cells 11 (bl o)) :=by rw[h.same 0 (by simp)]; rfl
  have tz:=eJ;simp[bl] at tz;have ax:=anm o.fP az (some (i8 o)) bz o.e o.s;simp[tz];refine ja ax (.cons (.same _ rfl) (.cons (h.qw (fun _=>rfl) (some (i8 o)) rfl rfl) (.cons (.same _ rfl) .nil))) rfl ?_;simp;exact aZ rfl rfl
 ·rw[if_neg aQ];simp[bl];refine bv ea uM ?_;simp[aQ];exact aZ rfl rfl
theorem akG (o:bH) (ay:iv o) (aQ:fX o=0) :bT Tryz.prog GS 93 [.aS (bl o)] (.bool (MY o)) :=by
 refine ca Tryz.checked.mixed b3 ?_;apply bI QR Zn;unfold GN Ms;have da:=kb o;obtain⟨az,bz⟩:=WC ay.ids aQ;have ax:=akB o.fP az (some (i8 o)) (by show (i8 o).length<=_; omega) o.e o.s;simp[bl];refine ZB o ay (by have:=xx aQ; omega) fun w l' h=>?_
 have eJ:l'[0]? = some (.cells 11 (bl o)) :=by rw[h.same 0 (by simp)]; rfl
 have tz:=eJ;simp[bl] at tz;simp[tz];refine ja ax (.cons (.same _ rfl) (.cons (h.qw (fun _=>rfl) (some (i8 o)) rfl rfl) (.cons (.same _ rfl) .nil))) rfl ?_;simp;exact aZ rfl rfl
theorem akK (o:bH) (ay:iv o) :bT Tryz.prog GS 61 [.aS (bl o)] (.int .i64 (po o)) :=by
 refine ca Tryz.checked.mixed b3 ?_;apply bI Qt YZ;unfold Gm L5 po;have da:=kb o;have ea:=akw o ay;have uM:bP [ae.aS (bl o)]=true:=by simp[bP,ae.closed,da]
 by_cases aQ:fX o=0
 ·rw[if_pos aQ];simp[bl];refine bv ea uM ?_;simp[aQ];refine bv (akG o ay aQ) uM ?_;cases ar:MY o with
  | true=>simp; exact aZ rfl rfl
  | false=>simp; exact aZ rfl rfl
 ·rw[if_neg aQ];simp[bl];refine bv ea uM ?_;simp[aQ];refine bv ea uM ?_;simp;exact aZ rfl rfl
end Op
end Go.cl

namespace Go.cl
open Go Go.Proofs
set_option maxRecDepth 100000
namespace Op
section
variable {α:Type} {z:Nat} {enc:α->List ae}
theorem ajv {by_:Nat} {l l1:au} {v:ae} {a:List α} {e2:Bool} (h:cq z enc l l1 v a e2) (x:α) {b:Nat} (ai:l1[b]? = some (.cells z (enc x))) (aj:(enc x).length=z) (aQ:z≠0) (dE:by_≠0) (ds:(a.length+1)*by_<=cJ) :
  ∃ bf l',ie l1 z by_ v (.ao z b 0 1 1 z)=some (bf,l')/\cq z enc l l' bf (a++[x]) false/\l1.length<=l'.length:=by
 obtain⟨bf,l',aV,aY,bd⟩:=h.app (by_:=by_) (x:=.ao z b 0 1 1 z) (xs:=[x]) (by simp[df,ai,aj,List.take_of_length_le]) (by simp[aj]) aQ dE (by simpa using ds);exact⟨bf,l',aV,by simpa using aY,bd⟩
theorem M1 {lt:α->α->Bool} (Ci:∀ a,lt a a=false) (Uo:∀ a b c,lt a b=true->lt b c=true->lt a c=true) :∀ {l m:List α},l.Pairwise (fun a b=>lt a b=true)->m.Pairwise (fun a b=>lt a b=true)->(∀ y,y∈l<->y∈m)->l=m
 | [],[],_,_,_=>rfl
 | [],b::m,_,_,h=>absurd ((h b).2 (by simp)) (by simp)
 | a::l,[],_,_,h=>absurd ((h a).1 (by simp)) (by simp)
 | a::l,b::m,aq,hm,h=>by
  obtain⟨l1,cg⟩:=List.pairwise_cons.1 aq;obtain⟨fK,iG⟩:=List.pairwise_cons.1 hm;have f7:a=b:=by
   rcases List.mem_cons.1 ((h a).1 (by simp)) with e | e
   ·exact e
   ·rcases List.mem_cons.1 ((h b).2 (by simp)) with b7 | b7
    ·exact b7.symm
    ·have:=Uo _ _ _ (fK a e) (l1 b b7);rw[Ci] at this; cases this
  subst f7;congr 1;refine M1 Ci Uo cg iG fun y=>⟨fun aO=>?_,fun aO=>?_⟩
  ·rcases List.mem_cons.1 ((h y).1 (by simp[aO])) with e | e
   ·subst e;have:=l1 y aO;rw[Ci] at this; cases this
   ·exact e
  ·rcases List.mem_cons.1 ((h y).2 (by simp[aO])) with e | e
   ·subst e;have:=fK y aO;rw[Ci] at this; cases this
   ·exact e
end
section
variable {α:Type} [DecidableEq α]
end
end Op
end Go.cl

namespace Go.cl
open Go Go.Proofs
set_option maxRecDepth 100000
namespace Op
open gX
def mi {α:Type} [DecidableEq α] (x:α) :List α->Nat->Int
 | [],_=>-1
 | y::r,k=>if y=x then (k:Int) else mi x r (k+1)
theorem UJ {α:Type} [DecidableEq α] (x:α) :∀ (l:List α) (k:Nat),(0<=mi x l k)<->x∈l
 | [],k=>by simp[mi]
 | y::r,k=>by
  unfold mi;by_cases h:y=x
  ·simp[h]
  ·rw[if_neg h,UJ x r (k+1)];simp[Ne.symm h]
theorem Jo {α:Type} [DecidableEq α] {x:α}:∀ {l:List α} {k n:Nat} {y:α},l[k]? = some y->(∀ (j:Nat) (z:α),j<k->l[j]? = some z->z≠x)->y=x->mi x l n=((n+k:Nat) :Int)
 | [],k,n,y,h,_,_=>by simp at h
 | w::r,0,n,y,h,_,aO=>by
  simp at h; subst h;unfold mi;rw[if_pos aO]; simp
 | w::r,k+1,n,y,h,aq,aO=>by
  unfold mi;rw[if_neg (aq 0 w (by omega) (by simp)),Jo (k:=k) (n:=n+1) (by simpa using h) (fun j z am aB=>aq (j+1) z (by omega) (by simpa using aB)) aO];congr 1; omega
theorem UK {α:Type} [DecidableEq α] {x:α}:∀ {l:List α} {n:Nat},(∀ (j:Nat) (z:α),l[j]? = some z->z≠x)->mi x l n=-1
 | [],n,_=>rfl
 | w::r,n,aq=>by
  unfold mi;rw[if_neg (aq 0 w (by simp)),UK fun j z aB=>aq (j+1) z (by simpa using aB)]
theorem Zz (s:fp) (ay:hS s) (aq:s.l.length<=1000000) (x:List B) (aj:x.length=32) :bT Tryz.prog GS 30 [a8 s,.aS (a2 x)] (.bool (decide (x∈s.l))) :=by
 refine ca Tryz.checked.mixed b3 ?_;apply bI Qa YH;unfold F6 LO;simp[a8];refine c0 s.l.length (fun k ah l=>l=[.cells 32 (a2 x)]/\ah 0=cS 32 a2 s/\ah 3=.ptr 0 0 32/\ah 5=.int .i64 k/\∀ (j:Nat) (z:List B),j<k->s.l[j]? = some z->z≠x) ?_ (by simp[a8,dm aj]);rintro k ah l aE ⟨rfl,cP,bd,br,ar⟩;obtain⟨ah,rfl⟩:=jG cP bd br;clear cP bd br;unfold VI;simp;refine rM (fun h=>?_) (fun h=>?_)
 ·simp only[decide_eq_true_eq] at h;obtain⟨y,aO,el⟩:=ck (l:=s.l) (k:=k) (by omega);have a1:IntKind.i64.wrap ((k:Int)+1)=((k+1:Nat) :Int) :=by rw[IntKind.wrap_i64]; omega
  simp[aO,dm (ay y el),dm aj,List.take_of_length_le,Jb (ay y el) aj];by_cases aw:y=x
  ·simp[aw];exact aZ (congrArg ae.bool (decide_eq_true (by rw[<-aw]; exact el)).symm) rfl
  ·simp[aw,a1];refine⟨by omega,fun j z am aB=>?_⟩;by_cases hu:j=k
   ·subst hu; rw[aO] at aB; obtain rfl:=Option.some.inj aB; exact aw
   ·exact ar j z (by omega) aB
 ·simp[h];have s3:k=s.l.length:=by simp at h; omega
  refine aZ (congrArg ae.bool (decide_eq_false fun hm=>?_).symm) rfl;obtain⟨j,am⟩:=List.mem_iff_getElem?.1 hm;exact ar j x (by rw[s3]; exact (List.getElem?_eq_some_iff.1 am).1) am rfl
theorem Zw (s:fp) (ay:hS s) (aq:s.l.length<=1000000) (x:List B) (aj:x.length=32) :bT Tryz.prog GS 70 [a8 s,.aS (a2 x)] (.int .i64 (mi x s.l 0)) :=by
 refine ca Tryz.checked.mixed b3 ?_;apply bI QC Y8;unfold Gw Me;simp[a8];refine c0 s.l.length (fun k ah l=>l=[.cells 32 (a2 x)]/\ah 0=cS 32 a2 s/\ah 3=.ptr 0 0 32/\ah 5=.int .i64 k/\∀ (j:Nat) (z:List B),j<k->s.l[j]? = some z->z≠x) ?_ (by simp[a8,dm aj]);rintro k ah l aE ⟨rfl,cP,bd,br,ar⟩;obtain⟨ah,rfl⟩:=jG cP bd br;clear cP bd br;unfold VR;simp;refine rM (fun h=>?_) (fun h=>?_)
 ·simp only[decide_eq_true_eq] at h;obtain⟨y,aO,el⟩:=ck (l:=s.l) (k:=k) (by omega);have a1:IntKind.i64.wrap ((k:Int)+1)=((k+1:Nat) :Int) :=by rw[IntKind.wrap_i64]; omega
  simp[aO,dm (ay y el),dm aj,List.take_of_length_le,Jb (ay y el) aj];by_cases aw:y=x
  ·have fS:=Jo (n:=0) aO ar aw;simp[aw];exact aZ (by rw[fS]; simp) rfl
  ·simp[aw,a1];refine⟨by omega,fun j z am aB=>?_⟩;by_cases hu:j=k
   ·subst hu; rw[aO] at aB; obtain rfl:=Option.some.inj aB; exact fun h=>aw h
   ·exact ar j z (by omega) aB
 ·simp[h];have s3:k=s.l.length:=by simp at h; omega
  exact aZ (by rw[UK fun j z aB=>ar j z (by rw[s3]; exact (List.getElem?_eq_some_iff.1 aB).1) aB]) rfl
def qV (l cx:List (List B)) :Bool:=decide (∀ p∈cx,p∈l)
theorem Zu (s:fp) (ay:hS s) (aq:s.l.length<=1000000) (t:fp) (aU:hS t) (jS:t.l.length<=1000000) :bT Tryz.prog GS 69 [a8 s,a8 t] (.bool (qV s.l t.l)) :=by
 refine ca Tryz.checked.mixed b3 ?_;apply bI QB Y7;unfold Gv Md;have cL:=f2 s;have aN:c9 (.ao 32) (a8 t)=some (.int .i64 t.l.length) :=by simp[a8]
 simp;refine c0 t.l.length (fun k ah l=>ah 0=a8 s/\ah 1=a8 t/\ah 5=.int .i64 k/\∀ (j:Nat) (z:List B),j<k->t.l[j]? = some z->z∈s.l) ?_ (by simp);rintro k ah l aE ⟨cP,aV,br,ar⟩;obtain⟨ah,rfl⟩:=jG cP aV br;clear cP aV br;unfold VP;by_cases cC:k<t.l.length
 ·obtain⟨y,aO,el⟩:=ck cC;have a1:IntKind.i64.wrap ((k:Int)+1)=((k+1:Nat) :Int) :=by rw[IntKind.wrap_i64]; omega
  have cQ:cO (.ao 32) (a8 t) (.int .i64 (k:Int))=some (.cn (a2 y) 0) :=by simp[a8,aO]
  have oK:=gZ y;have fx:=Zw s ay aq y (aU y el);have fc:=dm (aU y el);have TW:=UJ y s.l 0;obtain⟨Y,gj⟩:∃ Y,Y=a2 y:=⟨_,rfl⟩
  rw[<-gj] at cQ oK fx fc;simp[aN,cC,cQ,fc,List.take_of_length_le];refine bv fx (by simp[bP,ae.closed,cL,oK]) ?_;by_cases hm:y∈s.l
  ·have af:¬ mi y s.l 0<0:=by have:=TW.2 hm; omega
   simp[af,cC,a1];intro j z am aB;by_cases hu:j=k
   ·subst hu; rw[aO] at aB; obtain rfl:=Option.some.inj aB; exact hm
   ·exact ar j z (by omega) aB
  ·have af:mi y s.l 0<0:=by
    rcases Int.lt_or_le (mi y s.l 0) 0 with h | h
    ·exact h
    ·exact absurd (TW.1 h) hm
   simp[af];exact aZ (congrArg ae.bool (decide_eq_false fun h=>hm (h y el)).symm) rfl
 ·have s3:k=t.l.length:=by omega
  simp[aN,cC];refine aZ (congrArg ae.bool (decide_eq_true fun p aF=>?_).symm) rfl;obtain⟨j,am⟩:=List.mem_iff_getElem?.1 aF;exact ar j p (by rw[s3]; exact (List.getElem?_eq_some_iff.1 am).1) am
theorem xG {l:List (List B)} (h:eU l=true) :∀ {i j:Nat} {a b:List B},i<j->l[i]? = some a->l[j]? = some b->cK a b<0:=by
 have aQ:=of_decide_eq_true h;intro i j
 induction j with
 | zero=>intro a b iD; omega
 | succ j aK=>
  intro a b iD aG ai;have eQ:=(List.getElem?_eq_some_iff.1 ai).1;have h1:=aQ (j+1) eQ (by omega);obtain⟨c,ak,_⟩:=ck (l:=l) (k:=j) (by omega);rw[show j+1 - 1=j by omega,hw ak,hw ai] at h1;by_cases af8:i=j
  ·subst af8;rw[aG] at ak;obtain rfl:=Option.some.inj ak;exact h1
  ·exact yg _ _ _ (aK (by omega) aG ak) h1
theorem ala {l:List (List B)} (h:eU l=true) {i j:Nat} {a:List B} (aG:l[i]? = some a) (ai:l[j]? = some a) :i=j:=by
 rcases Nat.lt_trichotomy i j with h1 | h1 | h1
 ·have:=xG h h1 aG ai; rw[q0] at this; omega
 ·exact h1
 ·have:=xG h h1 ai aG; rw[q0] at this; omega
def uq (l:List (List B)) (x:List B) :Nat:=(l.takeWhile fun t=>decide (cK t x<0)).length
theorem G1 (x:List B) :∀ {l:List (List B)} {p:Nat},p<=l.length->(∀ (t:Nat) (y:List B),t<p->l[t]? = some y->cK y x<0)->(∀ y,l[p]? = some y->¬ cK y x<0)->uq l x=p
 | [],p,aF,_,_=>by simp at aF; subst aF; rfl
 | y::l,0,_,_,af=>by
  have:=af y (by simp);unfold uq;rw[List.takeWhile_cons,decide_eq_false this]; rfl
 | y::l,p+1,aF,h1,af=>by
  have aO:=h1 0 y (by omega) (by simp);have aK:=G1 x (l:=l) (p:=p) (by simpa using aF) (fun t z aU aB=>h1 (t+1) z (by omega) (by simpa using aB)) (fun z aB=>af z (by simpa using aB));unfold uq at aK ⊢;rw[List.takeWhile_cons,decide_eq_true aO];simpa using aK
theorem alI (n:Nat) (h:n<9223372036854775808) :ct .shr .u64 (n:Int) .u64 1=some (.int .u64 ((n / 2:Nat) :Int)) :=by
 have:=su (BitVec.ofNat 64 n) .u64 1;have aL:(u (BitVec.ofNat 64 n) :Int)=n:=by unfold u; rw[BitVec.toNat_ofNat,Nat.mod_eq_of_lt (by omega)]
 have ax:(u (BitVec.ofNat 64 n >>> 1) :Int)=((n / 2:Nat) :Int) :=by
  unfold u; rw[BitVec.toNat_ushiftRight,BitVec.toNat_ofNat,Nat.mod_eq_of_lt (by omega),Nat.shiftRight_eq_div_pow]
 rw[aL,ax] at this;exact this
structure abt (s:fp) (X:List ae) (x:List B) (m:Nat) (ah:bj) (l:au) :Prop where
 ex:∃ (i j:Nat),j - i=m/\i<=j/\j<=s.l.length/\l=[.cells 32 X]/\ah 0=a8 s/\ah 2=.fn 121 [] []/\ah 4=.ptr 0 0 32/\ah 8=.int .i64 s.l.length/\ah 9=.int .i64 i/\ah 10=.int .i64 j ∧
  (∀ (t:Nat) (y:List B),t<i->s.l[t]? = some y->cK y x<0)/\(∀ (t:Nat) (y:List B),j<=t->s.l[t]? = some y->¬ cK y x<0)
theorem aac (s:fp) (ay:hS s) (aq:s.l.length<=1000000) (x:List B) (aj:x.length=32) (hm:eU s.l=true) :
  bT Tryz.prog GS 123 [a8 s,.aS (a2 x),.fn 121 [] []] (.bU [.int .i64 (uq s.l x),.bool (decide (x∈s.l))]) :=by
 refine ca Tryz.checked.mixed b3 ?_;apply bI OY Xv;unfold EV KG;have bz:c9 (.ao 32) (a8 s)=some (.int .i64 s.l.length) :=by simp[a8]
 have bE:=dm aj;have mf:=gZ x;have ih:∀ y∈s.l,bT Tryz.prog GS 121 [.aS (a2 y),.aS (a2 x)] (.int .i64 (cK y x)) :=fun y aO=>wg y x (ay y aO) aj
 obtain⟨X,dY⟩:∃ X,X=a2 x:=⟨_,rfl⟩
 rw[<-dY] at bE mf ih ⊢;simp[bz];refine vm (abt s X x) ?_ s.l.length _ _ ⟨0,s.l.length,by omega,by omega,by omega,by simp[bE],by simp,by simp,by simp[bE],by simp,by simp,by simp,fun t y h=>by omega,fun t y h af=>by rw[List.getElem?_eq_none h] at af; cases af⟩;rintro m ah l ⟨i,j,fG,iD,eQ,rfl,cP,aY,bD,ff,hs,hr,h1,af⟩;obtain⟨ah,rfl⟩:=DO cP aY bD ff hs hr;clear cP aY bD ff hs hr;unfold U0;by_cases aN:i<j
 ·obtain⟨h,aR⟩:∃ h,h=(i+j) / 2:=⟨_,rfl⟩
  have b4:IntKind.i64.wrap ((i:Int)+j)=((i+j:Nat) :Int) :=by rw[IntKind.wrap_i64]; omega
  have w2:IntKind.u64.wrap ((i+j:Nat) :Int)=((i+j:Nat) :Int) :=by rw[vL,BitVec.ofInt_natCast]; unfold u; rw[BitVec.toNat_ofNat,Nat.mod_eq_of_lt (by omega)]
  have ef:=alI (i+j) (by omega);have pp:IntKind.i64.wrap (h:Int)=(h:Int) :=by rw[IntKind.wrap_i64]; omega
  have t1:IntKind.i64.wrap ((h:Int)+1)=((h+1:Nat) :Int) :=by rw[IntKind.wrap_i64]; omega
  have jN:(i:Int)<(j:Int) :=by omega
  rw[<-aR] at ef;obtain⟨y,aO,el⟩:=ck (l:=s.l) (k:=h) (by omega);have fc:=dm (ay y el);have tc:=gZ y;have cQ:cO (.ao 32) (a8 s) (.int .i64 (h:Int))=some (.cn (a2 y) 0) :=by simp[a8,aO]
  have oK:=ih y el;obtain⟨Y,gj⟩:∃ Y,Y=a2 y:=⟨_,rfl⟩
  rw[<-gj] at fc tc cQ oK;obtain⟨N,fh⟩:∃ N,N=i+j:=⟨_,rfl⟩
  rw[<-fh] at b4 w2 ef;simp[aN,b4,w2,ef,pp,cQ,fc,bE,List.take_of_length_le];refine⟨Hm,bv oK (by simp[bP,ae.closed,tc,mf]) ?_⟩;by_cases bM:cK y x<0
  ·simp[bM,t1];refine⟨j - (h+1),by omega,h+1,j,rfl,by omega,by omega,by simp,by simp,by simp,by simp,by simp,by simp,by simp,fun t z aU aB=>?_,af⟩;by_cases I0:t=h
   ·subst I0; rw[aO] at aB; obtain rfl:=Option.some.inj aB; exact bM
   ·exact yg _ _ _ (xG hm (by omega) aB aO) bM
  ·simp[bM];refine⟨h - i,by omega,i,h,rfl,by omega,by omega,by simp,by simp,by simp,by simp,by simp,by simp,by simp,h1,fun t z aU aB eE=>bM ?_⟩;by_cases I0:t=h
   ·subst I0; rw[aO] at aB; obtain rfl:=Option.some.inj aB; exact eE
   ·exact yg _ _ _ (xG hm (by omega) aO aB) eE
 ·have jN:¬ (i:Int)<(j:Int) :=by omega
  obtain rfl:i=j:=by omega
  have ak:=G1 x (l:=s.l) (p:=i) eQ h1 (fun y aO=>af i y (Nat.le_refl _) aO);have kT:∀ {y:List B},s.l[i]? = some y->(y=x<->x∈s.l) :=fun {y} aO=>by
   constructor
   ·rintro rfl; exact List.mem_of_getElem? aO
   ·intro zj;obtain⟨t,aU⟩:=List.mem_iff_getElem?.1 zj;rcases Nat.lt_trichotomy t i with ap | ap | ap
    ·have:=h1 t x ap aU; rw[q0] at this; omega
    ·subst ap; rw[aO] at aU; exact Option.some.inj aU
    ·exact absurd (xG hm ap aO aU) (af i y (Nat.le_refl _) aO)
  by_cases d1:i<s.l.length
  ·have af9:(i:Int)<(s.l.length:Int) :=by omega
   obtain⟨y,aO,el⟩:=ck (l:=s.l) (k:=i) d1;have fc:=dm (ay y el);have tc:=gZ y;have cQ:cO (.ao 32) (a8 s) (.int .i64 (i:Int))=some (.cn (a2 y) 0) :=by simp[a8,aO]
   have oK:=ih y el;have afC:cK y x=0<->x∈s.l:=by
    rw[<-kT aO];exact⟨Ba,fun h=>by rw[h]; exact q0 _⟩
   obtain⟨Y,gj⟩:∃ Y,Y=a2 y:=⟨_,rfl⟩
   rw[<-gj] at fc tc cQ oK;simp[d1,cQ,fc,bE,List.take_of_length_le];refine⟨Hm,bv oK (by simp[bP,ae.closed,tc,mf]) ?_⟩;simp;refine aZ ?_ rfl;rw[ak];simp[afC]
  ·have af9:¬ (i:Int)<(s.l.length:Int) :=by omega
   simp[d1];refine aZ ?_ rfl;have eG:¬ x∈s.l:=fun zj=>by
    obtain⟨t,aU⟩:=List.mem_iff_getElem?.1 zj;have:=h1 t x (by have:=(List.getElem?_eq_some_iff.1 aU).1; omega) aU;rw[q0] at this; omega
   rw[ak,decide_eq_false eG]
theorem Ri {l:List (List B)} (hm:eU l=true) {k:Nat} {x:List B} (h:l[k]? = some x) :uq l x=k:=
 G1 x (Nat.le_of_lt (List.getElem?_eq_some_iff.1 h).1) (fun t y aU aO=>xG hm aU aO h) (fun y aO=>by rw[h] at aO; obtain rfl:=Option.some.inj aO; rw[q0]; omega)
structure b2 where
 ids:fp
 ops:eh bH
def b8 (s:eh bH) :ae:=cS 11 bl s
def dA (g:b2) :List ae:=[a8 g.ids,b8 g.ops]
def c6 (g:b2) :ae:=.aS (dA g)
structure fZ (g:b2) :Prop where
 ids:hS g.ids
 ops:∀ o∈g.ops.l,iv o
 li:g.ids.l.length<=1000000
 cI:g.ops.l.length<=1000000
theorem lW (s:eh bH) :(b8 s).closed=true:=we kb s
theorem ade (g:b2) :bP (dA g)=true:=by have:=f2 g.ids; have:=lW g.ops; simp[dA,bP, *]
theorem A9 (g:b2) :(c6 g).closed=true:=by simp[c6,ae.closed,ade]
def c7 (ops:List bH) (i:Nat) :List (List B) :=match ops[i]? with | some o=>o.bx.l | none=>[]
theorem vx {ops:List bH} {i:Nat} {o:bH} (h:ops[i]? = some o) :c7 ops i=o.bx.l:=by unfold c7; rw[h]
inductive ot (ids:List (List B)) (ops:List bH) :Nat->Prop
 | mk (i:Nat) (aA:i<ids.length) (aF:∀ p∈c7 ops i,p∈ids) (az:∀ p∈c7 ops i,∀ j,ids[j]? = some p->ot ids ops j) :ot ids ops i
theorem ot.lt {ids:List (List B)} {ops:List bH} {i:Nat} (h:ot ids ops i) :i<ids.length:=by cases h; assumption
def iN (ids:List (List B)) :Prop:=∀ (i j:Nat) (x:List B),ids[i]? = some x->ids[j]? = some x->i=j
theorem th {ids:List (List B)} (h:eU ids=true) :iN ids:=fun _ _ _ h1 af=>ala h h1 af
theorem r9:∀ {a b:List Nat},a.Nodup->(∀ x∈a,x∈b)->a.length<=b.length
 | [],_,_,_=>Nat.zero_le _
 | x::a,b,aI,ar=>by
  rw[List.nodup_cons] at aI;have aj:=ar x (by simp);have aK:=r9 (b:=b.erase x) aI.2 (fun y aO=>(List.mem_erase_of_ne (fun e=>aI.1 (by rw[<-e]; exact aO))).2 (ar y (by simp[aO])));rw[List.length_erase_of_mem aj] at aK;have:=List.length_pos_of_mem aj;simp; omega
def nA (ids:List (List B)) (ops:List bH) (out:List Nat) (i:Nat) :Bool:=decide (i∉out)&&qV (out.map (cc ids)) (c7 ops i)
def ip (ids:List (List B)) (ops:List bH) (out:List Nat) :Option Nat:=(List.range ops.length).find? (nA ids ops out)
def e3 (ids:List (List B)) (ops:List bH) :Nat->List Nat
 | 0=>[]
 | k+1=>match ip ids ops (e3 ids ops k) with | some i=>e3 ids ops k++[i] | none=>e3 ids ops k
def m8 (ids:List (List B)) (ops:List bH) :List Nat:=e3 ids ops ops.length
theorem ajs {ids:List (List B)} {ops:List bH} {out:List Nat} {i:Nat} (h:ip ids ops out=some i) :i<ops.length/\i∉out/\∀ p∈c7 ops i,p∈out.map (cc ids) :=by
 have h1:=List.find?_some h;have af:=List.mem_of_find?_eq_some h;unfold nA at h1;rw[Bool.and_eq_true,decide_eq_true_eq] at h1;exact⟨List.mem_range.1 af,h1.1,of_decide_eq_true h1.2⟩
theorem ajr {ids:List (List B)} {ops:List bH} {out:List Nat} (h:ip ids ops out=none) {i:Nat} (aA:i<ops.length) (ay:i∉out) :¬ ∀ p∈c7 ops i,p∈out.map (cc ids) :=by
 intro aR;have:=List.find?_eq_none.1 h i (List.mem_range.2 aA);apply this;unfold nA;rw[Bool.and_eq_true];exact⟨decide_eq_true ay,decide_eq_true aR⟩
theorem ajp {ids:List (List B)} {ops:List bH} {out:List Nat} {i:Nat} (aA:i<ops.length) (h:nA ids ops out i=true) (ai:∀ j,j<i->nA ids ops out j=false) :ip ids ops out=some i:=by
 unfold ip;rw[List.find?_range_eq_some];exact⟨h,by simpa using aA,fun j am=>by rw[ai j am]; rfl⟩
theorem ajq {ids:List (List B)} {ops:List bH} {out:List Nat} (ai:∀ j,j<ops.length->nA ids ops out j=false) :ip ids ops out=none:=by
 unfold ip;rw[List.find?_eq_none];intro j am;rw[ai j (List.mem_range.1 am)]; simp
theorem zL {ids:List (List B)} {ops:List bH} {k i:Nat} (h:ip ids ops (e3 ids ops k)=some i) :e3 ids ops (k+1)=e3 ids ops k++[i] :=by
 show (match ip ids ops (e3 ids ops k) with | some i=>e3 ids ops k++[i] | none=>e3 ids ops k)=_;rw[h]
theorem De {ids:List (List B)} {ops:List bH} {k:Nat} (h:ip ids ops (e3 ids ops k)=none) :e3 ids ops (k+1)=e3 ids ops k:=by
 show (match ip ids ops (e3 ids ops k) with | some i=>e3 ids ops k++[i] | none=>e3 ids ops k)=_;rw[h]
theorem zK (ids:List (List B)) (ops:List bH) (aI:ids.length=ops.length) (am:iN ids) :∀ k,(e3 ids ops k).Nodup/\(e3 ids ops k).length<=k/\∀ i∈e3 ids ops k,i<ops.length/\ot ids ops i
 | 0=>⟨List.nodup_nil,Nat.le_refl _,fun i aA=>by cases aA⟩
 | k+1=>by
  obtain⟨h1,af,ap⟩:=zK ids ops aI am k;cases aj:ip ids ops (e3 ids ops k) with
  | none=>rw[De aj]; exact⟨h1,by omega,ap⟩
  | some i=>
   rw[zL aj];obtain⟨bn,bA,a3⟩:=ajs aj;refine⟨?_,by simp; omega,fun j wR=>?_⟩
   ·rw[List.nodup_append];refine⟨h1,by simp,fun x aj y aO e=>?_⟩;rw[List.mem_singleton] at aO;subst e;rw[aO] at aj;exact bA aj
   ·rw[List.mem_append,List.mem_singleton] at wR;rcases wR with wR | rfl
    ·exact ap j wR
    ·have fx:∀ t,t<ids.length->ids[t]? = some (cc ids t) :=fun t aU=>by
      obtain⟨x,aj,_⟩:=ck (l:=ids) aU;rw[aj,hw aj]
     refine⟨bn,.mk j (by omega) (fun p aF=>?_) fun p aF i1 fr=>?_⟩
     ·obtain⟨t,aU,rfl⟩:=List.mem_map.1 (a3 p aF);exact List.mem_of_getElem? (fx t (by have:=(ap t aU).1; omega))
     ·obtain⟨t,aU,rfl⟩:=List.mem_map.1 (a3 p aF);obtain⟨ei,dN⟩:=ap t aU;rw[am i1 t _ fr (fx t (by omega))];exact dN
theorem J3 {ids:List (List B)} {ops:List bH} {k:Nat} (h:ip ids ops (e3 ids ops k)=none) :∀ m,e3 ids ops (k+m)=e3 ids ops k
 | 0=>rfl
 | m+1=>by
  have aK:=J3 h m;rw[<-Nat.add_assoc,De (by rw[aK]; exact h),aK]
theorem Wq {n:Nat} {l:List Nat} (aI:l.Nodup) (aq:l.length=n) (ai:∀ i∈l,i<n) :∀ i,i<n->i∈l:=by
 intro i aA;apply Classical.byContradiction;intro eG;have:=r9 (a:=i::l) (b:=List.range n) (List.nodup_cons.2 ⟨eG,aI⟩) (fun x aj=>by
  rw[List.mem_cons] at aj;rcases aj with rfl | aj
  ·exact List.mem_range.2 aA
  ·exact List.mem_range.2 (ai x aj))
 simp[aq] at this;omega
theorem WI {ids:List (List B)} {ops:List bH} (aI:ids.length=ops.length) (am:iN ids) :(m8 ids ops).length=ops.length<->∀ i,i<ops.length->ot ids ops i:=by
 obtain⟨h1,af,ap⟩:=zK ids ops aI am ops.length;constructor
 ·intro h i aA;exact (ap i (Wq h1 h (fun i aA=>(ap i aA).1) i aA)).2
 ·intro h;have mR:∀ k,k<=ops.length->(e3 ids ops k).length=k\/∃ m,m<=k/\ip ids ops (e3 ids ops m)=none:=by
   intro k
   induction k with
   | zero=>intro _; exact .inl rfl
   | succ k aK=>
    intro aE;rcases aK (by omega) with aH | ⟨m,hm,aH⟩
    ·cases aj:ip ids ops (e3 ids ops k) with
     | none=>exact .inr ⟨k,by omega,aj⟩
     | some i=>left; rw[zL aj]; simp[aH]
    ·exact .inr ⟨m,by omega,aH⟩
  rcases mR ops.length (Nat.le_refl _) with aH | ⟨m,hm,aH⟩
  ·exact aH
  ·have cm:e3 ids ops ops.length=e3 ids ops m:=by
    have:=J3 aH (ops.length - m)
    rwa [show m+(ops.length - m)=ops.length by omega] at this
   have eP:∀ i,ot ids ops i->i<ops.length->i∈e3 ids ops m:=by
    intro i az
    induction az with
    | mk i aA aF az aK=>
     intro aN;apply Classical.byContradiction;intro eG;refine ajr aH aN eG fun p zb=>?_
     obtain⟨j,pY⟩:=List.mem_iff_getElem?.1 (aF p zb);exact List.mem_map.2 ⟨j,aK p zb j pY (by have:=(List.getElem?_eq_some_iff.1 pY).1; omega),hw pY⟩
   show (e3 ids ops ops.length).length=ops.length;rw[cm];have bc:=r9 (a:=List.range ops.length) (b:=e3 ids ops m) List.nodup_range fun i aA=>eP i (h i (List.mem_range.1 aA)) (List.mem_range.1 aA)
   rw[List.length_range] at bc;rw[cm] at af;omega
theorem aeg (g:b2) (az:fZ g) (aC:eU g.ids.l=true) (x:List B) (aj:x.length=32) :bT Tryz.prog GS 122 [c6 g,.aS (a2 x)] (.bU [.int .i64 (uq g.ids.l x),.bool (decide (x∈g.ids.l))]) :=by
 refine ca Tryz.checked.mixed b3 ?_;apply bI OX Xu;unfold EU KF;have eA:=f2 g.ids;have da:=lW g.ops;have g4:=gZ x;have bE:=dm aj;have ar:=aac g.ids az.ids az.li x aj aC;obtain⟨X,dY⟩:∃ X,X=a2 x:=⟨_,rfl⟩
 rw[<-dY] at ar g4 bE ⊢;simp[c6,dA,bE,List.take_of_length_le];refine bv ar (by simp[bP,ae.closed,eA,g4]) ?_;simp;exact aZ rfl rfl
def gD (n:Nat) :List ae:=[.int .i64 (n:Int)]
def jk (b:Bool) :List ae:=[.bool b]
def gq {α:Type} (l:List α) :eh α:=match l with | []=>none | x::r=>some (x::r)
theorem iK {α:Type} (l:List α) :(gq l).l=l:=by cases l<;>rfl
theorem xJ {α:Type} (l:List α) :(gq l).isNone=l.isEmpty:=by cases l<;>rfl
def Hd (l:eh Nat) :ae:=cS 1 gD l
theorem ME {α:Type} (zero:ae) (n:Nat) :dp [zero] n=List.replicate n zero:=by
 rw[Dv]
 induction n with
 | zero=>rfl
 | succ n aK=>rw[List.replicate_succ,List.flatten_cons,aK,List.replicate_succ]; rfl
theorem C1 {z by_ n:Nat} {k k' : IntKind} {zero:List ae} {l:au} (aB:zero.length=z) (h1:n<9223372036854775808) (af:by_*n<=cJ) :
  pa z by_ zero l (.int k (n:Int)) (.int k' (n:Int))=some (.ao z l.length 0 n n (n*z),l++[.cells (n*z) (dp zero n)])/\bX z (l++[.cells (n*z) (dp zero n)]) (.ao z l.length 0 n n (n*z)) l.length (List.replicate n zero) :=by
 constructor
 ·have ap:(by_:Int)*(n:Int)<=(cJ:Int) :=by rw[<-Int.natCast_mul]; omega
  simp only[pa,Int.toNat_natCast];rw[if_pos ⟨by omega,by omega,by omega,ap⟩]
 ·refine .ao l.length n n (n*z) (dp zero n) _ (by rw[List.getElem?_append_right (Nat.le_refl _)]; simp) (by rw[z2,aB]) (by simp) (fun e aw=>by rw[List.eq_of_mem_replicate aw]; exact aB) (Nat.le_refl _) (Nat.le_refl _) ?_;rw[List.take_of_length_le (by rw[z2,aB]; omega),Dv]
def oA (n:Nat) (out:List Nat) :List Bool:=(List.range n).map fun i=>decide (i∈out)
theorem Be {n:Nat} {out:List Nat} {i:Nat} (h:i<n) :(oA n out)[i]? = some (decide (i∈out)) :=by
 unfold oA; rw[List.getElem?_map,List.getElem?_range h]; rfl
theorem ym (n:Nat) (out:List Nat) :(oA n out).length=n:=by simp[oA]
theorem adC {n:Nat} {out:List Nat} {i:Nat} (h:i<n) :(oA n out).set i true=oA n (out++[i]) :=by
 apply List.ext_getElem?;intro j;by_cases am:j<n
 ·rw[Be am,List.getElem?_set];by_cases iD:i=j
  ·subst iD; simp[ym,h]
  ·rw[if_neg iD,Be am];simp[Ne.symm iD]
 ·rw[List.getElem?_eq_none (by simp[ym]; omega),List.getElem?_eq_none (by simp[ym]; omega)]
theorem adB (n:Nat) :oA n []=List.replicate n false:=by
 apply List.ext_getElem?;intro j;by_cases am:j<n
 ·rw[Be am]; simp[am]
 ·rw[List.getElem?_eq_none (by simp[ym]; omega),List.getElem?_eq_none (by simp; omega)]
theorem one_cell {cs:List ae} {o:Nat} {c:ae} (h:(cs.drop o).take 1=[c]) :cs[o]? = some c:=by
 have h1:((cs.drop o).take 1)[0]? = some c:=by rw[h]; rfl
 rw[List.getElem?_take_of_lt (by omega),List.getElem?_drop] at h1;exact h1
structure abK (g:b2) (out:List Nat) (v3 v4 v5:ae) (rest:au) :Prop where
 ex:∃ kv i5 fI,bX 1 (.cells 2 (dA g) ::rest) v3 kv (out.map gD)/\bX 32 (.cells 2 (dA g) ::rest) v4 i5 ((out.map (cc g.ids.l)).map a2)/\bX 1 (.cells 2 (dA g) ::rest) v5 fI ((oA g.ops.l.length out).map jk) ∧
  1<=fI/\cT v5=false/\cT v3=out.isEmpty/\cT v4=out.isEmpty/\(out=[]\/(1<=kv/\1<=i5/\kv≠i5/\kv≠fI/\i5≠fI))
set_option maxHeartbeats 4000000 in
theorem aky (g:b2) (az:fZ g) (aq:g.ids.l.length=g.ops.l.length) (am:iN g.ids.l) :bT Tryz.prog GS 94 [c6 g] (Hd (gq (m8 g.ids.l g.ops.l))) :=by
 refine ca Tryz.checked.mixed b3 ?_;apply bI QS Zo;unfold GO Mt;have jR:cJ=140737488355328:=rfl;have eA:=f2 g.ids;have da:=lW g.ops;have dw:c9 (.ao 11) (b8 g.ops)=some (.int .i64 g.ops.l.length) :=by simp[b8]
 have bz:=az.cI;obtain⟨fG,jO⟩:=C1 (z:=1) (by_:=1) (n:=g.ops.l.length) (k:=.i64) (k':=.i64) (zero:=[ae.bool false]) (l:=[bg.cells 2 (dA g)]) rfl (by omega) (by rw[jR]; omega);simp only[dA,Nat.mul_one,ME (α:=Nat)] at fG jO;simp[c6,dA,dw,fG];refine vm (fun m ah l=>∃ (k:Nat) (rest:au),l=.cells 2 (dA g) ::rest/\ah 1=.ptr 0 0 2/\abK g (e3 g.ids.l g.ops.l k) (ah 3) (ah 4) (ah 5) rest ∧
  ((ah 6=.bool true/\(e3 g.ids.l g.ops.l k).length=k/\m=g.ops.l.length - k+1)\/(ah 6=.bool false/\ip g.ids.l g.ops.l (e3 g.ids.l g.ops.l k)=none/\k<=g.ops.l.length/\m=0))) ?_ (g.ops.l.length+1) _ _ ?_
 ·rintro m ah l ⟨k,rest,rfl,aV,mL,ar⟩;obtain⟨v3,bd⟩:∃ v,ah 3=v:=⟨_,rfl⟩
  obtain⟨v4,bD⟩:∃ v,ah 4=v:=⟨_,rfl⟩
  obtain⟨v5,br⟩:∃ v,ah 5=v:=⟨_,rfl⟩
  rw[bd,bD,br] at mL;obtain⟨out,jP⟩:∃ out,out=e3 g.ids.l g.ops.l k:=⟨_,rfl⟩
  rw[<-jP] at mL ar;obtain⟨y5,dG,Cd⟩:=zK g.ids.l g.ops.l aq am k;rw[<-jP] at y5 dG Cd;have dh:out.length<=g.ops.l.length:=by
   have:=r9 (b:=List.range g.ops.l.length) y5 (fun x aj=>List.mem_range.2 (Cd x aj).1);simpa using this
  rcases ar with ⟨cj,aE,rfl⟩ | ⟨cj,eG,fT,rfl⟩
  ·obtain⟨ah,rfl⟩:=kC aV bd bD br cj;clear aV bd bD br cj;unfold JD;simp;refine c0 g.ops.l.length (fun i ah l=>l=.cells 2 (dA g) ::rest/\ah 1=.ptr 0 0 2/\ah 3=v3/\ah 4=v4/\ah 5=v5/\ah 6=.bool false/\ah 7=.int .i64 i/\∀ j,j<i->nA g.ids.l g.ops.l out j=false) ?_ (by simp);rintro i ah l aA ⟨rfl,aV,bd,bD,br,cj,dU,ar⟩;obtain⟨ah,rfl⟩:=DO aV bd bD br cj dU;clear aV bd bD br cj dU;unfold V1;by_cases d2:i<g.ops.l.length
   ·obtain⟨o,ay,ek⟩:=ck d2;have a1:IntKind.i64.wrap ((i:Int)+1)=((i+1:Nat) :Int) :=by rw[IntKind.wrap_i64]; omega
    have cQ:cO (.ao 11) (b8 g.ops) (.int .i64 (i:Int))=some (.cn (bl o) 0) :=by simp[b8,ay]
    obtain⟨kv,i5,fI,pf,pg,hR,bc,jW,rU,pc,bJ⟩:=mL;obtain⟨WN,acP,sg,bn,bA,a3,a4⟩:=hR.q.get (k:=.i64) (i:=i) (e:=jk (decide (i∈out))) (by rw[List.getElem?_map,Be d2]; rfl);have a5:=one_cell (c:=.bool (decide (i∈out))) (by simpa [jk] using a4);have kX:=pg.qx (enc:=a2) (xs:=out.map (cc g.ids.l)) (fun x=>gZ x) (gq (out.map (cc g.ids.l))) (by rw[pc,xJ]; simp) (iK _);have agU:hS (gq (out.map (cc g.ids.l))) :=fun x aj=>by
     rw[iK] at aj;obtain⟨t,aU,rfl⟩:=List.mem_map.1 aj;obtain⟨y,aO,el⟩:=ck (l:=g.ids.l) (k:=t) (by have:=(Cd t aU).1; omega);rw[hw aO]; exact az.ids y el
    have eP:=Zu (gq (out.map (cc g.ids.l))) agU (by rw[iK]; simp; omega) o.bx (az.ops o ek).ids (az.ops o ek).len;rw[iK] at eP;have nK:=f2 o.bx;have yM:nA g.ids.l g.ops.l out i=(decide (i∉out)&&qV (out.map (cc g.ids.l)) o.bx.l) :=by unfold nA; rw[vx ay]
    simp only[dA] at bA pf pg hR kX;by_cases Ch:i∈out
    ·simp[dA,dw,d2,bn,bA,a5,Ch,a1];intro j am;by_cases l6:j=i
     ·subst l6; rw[yM]; simp[Ch]
     ·exact ar j (by omega)
    ·simp[dA,dw,d2,bn,bA,a5,Ch,a1,cQ,bl];refine ja eP (.cons kX (.cons (.same _ nK) .nil)) rfl ?_;by_cases f7:qV (out.map (cc g.ids.l)) o.bx.l=true
     ·rw[f7] at yM;obtain⟨y,aO,el⟩:=ck (l:=g.ids.l) (k:=i) (by omega);have yW:cO (.ao 32) (a8 g.ids) (.int .i64 (i:Int))=some (.cn (a2 y) 0) :=by simp[a8,aO]
      have fc:=dm (az.ids y el);obtain⟨Y,gj⟩:∃ Y,Y=a2 y:=⟨_,rfl⟩
      rw[<-gj] at yW fc;have aht:bS (rep 32 (.int .u8 0)) 0 Y=Y:=hb (by rw[fc]; rfl);obtain⟨l1,fF⟩:∃ l1,l1=bg.cells 2 [a8 g.ids,b8 g.ops] ::(rest++[bg.cells 1 [ae.int IntKind.i64 (i:Int)],bg.cells 32 Y]) :=⟨_,rfl⟩
      have Im:l1.length=rest.length+3:=by rw[fF]; simp
      have tq:bX 1 l1 v3 kv (out.map gD) :=by rw[fF]; exact pf.more _
      have JK:bX 32 l1 v4 i5 ((out.map (cc g.ids.l)).map a2) :=by rw[fF]; exact pg.more _
      have ai0:bX 1 l1 v5 fI ((oA g.ops.l.length out).map jk) :=by rw[fF]; exact hR.more _
      have rx:out=[]->v3=.a6/\v4=.a6:=fun h=>by rw[h] at rU pc; exact⟨i4.1 rU,i4.1 pc⟩
      have asp:fI<rest.length+1:=by
       rcases hR.lt with h | h
       ·rw[h] at jW; cases jW
       ·simpa using h
      obtain⟨kv,tq,q1,hz,r2,Xa⟩:∃ kv,bX 1 l1 v3 kv (out.map gD)/\1<=kv/\kv≠fI/\(out=[]\/kv≠i5)/\(kv<rest.length+1\/l1.length<=kv) :=by
       by_cases h:out=[]
       ·have ax:=(rx h).1;rw[ax,h];exact⟨l1.length,.nil _,by omega,by omega,.inl rfl,.inr (Nat.le_refl _)⟩
       ·obtain⟨h1,af,ap,aH,bc⟩:=bJ.resolve_left h;refine⟨kv,tq,h1,aH,.inr ap,.inl ?_⟩;rcases pf.lt with fb | fb
        ·rw[fb] at rU;cases out with
         | nil=>exact absurd rfl h
         | cons=>cases rU
        ·simpa using fb
      obtain⟨aaZ,ti,cg,aV,aY,bd,bD,br,cj⟩:=mF (by_:=8) tq (x:=.ao 1 (rest.length+1) 0 1 1 1) (xs:=[gD i]) (by rw[fF]; simp[df,gD]) (by simp[gD]) (by omega) (by omega) (by rw[jR]; simp; omega);obtain⟨e8,rfl⟩:∃ e8,cg=bg.cells 2 [a8 g.ids,b8 g.ops] ::e8:=zJ (by rw[bD 0 (by omega) (by omega),fF]; rfl);have HO:(bg.cells 2 [a8 g.ids,b8 g.ops] ::e8)[rest.length+2]? = some (.cells 32 Y) :=by rw[bD (rest.length+2) (by omega) (by omega),fF]; simp
      have e6:(bg.cells 2 [a8 g.ids,b8 g.ops] ::e8)[rest.length+1]? = some (.cells 1 [.int .i64 (i:Int)]) :=by rw[bD (rest.length+1) (by omega) (by omega),fF]; simp
      have im:=ai0.frame (l':=bg.cells 2 [a8 g.ids,b8 g.ops] ::e8) (fun h=>bD fI h (Ne.symm hz));rw[fF] at aV;simp[f7,yW,fc,aht,List.take_of_length_le,aV];refine du.cM ?_;simp;have SM:e8[rest.length+1]? = some (.cells 32 Y) :=by simpa using HO
      refine⟨⟨SM,by omega,List.take_of_length_le (by omega)⟩,?_⟩;have Uq:aaZ≠.a6:=fun h=>by have:=(cj.1 h).2; cases this
      have aqn:ti<e8.length+1:=by have:=aY.lt.resolve_left Uq; simpa using this
      have Ig:1<=ti/\ti≠fI:=by rcases br with h | h<;>omega
      obtain⟨i5,JK,ng,qD,t3,t4⟩:∃ i5,bX 32 (bg.cells 2 [a8 g.ids,b8 g.ops] ::e8) v4 i5 ((out.map (cc g.ids.l)).map a2)/\1<=i5/\i5≠fI/\i5≠ti/\(i5<e8.length+1\/e8.length+1<=i5) :=by
       by_cases h:out=[]
       ·have ax:=(rx h).2;rw[ax,h];simp at bd;exact⟨e8.length+1,.nil _,by omega,by omega,by omega,.inr (Nat.le_refl _)⟩
       ·obtain⟨h1,af,ap,aH,bc⟩:=bJ.resolve_left h;have bM:i5<rest.length+1:=by
         rcases pg.lt with fb | fb
         ·rw[fb] at pc;cases out with
          | nil=>exact absurd rfl h
          | cons=>cases pc
         ·simpa using fb
        have eE:=r2.resolve_left h;refine⟨i5,JK.frame (fun h=>bD i5 h (Ne.symm eE)),af,bc,by rcases br with h | h<;>omega,.inl (by simp at bd; omega)⟩
      obtain⟨aa0,tj,eS,h2,pL,RN,f4,ad9,f6⟩:=mF (by_:=32) JK (x:=.ao 32 (rest.length+1+1) 0 1 1 32) (xs:=[Y]) (by simp[df,fc,SM,List.take_of_length_le]) (by simp[fc]) (by omega) (by omega) (by rw[jR]; simp; omega);obtain⟨vy,rfl⟩:∃ vy,eS=bg.cells 2 [a8 g.ids,b8 g.ops] ::vy:=zJ (by rw[f4 0 (by simp) (by omega)]; rfl);have Ur:aa0≠.a6:=fun h=>by have:=(f6.1 h).2; cases this
      have aqo:tj<vy.length+1:=by have:=pL.lt.resolve_left Ur; simpa using this
      have ef:=aY.frame (l':=bg.cells 2 [a8 g.ids,b8 g.ops] ::vy) (fun h=>f4 ti h (Ne.symm t3));have t1:=im.frame (l':=bg.cells 2 [a8 g.ids,b8 g.ops] ::vy) (fun h=>f4 fI h (Ne.symm qD));obtain⟨p,n4,j0,k8,Am,An,xP⟩:=WK (k:=i) (x:=true) (X:=.bool true) (enc:=jk) rfl t1 (fun _ _=>rfl) (by rw[ym]; exact d2) rfl;simp[h2];refine du.cM ?_;simp[j0,k8];have Hi:tj=i5\/e8.length+1<=tj:=by simpa using ad9
      have apK:rest.length+3<=e8.length+1:=by rw[Im] at bd; simpa using bd
      have om:1<=tj:=by rcases Hi with h | h<;>omega
      have jH:tj≠fI:=by rcases Hi with h | h<;>omega
      have z3:ti≠tj:=by rcases Hi with h | h<;>omega
      obtain⟨vz,rfl⟩:∃ vz,n4=bg.cells 2 [a8 g.ids,b8 g.ops] ::vz:=zJ (by rw[xP 0 (by omega)]; rfl);have mY:ip g.ids.l g.ops.l out=some i:=ajp d2 (by rw[yM]; simp[Ch]) ar;have s4:e3 g.ids.l g.ops.l (k+1)=out++[i] :=by rw[zL (by rw[<-jP]; exact mY),<-jP]
      have aN:k<g.ops.l.length:=by
       have fb:=(zK g.ids.l g.ops.l aq am (k+1)).1;rw[s4] at fb;have:=r9 (b:=List.range g.ops.l.length) fb (fun x aj=>List.mem_range.2 (by
        rw[List.mem_append,List.mem_singleton] at aj;rcases aj with aj | rfl
        ·exact (Cd x aj).1
        ·exact d2))
       simp at this; omega
      have dO:(out++[i]).map gD=out.map gD++[gD i] :=by simp
      have ke:((out++[i]).map (cc g.ids.l)).map a2=(out.map (cc g.ids.l)).map a2++[Y] :=by
       have agd:cc g.ids.l i=y:=hw aO;rw[List.map_append,List.map_append,List.map_singleton,List.map_singleton,agd,gj]
      refine⟨g.ops.l.length - (k+1)+1,by omega,k+1,vz,rfl,?_,by rw[s4]; simp[aE],rfl⟩;rw[s4];refine⟨⟨ti,tj,fI,?_,?_,?_,bc,jW,?_,?_,.inr ⟨Ig.1,om,z3,Ig.2,jH⟩⟩⟩
      ·rw[dO]; exact ef.frame (fun h=>xP ti Ig.2)
      ·rw[ke]; exact pL.frame (fun h=>xP tj jH)
      ·rw[<-adC d2]; exact Am
      ·cases ax:cT aaZ with
       | true=>exact absurd (i4.1 ax) Uq
       | false=>simp
      ·cases ax:cT aa0 with
       | true=>exact absurd (i4.1 ax) Ur
       | false=>simp
     ·rw[Bool.not_eq_true] at f7;rw[f7] at yM;simp[f7,d2,a1];refine⟨rfl,fun j am=>?_⟩;by_cases l6:j=i
      ·subst l6; rw[yM]; simp
      ·exact ar j (by omega)
   ·have aqm:i=g.ops.l.length:=by omega
    simp[dA,dw,d2];have eG:ip g.ids.l g.ops.l out=none:=ajq fun j am=>ar j (by omega)
    refine⟨0,by omega,k,by rw[<-jP]; exact mL,by rw[<-jP]; exact eG,by omega,rfl⟩
  ·obtain⟨ah,rfl⟩:=kC aV bd bD br cj;clear aV bd bD br cj;unfold JD;simp;obtain⟨kv,i5,fI,pf,pg,hR,bc,jW,rU,pc,bJ⟩:=mL;have cm:m8 g.ids.l g.ops.l=out:=by
    unfold m8;have:=J3 (k:=k) (by rw[<-jP]; exact eG) (g.ops.l.length - k);rw[show k+(g.ops.l.length - k)=g.ops.l.length by omega,<-jP] at this;exact this
   rw[cm];exact pf.q.vC (fun x=>rfl) (gq out) (by rw[rU,xJ]) (iK _)
 ·refine⟨0,_,rfl,by simp,?_,.inl ⟨by simp,rfl,rfl⟩⟩;simp;refine⟨⟨0,0,1,.nil 0,.nil 0,?_,by omega,rfl,rfl,rfl,.inl rfl⟩⟩;show bX _ _ _ _ ((oA g.ops.l.length []).map jk);have:(oA g.ops.l.length []).map jk=List.replicate g.ops.l.length [ae.bool false] :=by rw[adB,List.map_replicate]; rfl
  rw[this];exact jO
def tx (ids:List (List B)) (ops:List bH) :Bool:=decide (∀ o∈ops,qV ids o.bx.l=true)
def lN (ids:List (List B)) (ops:List bH) :Int:=if eU ids=true then (if tx ids ops=true then (if (m8 ids ops).length=ops.length then 0 else 36) else 40) else 32
theorem akE (g:b2) (az:fZ g) (aq:g.ids.l.length=g.ops.l.length) :bT Tryz.prog GS 62 [c6 g] (.int .i64 (lN g.ids.l g.ops.l)) :=by
 refine ca Tryz.checked.mixed b3 ?_;apply bI Qu Y0;unfold Gn L6;have eA:=f2 g.ids;have da:=lW g.ops;have mP:=A9 g;have dw:c9 (.ao 11) (b8 g.ops)=some (.int .i64 g.ops.l.length) :=by simp[b8]
 have bz:=az.cI;have Cw:=ZA g.ids az.ids az.li;simp[c6,dA,dw];refine bv Cw (by simp[bP,eA]) ?_;by_cases aC:eU g.ids.l=true
 ·have am:=th aC;have lz:=aky g az aq am;unfold c6 dA at lz mP;simp[aC];refine c0 g.ops.l.length (fun k ah l=>l=[.cells 2 [a8 g.ids,b8 g.ops]]/\ah 1=.ptr 0 0 2/\ah 3=.int .i64 k/\∀ (j:Nat) (o:bH),j<k->g.ops.l[j]? = some o->qV g.ids.l o.bx.l=true) ?_ (by simp);rintro k ah l aE ⟨rfl,aV,bd,ar⟩;obtain⟨ah,rfl⟩:=oj aV bd;clear aV bd;unfold VN;by_cases cC:k<g.ops.l.length
  ·obtain⟨o,ay,ek⟩:=ck cC;have a1:IntKind.i64.wrap ((k:Int)+1)=((k+1:Nat) :Int) :=by rw[IntKind.wrap_i64]; omega
   have cQ:cO (.ao 11) (b8 g.ops) (.int .i64 (k:Int))=some (.cn (bl o) 0) :=by simp[b8,ay]
   have eP:=Zu g.ids az.ids az.li o.bx (az.ops o ek).ids (az.ops o ek).len;have nK:=f2 o.bx;simp[dw,cC,cQ,bl];refine bv eP (by simp[bP,eA,nK]) ?_;by_cases f7:qV g.ids.l o.bx.l=true
   ·simp[f7,cC,a1];intro j ci et dr;by_cases hu:j=k
    ·subst hu; rw[ay] at dr; obtain rfl:=Option.some.inj dr; exact f7
    ·exact ar j ci (by omega) dr
   ·rw[Bool.not_eq_true] at f7;simp[f7];refine aZ (congrArg (ae.int .i64) ?_) rfl;have eG:¬ tx g.ids.l g.ops.l=true:=fun h=>by
     have:=of_decide_eq_true h o ek;rw[f7] at this; cases this
    unfold lN;rw[if_pos aC,if_neg eG]
  ·have l7:k=g.ops.l.length:=by omega
   have f9:tx g.ids.l g.ops.l=true:=decide_eq_true fun o ek=>by
    obtain⟨j,et⟩:=List.mem_iff_getElem?.1 ek;exact ar j o (by rw[l7]; exact (List.getElem?_eq_some_iff.1 et).1) et
   have dv:(m8 g.ids.l g.ops.l).length<=g.ops.l.length:=(zK g.ids.l g.ops.l aq am _).2.1;have oR:c9 (.ao 1) (Hd (gq (m8 g.ids.l g.ops.l)))=some (.int .i64 (m8 g.ids.l g.ops.l).length) :=by unfold Hd; rw[o6,iK]
   simp[dw,cC];refine bv lz (by simp[bP,mP]) ?_;by_cases aN:(m8 g.ids.l g.ops.l).length<g.ops.l.length
   ·simp[dw,oR,aN];refine aZ (congrArg (ae.int .i64) ?_) rfl;unfold lN;rw[if_pos aC,if_pos f9,if_neg (by omega)]
   ·simp[dw,oR,aN];refine aZ (congrArg (ae.int .i64) ?_) rfl;unfold lN;rw[if_pos aC,if_pos f9,if_pos (by omega)]
 ·rw[Bool.not_eq_true] at aC;simp[aC];refine aZ (congrArg (ae.int .i64) ?_) rfl;unfold lN;rw[aC]; rfl
def kL (g:b2) (k:Nat) :Bool:=match g.ops.l[k]?,g.ids.l[k]? with
 | some o,some x=>decide (po o=0)&&decide (kt o=x)
 | _,_=>true
def uz (g:b2) :Bool:=decide (∀ k,k<g.ops.l.length->kL g k=true)
theorem wA (g:b2) :uz g=true<->∀ k,k<g.ops.l.length->kL g k=true:=by unfold uz; rw[decide_eq_true_eq]
def fQ (g:b2) :Int:=if 60<g.ops.l.length then 4 else if g.ids.l.length=g.ops.l.length then (if uz g=true then lN g.ids.l g.ops.l else 8) else 8
theorem By {g:b2} {k:Nat} {o:bH} {x:List B} (ay:g.ops.l[k]? = some o) (aj:g.ids.l[k]? = some x) :kL g k=(decide (po o=0)&&decide (kt o=x)) :=by
 unfold kL; rw[ay,aj]
theorem DP {o:bH} (h:po o=0) :fX o=0:=by
 unfold po at h;by_cases aQ:fX o=0
 ·exact aQ
 ·rw[if_neg aQ] at h; exact h
theorem Jc (o:bH) :(kt o).length=32:=by
 unfold kt;split
 ·exact tO _
 ·simp
set_option maxHeartbeats 4000000 in
theorem akn (g:b2) (az:fZ g) :bT Tryz.prog GS 28 [c6 g] (.int .i64 (fQ g)) :=by
 refine ca Tryz.checked.mixed b3 ?_;apply bI P8 YF;unfold F4 LM;have eA:=f2 g.ids;have da:=lW g.ops;have mP:=A9 g;have dw:c9 (.ao 11) (b8 g.ops)=some (.int .i64 g.ops.l.length) :=by simp[b8]
 have h5:c9 (.ao 32) (a8 g.ids)=some (.int .i64 g.ids.l.length) :=by simp[a8]
 have bz:=az.cI;by_cases oD:60<(g.ops.l.length:Int)
 ·simp[c6,dA,dw,oD];refine aZ (congrArg (ae.int .i64) ?_) rfl;unfold fQ; rw[if_pos (by omega)]
 by_cases aq:g.ids.l.length=g.ops.l.length
 ·have m0:=akE g az aq;unfold c6 dA at m0 mP;have cZ:(g.ids.l.length:Int)=(g.ops.l.length:Int) :=by omega
  simp[c6,dA,dw,h5,oD,cZ];refine c0 g.ops.l.length (fun k ah l=>l=[.cells 2 [a8 g.ids,b8 g.ops]]/\ah 1=.ptr 0 0 2/\ah 3=.int .i64 k/\∀ j,j<k->kL g j=true) ?_ (by simp);rintro k ah l aE ⟨rfl,aV,bd,ar⟩;obtain⟨ah,rfl⟩:=oj aV bd;clear aV bd;unfold VF;by_cases cC:k<g.ops.l.length
  ·obtain⟨o,ay,ek⟩:=ck cC;obtain⟨x,aj,dV⟩:=ck (l:=g.ids.l) (k:=k) (by omega);have pV:=By ay aj;have a1:IntKind.i64.wrap ((k:Int)+1)=((k+1:Nat) :Int) :=by rw[IntKind.wrap_i64]; omega
   have cQ:cO (.ao 11) (b8 g.ops) (.int .i64 (k:Int))=some (.cn (bl o) 0) :=by simp[b8,ay]
   have uR:cO (.ao 32) (a8 g.ids) (.int .i64 (k:Int))=some (.cn (a2 x) 0) :=by simp[a8,aj]
   have ax:=akK o (az.ops o ek);have l5:=kb o;have bE:=dm (az.ids x dV);have dh:(bl o).length=11:=rfl;have oG:¬ kL g k=true->fQ g=8:=fun h=>by
    unfold fQ;rw[if_neg (by omega),if_pos aq,if_neg fun aR=>h ((wA g).1 aR k cC)]
   by_cases p8:po o=0
   ·have aQ:=DP p8;have kV:=akv o (az.ops o ek) (by have:=xx aQ; omega);have jM:kt o=hA (hh o) :=by unfold kt; rw[if_pos aQ]
    rw[<-jM] at kV;have heq:=CL (Jc o) (az.ids x dV);change bT Tryz.prog GS 32 [.aS (bl o)] (.aS (a2 (kt o))) at kV;obtain⟨I,mL⟩:∃ I,I=a2 (kt o) :=⟨_,rfl⟩
    rw[<-mL] at kV heq;rw[p8] at ax;obtain⟨O,ej⟩:∃ O,O=bl o:=⟨_,rfl⟩
    obtain⟨X,dY⟩:∃ X,X=a2 x:=⟨_,rfl⟩
    rw[<-ej] at cQ ax kV l5 dh;rw[<-dY] at uR bE heq;simp[dw,cC,cQ,dh,List.take_of_length_le];refine bv ax (by simp[bP,ae.closed,l5]) ?_;simp[dh,uR,bE,cQ,List.take_of_length_le];refine bv kV (by simp[bP,ae.closed,l5]) ?_;by_cases fS:kt o=x
    ·simp[heq,fS,cC,a1,bE,List.take_of_length_le];intro j am;by_cases hu:j=k
     ·subst hu; rw[pV]; simp[p8,fS]
     ·exact ar j (by omega)
    ·have ai:¬ kL g k=true:=fun h=>by rw[pV] at h; simp[fS] at h
     simp[heq,fS,bE,List.take_of_length_le];exact aZ (congrArg (ae.int .i64) (oG ai).symm) rfl
   ·have ai:¬ kL g k=true:=fun h=>by rw[pV] at h; simp[p8] at h
    simp[dw,cC,cQ,dh,List.take_of_length_le];refine bv ax (by simp[bP,ae.closed,l5]) ?_;simp[p8];exact aZ (congrArg (ae.int .i64) (oG ai).symm) rfl
  ·have l7:k=g.ops.l.length:=by omega
   simp[dw,cC];refine bv m0 (by simp[bP,mP]) ?_;simp;refine aZ (congrArg (ae.int .i64) ?_) rfl;unfold fQ;rw[if_neg (by omega),if_pos aq,if_pos ((wA g).2 fun j am=>ar j (by omega))]
 ·have cZ:¬ (g.ids.l.length:Int)=(g.ops.l.length:Int) :=by omega
  simp[c6,dA,dw,h5,oD,cZ];refine aZ (congrArg (ae.int .i64) ?_) rfl;unfold fQ; rw[if_neg (by omega),if_neg aq]
def mT (ids:List (List B)) (D:List Nat) (p:List B) :Nat:=(D.map fun a=>if p == cc ids a then 1 else 0).sum
def k7 (ids:List (List B)) (D:List Nat) (L:List (List B)) :Nat:=(D.map fun a=>L.count (cc ids a)).sum
theorem amg (ids:List (List B)) (D:List Nat) :k7 ids D []=0:=by
 unfold k7
 induction D with
 | nil=>rfl
 | cons a D aK=>rw[List.map_cons,List.sum_cons,aK]; rfl
theorem aat (ids:List (List B)) (p:List B) (L:List (List B)) :∀ D,k7 ids D (p::L)=k7 ids D L+mT ids D p
 | []=>rfl
 | a::D=>by
  have aK:=aat ids p L D;unfold k7 mT at aK ⊢;rw[List.map_cons,List.sum_cons,List.map_cons,List.sum_cons,List.map_cons,List.sum_cons,aK,List.count_cons];omega
theorem M9 (ids:List (List B)) (D:List Nat) (a:Nat) (L:List (List B)) :k7 ids (D++[a]) L=k7 ids D L+L.count (cc ids a) :=by
 unfold k7; rw[List.map_append,List.sum_append]; simp
theorem Oc {ids:List (List B)} (am:iN ids) {i j:Nat} (aA:i<ids.length) (eQ:j<ids.length) (h:cc ids i=cc ids j) :i=j:=by
 obtain⟨x,aj,_⟩:=ck aA;obtain⟨y,aO,_⟩:=ck eQ;rw[hw aj,hw aO] at h;subst h;exact am i j x aj aO
theorem Tu {ids:List (List B)} {p:List B}:∀ {D:List Nat},(∀ a∈D,cc ids a≠p)->mT ids D p=0
 | [],_=>rfl
 | a::D,h=>by
  have aK:=Tu (ids:=ids) (p:=p) (D:=D) fun b ai=>h b (by simp[ai])
  have aG:(p == cc ids a)=false:=by rw[beq_eq_false_iff_ne]; exact Ne.symm (h a (by simp))
  unfold mT at aK ⊢;rw[List.map_cons,List.sum_cons,aK,aG]; rfl
theorem Tt {ids:List (List B)} (am:iN ids) {p:List B}:∀ {D:List Nat},D.Nodup->(∀ a∈D,a<ids.length)->mT ids D p<=1/\(mT ids D p=1<->∃ a∈D,cc ids a=p)
 | [],_,_=>⟨Nat.zero_le _,Iff.intro (fun h=>(by cases h)) (fun ⟨a,aG,_⟩=>(by cases aG))⟩
 | a::D,aI,ai=>by
  rw[List.nodup_cons] at aI;obtain⟨dP,en⟩:=Tt (p:=p) am aI.2 (fun b bL=>ai b (by simp[bL]));by_cases h:cc ids a=p
  ·have aB:mT ids D p=0:=Tu fun b SS BX=>aI.1 (by rw[Oc am (ai a (by simp)) (ai b (by simp[SS])) (h.trans BX.symm)]; exact SS)
   have aG:(p == cc ids a)=true:=by rw[h]; simp
   have e:mT ids (a::D) p=1:=by
    unfold mT at aB ⊢;rw[List.map_cons,List.sum_cons,aB,aG]; rfl
   rw[e];exact⟨Nat.le_refl _,fun _=>⟨a,by simp,h⟩,fun _=>rfl⟩
  ·have aG:(p == cc ids a)=false:=by rw[beq_eq_false_iff_ne]; exact Ne.symm h
   have e:mT ids (a::D) p=mT ids D p:=by
    unfold mT;rw[List.map_cons,List.sum_cons,aG]; simp
   rw[e];refine⟨dP,en.trans ⟨fun ⟨b,gG,e6⟩=>⟨b,by simp[gG],e6⟩,fun ⟨b,gG,e6⟩=>?_⟩⟩;rw[List.mem_cons] at gG;rcases gG with rfl | gG
   ·exact absurd e6 h
   ·exact⟨b,gG,e6⟩
theorem Na {ids:List (List B)} (am:iN ids) {D:List Nat} (aI:D.Nodup) (ai:∀ a∈D,a<ids.length) :∀ L:List (List B),k7 ids D L<=L.length/\(k7 ids D L=L.length<->∀ p∈L,∃ a∈D,cc ids a=p)
 | []=>by rw[amg]; exact⟨Nat.le_refl _,Iff.intro (fun _ p aF=>by cases aF) (fun _=>rfl)⟩
 | p::L=>by
  obtain⟨dP,en⟩:=Na am aI ai L;obtain⟨h1,af⟩:=Tt (p:=p) am aI ai;rw[aat,List.length_cons];refine⟨by omega,fun h=>?_,fun h=>?_⟩
  ·have a1:k7 ids D L=L.length:=by omega
   have b7:mT ids D p=1:=by omega
   intro q bp;rw[List.mem_cons] at bp;rcases bp with rfl | bp
   ·exact af.1 b7
   ·exact en.1 a1 q bp
  ·have a1:=en.2 fun q bp=>h q (by simp[bp])
   have b7:=af.2 (h p (by simp));omega
structure D1 (ids:List (List B)) (ops:List bH) (cr:List (List Nat)) :Prop where
 len:cr.length=ops.length
 cnt:∀ (a:Nat) (row:List Nat),cr[a]? = some row->∀ k,k<ops.length->row.count k=(c7 ops k).count (cc ids a)
 lt:∀ (a:Nat) (row:List Nat),cr[a]? = some row->∀ k∈row,k<ops.length
structure py (ids:List (List B)) (ops:List bH) (row:List Nat) (d j:Nat) (R:List Nat) (W:List Int) :Prop where
 jX:R.Nodup
 mK:∀ k∈R,k<ops.length/\ot ids ops k
 dl:d<=R.length
 wl:W.length=ops.length
 w:∀ k,k<ops.length->W[k]? = some (((c7 ops k).length:Int) - k7 ids (R.take d) (c7 ops k) - (row.take j).count k)
 r:∀ k,k<ops.length->(k∈R<->W[k]? = some 0)
theorem aiy {ids:List (List B)} {ops:List bH} (aq:ids.length=ops.length) (am:iN ids) {cr:List (List Nat)} (ai:D1 ids ops cr) {a:Nat} {row:List Nat} {d j:Nat} {R:List Nat} {W:List Int}
  (h:py ids ops row d j R W) (aG:R[d]? = some a) (cB:cr[a]? = some row) {k:Nat} (aE:row[j]? = some k) :
  ∃ x:Int,W[k]? = some x/\1<=x/\x<=(c7 ops k).length/\py ids ops row d (j+1) (if x - 1=0 then R++[k] else R) (W.set k (x - 1)) :=by
 have fT:=ai.lt a row cB k (List.mem_of_getElem? aE);have B1:=ai.cnt a row cB k fT;have uO:=(List.getElem?_eq_some_iff.1 aG).1;have jy:R.take (d+1)=R.take d++[a] :=by rw[List.take_add_one,aG]; rfl
 have agG:(R.take (d+1)).Nodup:=List.Sublist.nodup (List.take_sublist _ _) h.jX;have nP:∀ b∈R.take (d+1),b<ids.length:=fun b bL=>by have:=(h.mK b (List.mem_of_mem_take bL)).1; omega
 obtain⟨dC,mq⟩:=Na am agG nP (c7 ops k);rw[jy,M9,<-B1] at dC;have jr:(row.take (j+1)).count k=(row.take j).count k+1:=by
  rw[List.take_add_one,aE,List.count_append]; simp
 have js:(row.take (j+1)).count k<=row.count k:=List.Sublist.count_le _ (List.take_sublist _ _);have bt:=h.w k fT;obtain⟨x,aj⟩:∃ x:Int,x=((c7 ops k).length:Int) - k7 ids (R.take d) (c7 ops k) - (row.take j).count k:=⟨_,rfl⟩
 rw[<-aj] at bt;have xf:1<=x:=by omega
 have TC:k∉R:=fun hm=>by
  have:=(h.r k fT).1 hm;rw[bt] at this;have:=Option.some.inj this;omega
 refine⟨x,bt,xf,by omega,?_⟩;have TD:k<W.length:=by rw[h.wl]; exact fT
 have zg:(if x - 1=0 then R++[k] else R).take d=R.take d:=by
  split
  ·rw[List.take_append_of_le_length (by omega)]
  ·rfl
 have nT:x - 1=0->ot ids ops k:=fun aQ=>by
  have heq:k7 ids (R.take (d+1)) (c7 ops k)=(c7 ops k).length:=by rw[jy,M9,<-B1]; omega
  have eP:=mq.1 heq;have eB:∀ t,t<ids.length->ids[t]? = some (cc ids t) :=fun t aU=>by
   obtain⟨y,aO,_⟩:=ck (l:=ids) aU;rw[aO,hw aO]
  refine .mk k (by omega) (fun p aF=>?_) fun p aF i1 fr=>?_
  ·obtain⟨t,aU,rfl⟩:=eP p aF;exact List.mem_of_getElem? (eB t (nP t aU))
  ·obtain⟨t,aU,rfl⟩:=eP p aF;rw[am i1 t _ fr (eB t (nP t aU))];exact (h.mK t (List.mem_of_mem_take aU)).2
 refine⟨?_,fun y aO=>?_,?_,by simpa using h.wl,fun y aO=>?_,fun y aO=>?_⟩
 ·split
  ·rw[List.nodup_append];refine⟨h.jX,by simp,fun u aL v ax e=>?_⟩;rw[List.mem_singleton] at ax;subst e;rw[ax] at aL;exact TC aL
  ·exact h.jX
 ·split at aO
  ·rename_i aQ;rw[List.mem_append,List.mem_singleton] at aO;rcases aO with aO | rfl
   ·exact h.mK y aO
   ·exact⟨fT,nT aQ⟩
  ·exact h.mK y aO
 ·split
  ·simp; have:=h.dl; omega
  ·exact h.dl
 ·rw[zg,List.getElem?_set];by_cases uT:k=y
  ·subst uT;rw[if_pos rfl,if_pos TD,jr];congr 1;omega
  ·rw[if_neg uT,h.w y aO,List.take_add_one,aE,List.count_append];have:([k] :List Nat).count y=0:=by rw[List.count_singleton]; simp[uT]
   simp only[Option.toList_some,this,Nat.add_zero]
 ·rw[List.getElem?_set];by_cases uT:k=y
  ·subst uT;rw[if_pos rfl,if_pos TD];by_cases aQ:x - 1=0
   ·rw[if_pos aQ]; simp[aQ]
   ·rw[if_neg aQ];exact⟨fun hm=>absurd hm TC,fun aR=>absurd (Option.some.inj aR) aQ⟩
  ·rw[if_neg uT,<-h.r y aO];split
   ·rw[List.mem_append,List.mem_singleton];exact⟨fun h=>h.resolve_right (Ne.symm uT),.inl⟩
   ·exact Iff.rfl
theorem aiv {ids:List (List B)} {ops:List bH} {cr:List (List Nat)} (ai:D1 ids ops cr) {a:Nat} {row r6:List Nat} {d:Nat} {R:List Nat} {W:List Int}
  (h:py ids ops row d row.length R W) (aG:R[d]? = some a) (cB:cr[a]? = some row) :py ids ops r6 (d+1) 0 R W:=by
 have jy:R.take (d+1)=R.take d++[a] :=by rw[List.take_add_one,aG]; rfl
 refine⟨h.jX,h.mK,(List.getElem?_eq_some_iff.1 aG).1,h.wl,fun k aE=>?_,h.r⟩;rw[h.w k aE,jy,M9,List.take_length,ai.cnt a row cB k aE,List.take_zero,List.count_nil];congr 1;omega
theorem aiw {ids:List (List B)} {ops:List bH} {row r6:List Nat} {d:Nat} {R:List Nat} {W:List Int} (h:py ids ops row d 0 R W) :py ids ops r6 d 0 R W:=
 ⟨h.jX,h.mK,h.dl,h.wl,fun k aE=>by rw[h.w k aE,List.take_zero,List.take_zero],h.r⟩
theorem aix {ids:List (List B)} {ops:List bH} (aq:ids.length=ops.length) :py ids ops [] 0 0 ((List.range ops.length).filter fun k=>(c7 ops k).isEmpty) ((List.range ops.length).map fun k=>((c7 ops k).length:Int)) :=by
 refine⟨List.Sublist.nodup List.filter_sublist List.nodup_range,fun k aE=>?_,Nat.zero_le _,by simp,fun k aE=>?_,fun k aE=>?_⟩
 ·rw[List.mem_filter,List.mem_range] at aE;have aQ:c7 ops k=[] :=List.isEmpty_iff.1 aE.2;exact⟨aE.1,.mk k (by omega) (fun p aF=>by rw[aQ] at aF; cases aF) fun p aF=>by rw[aQ] at aF; cases aF⟩
 ·rw[List.getElem?_map,List.getElem?_range aE];simp[k7]
 ·rw[List.mem_filter,List.mem_range,List.getElem?_map,List.getElem?_range aE];simp only[Option.map_some,Option.some.injEq,aE,true_and,List.isEmpty_iff];constructor
  ·intro h; rw[h]; rfl
  ·intro h; exact List.length_eq_zero_iff.1 (by omega)
theorem aiu {ids:List (List B)} {ops:List bH} (aq:ids.length=ops.length) (am:iN ids) {row:List Nat} {R:List Nat} {W:List Int} (h:py ids ops row R.length 0 R W) :
  R.length<=ops.length/\(R.length=ops.length<->(m8 ids ops).length=ops.length) :=by
 have dv:R.length<=ops.length:=by
  have:=r9 (b:=List.range ops.length) h.jX fun x aj=>List.mem_range.2 (h.mK x aj).1
  simpa using this
 refine⟨dv,?_⟩;rw[WI aq am];constructor
 ·intro aw i aA;exact (h.mK i (Wq h.jX aw (fun i aA=>(h.mK i aA).1) i aA)).2
 ·intro eP;have d2:∀ i,ot ids ops i->i<ops.length->i∈R:=by
   intro i az
   induction az with
   | mk i aA aF az aK=>
    intro aN;rw[h.r i aN,h.w i aN,List.take_length];have BN:=(Na am h.jX (fun a aG=>by have:=(h.mK a aG).1; omega) (c7 ops i)).2.2 fun p zb=>by
     obtain⟨cD,et⟩:=List.mem_iff_getElem?.1 (aF p zb);exact⟨cD,aK p zb cD et (by have:=(List.getElem?_eq_some_iff.1 et).1; omega),hw et⟩
    rw[BN];simp
  have:=r9 (a:=List.range ops.length) (b:=R) List.nodup_range fun i aA=>d2 i (eP i (List.mem_range.1 aA)) (List.mem_range.1 aA)
  simp at this;omega
structure jI (l:au) (vs:List ae) (cr:List (List Nat)) (dn:Nat->Nat) :Prop where
 mw:vs.length=cr.length
 own:∀ (a:Nat) (v:ae) (row:List Nat),vs[a]? = some v->cr[a]? = some row->bX 1 l v (dn a) (row.map gD)/\cT v=row.isEmpty/\(row=[]\/3<=dn a)
 apart:∀ (a b:Nat) (kA lH:List Nat),a≠b->cr[a]? = some kA->cr[b]? = some lH->kA≠[]->lH≠[]->dn a≠dn b
def mE (cr:List (List Nat)) (dn:Nat->Nat) (b:Nat) :Prop:=∀ (a:Nat) (row:List Nat),cr[a]? = some row->row≠[]->dn a≠b
theorem jI.lt {l:au} {vs:List ae} {cr:List (List Nat)} {dn:Nat->Nat} (h:jI l vs cr dn) {a:Nat} {row:List Nat} (aC:cr[a]? = some row) (b0:row≠[]) :dn a<l.length:=by
 have aG:a<vs.length:=by rw[h.mw]; exact (List.getElem?_eq_some_iff.1 aC).1
 obtain⟨o,n,_⟩:=h.own a vs[a] row (List.getElem?_eq_getElem aG) aC;rcases o.lt with h1 | h1
 ·rw[h1] at n;cases row with
  | nil=>exact absurd rfl b0
  | cons=>cases n
 ·exact h1
theorem jI.frame {l l' : au} {vs:List ae} {cr:List (List Nat)} {dn:Nat->Nat} (h:jI l vs cr dn) (aJ:∀ b,b<l.length->(∃ a row,cr[a]? = some row/\row≠[]/\dn a=b)->l'[b]? = l[b]?) :jI l' vs cr dn:=by
 refine⟨h.mw,fun a v row ax aC=>?_,h.apart⟩;obtain⟨o,n,t⟩:=h.own a v row ax aC;refine⟨?_,n,t⟩;by_cases b0:row=[]
 ·subst b0;have:=i4.1 n;subst this;exact .nil _
 ·exact o.frame fun aq=>aJ _ aq ⟨a,row,aC,b0,rfl⟩
theorem jI.more {l:au} {vs:List ae} {cr:List (List Nat)} {dn:Nat->Nat} (h:jI l vs cr dn) (x:au) :jI (l++x) vs cr dn:=h.frame fun b ai _=>List.getElem?_append_left ai
theorem jI.app {l:au} {vs:List ae} {cr:List (List Nat)} {dn:Nat->Nat} (h:jI l vs cr dn) {a k b:Nat} {v:ae} {row:List Nat} (ax:vs[a]? = some v) (aC:cr[a]? = some row) (ai:l[b]? = some (.cells 1 [.int .i64 (k:Int)])) (ap:3<=l.length) (ds:(row.length+1)*8<=cJ) :
  ∃ bf l' zy,ie l 1 8 v (.ao 1 b 0 1 1 1)=some (bf,l')/\jI l' (vs.set a bf) (cr.set a (row++[k])) zy/\l.length<=l'.length/\bf.cells=some [bf] ∧
   ∀ c,c<l.length->mE cr dn c->l'[c]? = l[c]?/\mE (cr.set a (row++[k])) zy c:=by
 obtain⟨o,n,t⟩:=h.own a v row ax aC;have ht:a<cr.length:=(List.getElem?_eq_some_iff.1 aC).1;obtain⟨j,WA,kv,Jt,UL⟩:∃ j,bX 1 l v j (row.map gD)/\3<=j/\(∀ eo r6,eo≠a->cr[eo]? = some r6->r6≠[]->dn eo≠j)/\∀ c,c<l.length->mE cr dn c->j≠c:=by
  by_cases b0:row=[]
  ·subst b0;have:=i4.1 n;subst this;exact⟨l.length,.nil _,ap,fun eo r6 _ jv uY=>by have:=h.lt jv uY; omega,fun c ak _=>by omega⟩
  ·exact⟨dn a,o,t.resolve_left b0,fun eo r6 TT jv uY=>h.apart eo a r6 row TT jv aC uY b0,fun c _ ay=>ay a row aC b0⟩
 obtain⟨bf,cD,l',aV,aY,bd,bD,br,cj⟩:=mF (by_:=8) WA (x:=.ao 1 b 0 1 1 1) (xs:=[gD k]) (by simp[df,ai,gD]) (by simp[gD]) (by omega) (by omega) (by simpa using ds);have fW:cT bf=false:=by
  cases aR:cT bf with
  | true=>have:=(cj.1 (i4.1 aR)).2; cases this
  | false=>rfl
 refine⟨bf,l',fun x=>if x=a then cD else dn x,aV,⟨by simp[h.mw],fun x w MT bt jv=>?_,fun x y tH Z5 m2 aj aO mY Iv=>?_⟩,bd,aY.cells,fun c ak ay=>⟨bD c ak (fun e=>UL c ak ay e.symm),fun x tH aj mY=>?_⟩⟩
 ·by_cases i0:x=a
  ·subst i0;rw[List.getElem?_set_self (by rw[h.mw]; exact ht)] at bt;rw[List.getElem?_set_self ht] at jv;obtain rfl:=Option.some.inj bt;obtain rfl:=Option.some.inj jv;simp only[if_true];refine⟨by rw[List.map_append]; exact aY,by rw[fW]; simp,.inr ?_⟩;rcases br with e | e<;>omega
  ·rw[List.getElem?_set_ne (Ne.symm i0)] at bt jv;simp only[if_neg i0];obtain⟨ci,ga,fo⟩:=h.own x w MT bt jv;refine⟨?_,ga,fo⟩;by_cases b0:MT=[]
   ·subst b0;have:=i4.1 ga;subst this;exact .nil _
   ·exact ci.frame fun aq=>bD _ aq (Jt x MT i0 jv b0)
 ·by_cases i0:x=a
  ·subst i0;rw[List.getElem?_set_ne m2] at aO;simp only[if_true,if_neg (Ne.symm m2)];have:=h.lt aO Iv;have:=Jt y Z5 (Ne.symm m2) aO Iv;rcases br with e | e<;>omega
  ·rw[List.getElem?_set_ne (Ne.symm i0)] at aj;simp only[if_neg i0];by_cases Ja:y=a
   ·subst Ja;simp only[if_true];have:=h.lt aj mY;have:=Jt x tH i0 aj mY;rcases br with e | e<;>omega
   ·rw[List.getElem?_set_ne (Ne.symm Ja)] at aO;simp only[if_neg Ja];exact h.apart x y tH Z5 m2 aj aO mY Iv
 ·by_cases i0:x=a
  ·subst i0;simp only[if_true];have:=UL c ak ay;rcases br with e | e<;>omega
  ·rw[List.getElem?_set_ne (Ne.symm i0)] at aj;simp only[if_neg i0];exact ay x tH aj mY
def uo (ids:List (List B)) (ops:List bH) (m q a k:Nat) :Nat:=if k<m then (c7 ops k).count (cc ids a) else if k=m then ((c7 ops m).take q).count (cc ids a) else 0
structure sj (ids:List (List B)) (ops:List bH) (m q:Nat) (cr:List (List Nat)) :Prop where
 len:cr.length=ops.length
 cnt:∀ (a:Nat) (row:List Nat),cr[a]? = some row->∀ k,row.count k=uo ids ops m q a k
 z7:∀ (a:Nat) (row:List Nat),cr[a]? = some row->row.length<=5*m+q
theorem ajT (ids:List (List B)) (ops:List bH) :sj ids ops 0 0 (List.replicate ops.length []) :=by
 refine⟨by simp,fun a row h k=>?_,fun a row h=>?_⟩
 ·have:=List.eq_of_mem_replicate (List.mem_of_getElem? h);subst this;simp[uo]
 ·have:=List.eq_of_mem_replicate (List.mem_of_getElem? h);subst this;simp
theorem ajU {ids:List (List B)} {ops:List bH} (am:iN ids) (aq:ids.length=ops.length) {m q a:Nat} {cr:List (List Nat)} {row:List Nat} {p:List B} (h:sj ids ops m q cr) (aF:(c7 ops m)[q]? = some p) (aG:ids[a]? = some p) (aC:cr[a]? = some row) :
  sj ids ops m (q+1) (cr.set a (row++[m])) :=by
 have ht:=(List.getElem?_eq_some_iff.1 aC).1;have sW:=(List.getElem?_eq_some_iff.1 aG).1;have jy:(c7 ops m).take (q+1)=(c7 ops m).take q++[p] :=by rw[List.take_add_one,aF]; rfl
 refine⟨by simp[h.len],fun x tH aj k=>?_,fun x tH aj=>?_⟩
 ·by_cases i0:x=a
  ·subst i0;rw[List.getElem?_set_self ht] at aj;obtain rfl:=Option.some.inj aj;rw[List.count_append,h.cnt x row aC k];unfold uo;by_cases h1:k<m
   ·rw[if_pos h1,if_pos h1,List.count_singleton];have:(m == k)=false:=by rw[beq_eq_false_iff_ne]; omega
    simp[this]
   ·rw[if_neg h1,if_neg h1];by_cases af:k=m
    ·subst af;rw[if_pos rfl,if_pos rfl,jy,List.count_append,hw aG]; simp
    ·rw[if_neg af,if_neg af,List.count_singleton];have:(m == k)=false:=by rw[beq_eq_false_iff_ne]; omega
     simp[this]
  ·rw[List.getElem?_set_ne (Ne.symm i0)] at aj;rw[h.cnt x tH aj k];unfold uo;by_cases h1:k<m
   ·rw[if_pos h1,if_pos h1]
   ·rw[if_neg h1,if_neg h1];by_cases af:k=m
    ·subst af;rw[if_pos rfl,if_pos rfl,jy,List.count_append,List.count_singleton];have bE:x<ids.length:=by rw[aq,<-h.len]; exact (List.getElem?_eq_some_iff.1 aj).1
     have:(p == cc ids x)=false:=by
      rw[beq_eq_false_iff_ne];intro e;rw[<-hw aG] at e;exact i0 (Oc am sW bE e).symm
     rw[this]; simp
    ·rw[if_neg af,if_neg af]
 ·by_cases i0:x=a
  ·subst i0;rw[List.getElem?_set_self ht] at aj;obtain rfl:=Option.some.inj aj;have:=h.z7 x row aC;simp; omega
  ·rw[List.getElem?_set_ne (Ne.symm i0)] at aj;have:=h.z7 x tH aj;omega
theorem ajS {ids:List (List B)} {ops:List bH} {m:Nat} {cr:List (List Nat)} (h:sj ids ops m (c7 ops m).length cr) (aH:(c7 ops m).length<=4) :sj ids ops (m+1) 0 cr:=by
 refine⟨h.len,fun a row aC k=>?_,fun a row aC=>by have:=h.z7 a row aC; omega⟩;rw[h.cnt a row aC k];unfold uo;by_cases h1:k<m
 ·rw[if_pos h1,if_pos (by omega)]
 ·rw[if_neg h1];by_cases af:k=m
  ·subst af;rw[if_pos rfl,if_pos (by omega),List.take_length]
  ·rw[if_neg af,if_neg (by omega)];by_cases ap:k=m+1
   ·rw[if_pos ap]; simp
   ·rw[if_neg ap]
theorem ajR {ids:List (List B)} {ops:List bH} {cr:List (List Nat)} (h:sj ids ops ops.length 0 cr) :D1 ids ops cr:=by
 refine⟨h.len,fun a row aC k aE=>?_,fun a row aC k aE=>?_⟩
 ·rw[h.cnt a row aC k]; unfold uo; rw[if_pos aE]
 ·have h1:0<row.count k:=List.count_pos_iff.2 aE;rw[h.cnt a row aC k] at h1;unfold uo at h1;by_cases af:k<ops.length
  ·exact af
  ·rw[if_neg af] at h1;split at h1<;>simp at h1
def eg (ops:List bH) (m:Nat) :List Int:=(List.range ops.length).map fun k=>if k<m then ((c7 ops k).length:Int) else 0
def hT (ops:List bH) (m:Nat) :List Nat:=(List.range m).filter fun k=>(c7 ops k).isEmpty
theorem abi (ops:List bH) (m:Nat) :(eg ops m).length=ops.length:=by simp[eg]
theorem DX {ops:List bH} {m k:Nat} (h:k<ops.length) :(eg ops m)[k]? = some (if k<m then ((c7 ops k).length:Int) else 0) :=by
 unfold eg; rw[List.getElem?_map,List.getElem?_range h]; rfl
theorem anG {ops:List bH} {m:Nat} (h:m<ops.length) :(eg ops m).set m ((c7 ops m).length:Int)=eg ops (m+1) :=by
 apply List.ext_getElem?;intro j;by_cases am:j<ops.length
 ·rw[DX am,List.getElem?_set];by_cases TN:m=j
  ·subst TN;rw[if_pos rfl,if_pos (by rw[abi]; exact am),if_pos (by omega)]
  ·rw[if_neg TN,DX am];by_cases h1:j<m
   ·rw[if_pos h1,if_pos (by omega)]
   ·rw[if_neg h1,if_neg (by omega)]
 ·rw[List.getElem?_eq_none (by simp[eg]; omega),List.getElem?_eq_none (by simp[eg]; omega)]
theorem anF (ops:List bH) :eg ops ops.length=(List.range ops.length).map fun k=>((c7 ops k).length:Int) :=by
 unfold eg;apply List.map_congr_left;intro k aE;rw[if_pos (List.mem_range.1 aE)]
theorem anH (ops:List bH) :eg ops 0=List.replicate ops.length 0:=by
 apply List.ext_getElem?;intro j;by_cases am:j<ops.length
 ·rw[DX am]; simp[am]
 ·rw[List.getElem?_eq_none (by simp[eg]; omega),List.getElem?_eq_none (by simp; omega)]
theorem ZG (ops:List bH) (m:Nat) :hT ops (m+1)=hT ops m++(if (c7 ops m).isEmpty then [m] else []) :=by
 unfold hT;rw[List.range_succ,List.filter_append];congr 1;by_cases h:(c7 ops m).isEmpty=true
 ·simp[h]
 ·simp[h]
end Op
end Go.cl

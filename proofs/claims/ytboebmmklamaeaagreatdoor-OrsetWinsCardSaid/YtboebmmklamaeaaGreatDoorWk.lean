/-
  op.Message: walked.
-/
import Derived.Test.YtboebmmklamaeaaGreatDoorWj
set_option linter.unusedVariables false
set_option linter.unusedSimpArgs false
set_option linter.unnecessarySimpa false
namespace Go.cj
open Go Go.Proofs
set_option maxRecDepth 100000
namespace Op
open g9
def gc (o:bS) :bS:={ o with e:=0#32,s:=0#32 }
theorem acy (o:bS) (az:kD o) (aF:fV (gc o)=0) {l:av} {K:ae->av->Prop} (a8:∀ w l',cl 1 b8 l l' w (ja o) false->K (.bP [w,.int .i64 0]) l') :
  dp Tryz.prog GS 108 [.aV (bz o)] l (c:=⟨K⟩) :=by
 apply bH Pd Yj;unfold EW KN;have aD:cQ=140737488355328:=rfl;have IE:=g5 o.gI.toNat
 have ql:=g5 o.hF.toNat
 have gD:=zZ az.ids;have eI:kD (gc o) :=⟨az.ids,az.len,az.val,az.key⟩
 have dU:=D9 (gc o) eI;rw[aF] at dU;have rO:o.bO.l.length<=4:=xH (o:=gc o) aF;have CK:eV o.bO.l=true:=by
  unfold fV at aF;have a1:(gc o).bO=o.bO:=rfl;rw[a1,if_neg (by omega)] at aF;cases aq:eV o.bO.l with
  | true=>rfl
  | false=>rw[aq] at aF; cases aF
 have Ja:(BitVec.setWidth 64 o.gI).toNat=o.gI.toNat:=by rw[BitVec.toNat_setWidth]; exact Nat.mod_eq_of_lt (by have:=o.gI.isLt; omega)
 have ahC:=nD (gc o);have aS:l.length<(l++[bv.cells 11 (bz (gc o))]).length:=by simp
 have fy:(l++[bv.cells 11 (bz (gc o))])[l.length]? = some (.cells 11 (bz (gc o))) :=by simp
 simp[bz];refine bB dU (show bV [ae.aV (bz (gc o))]=true by simp[bV,ae.closed,ahC]) ?_;simp;refine apT o.bO az.ids (by omega) CK fun b5 l1 h1=>?_
 have qm:l1[l.length]? = some (.cells 11 (bz (gc o))) :=by rw[h1.same _ aS]; exact fy
 have nT:l.length<l1.length:=by have:=h1.le; simp at this; omega
 have vk:=qm;simp[bz,gc] at vk;have ai4:(l1++[bv.cells 1 [ae.int .u8 111]])[l.length]? = some (.cells 11 (bz (gc o))) :=by rw[List.getElem?_append_left nT]; exact qm
 have atd:l.length<(l1++[bv.cells 1 [ae.int .u8 111]]).length:=by simp; omega
 have UW:=ai4;simp[bz,gc] at UW;simp[UW];have ai9:(l1++[bv.cells 1 [ae.int .u8 111],bv.cells 1 [ae.int .u8 (u o.act.kind)]])[l.length]? = some (.cells 11 (bz (gc o))) :=by rw[List.getElem?_append_left nT]; exact qm
 have ai5:(l1++[bv.cells 1 [ae.int .u8 111],bv.cells 1 [ae.int .u8 (u o.act.kind)]])[l1.length]? = some (.cells 1 [.int .u8 111]) :=by simp
 have xa:(l1++[bv.cells 1 [ae.int .u8 111],bv.cells 1 [ae.int .u8 (u o.act.kind)]])[l1.length+1]? = some (.cells 1 [.int .u8 (u o.act.kind)]) :=by simp
 have rH:(l1++[bv.cells 1 [ae.int .u8 111],bv.cells 1 [ae.int .u8 (u o.act.kind)]]).length=l1.length+2:=by simp
 refine vU _ fun w2 ce ag=>?_
 rw[Ja] at ag;have CA:=ag.le;rw[rH] at CA;have qn:ce[l.length]? = some (.cells 11 (bz (gc o))) :=by rw[ag.same _ (by rw[rH]; omega)]; exact ai9
 have Tf:ce[l1.length]? = some (.cells 1 [.int .u8 111]) :=by rw[ag.same _ (by rw[rH]; omega)]; exact ai5
 have Tg:ce[l1.length+1]? = some (.cells 1 [.int .u8 (u o.act.kind)]) :=by rw[ag.same _ (by rw[rH]; omega)]; exact xa
 have o1:=qn;simp[bz,gc] at o1;simp[o1,Tf,Tg];refine vU _ fun d2 ek aq=>?_
 have Uw:=aq.le;have cE:ek[l.length]? = some (.cells 11 (bz (gc o))) :=by rw[aq.same _ (by omega)]; exact qn
 have Th:ek[l1.length]? = some (.cells 1 [.int .u8 111]) :=by rw[aq.same _ (by omega)]; exact Tf
 have Ti:ek[l1.length+1]? = some (.cells 1 [.int .u8 (u o.act.kind)]) :=by rw[aq.same _ (by omega)]; exact Tg
 have tx:=cE;simp[bz,gc] at tx;simp[tx,Th,Ti,h1.cells,ag.cells,aq.cells,bU];obtain⟨L,fY⟩:∃ L,L=ek++[bv.cells 5 [.ao 1 l1.length 0 1 1 1,w2,b5,d2,.ao 1 (l1.length+1) 0 1 1 1]] :=⟨_,rfl⟩
 have uX:ek.length<=L.length:=by rw[fY]; simp
 have nL:∀ b,b<ek.length->L[b]? = ek[b]?:=fun b aj=>by rw[fY,List.getElem?_append_left aj]
 have HV:L[ek.length]? = some (.cells 5 [.ao 1 l1.length 0 1 1 1,w2,b5,d2,.ao 1 (l1.length+1) 0 1 1 1]) :=by rw[fY]; simp
 rw[<-fY];have Ek:lc L (.ao 1 l1.length 0 1 1 1) [111#8] :=XO (by rw[nL _ (by omega)]; exact Th);have adc:lc L (.ao 1 (l1.length+1) 0 1 1 1) [o.act.kind] :=XO (by rw[nL _ (by omega)]; exact Ti);have El:lc L w2 (dS o.gI.toNat) :=((xC ag).frame Uw aq.same).frame uX nL;have Em:lc L b5 (pj o.bO.l) :=((((xC h1).frame (l1:=l1++[bv.cells 1 [ae.int .u8 111],bv.cells 1 [ae.int .u8 (u o.act.kind)]]) (by rw[rH]; omega) (fun b aj=>List.getElem?_append_left aj)).frame (by rw[rH]; exact CA) ag.same).frame Uw aq.same).frame uX nL;have adb:lc L d2 (dS o.hF.toNat) :=(xC aq).frame uX nL;have UQ:L[l.length]? = some (.cells 11 (bz (gc o))) :=by rw[nL _ (by omega)]; exact cE
 obtain⟨M,lq⟩:∃ M,M=hw [[111#8],dS o.gI.toNat,pj o.bO.l,dS o.hF.toNat,[o.act.kind]] :=⟨_,rfl⟩
 have HX:M=[111#8]++dS o.gI.toNat++pj o.bO.l++dS o.hF.toNat++[o.act.kind] :=by rw[lq]; simp[hw]
 have ag0:M.length<=40000:=by rw[HX]; simp only[List.length_append,List.length_cons,List.length_nil]; omega
 have HW:M.length≠0:=by rw[HX]; simp
 refine R9 (bs:=[[111#8],dS o.gI.toNat,pj o.bO.l,dS o.hF.toNat,[o.act.kind]]) HV rfl rfl ?_ (by rw[<-lq]; omega) (by omega) fun pE pi aK=>?_
 ·intro k w s bx au;rcases k with _ | _ | _ | _ | _ | k
  ·obtain rfl:=Option.some.inj bx; obtain rfl:=Option.some.inj au; exact Ek
  ·obtain rfl:=Option.some.inj bx; obtain rfl:=Option.some.inj au; exact El
  ·obtain rfl:=Option.some.inj bx; obtain rfl:=Option.some.inj au; exact Em
  ·obtain rfl:=Option.some.inj bx; obtain rfl:=Option.some.inj au; exact adb
  ·obtain rfl:=Option.some.inj bx; obtain rfl:=Option.some.inj au; exact adc
  ·cases bx
 rw[<-lq,decide_eq_false HW] at aK;have agZ:l.length<=L.length:=by omega
 have wK:cl 1 b8 l pi pE M false:=aK.base agZ fun b aj=>by
  have fA:b<l1.length:=by omega
  rw[nL b (by omega),aq.same b (by omega),ag.same b (by rw[rH]; omega),List.getElem?_append_left fA,h1.same b (by simp; omega),List.getElem?_append_left aj]
 have CD:pi[l.length]? = some (.cells 11 (bz (gc o))) :=by rw[aK.same _ (by omega)]; exact UQ
 have aiy:l.length<pi.length:=fi CD;have w6:=CD;simp[bz,gc] at w6;have eu:ja o=M++(if o.act.kind=1#8 then [] else hG (eX o.act.key))++(if o.act.kind=4#8 then hH o.act.val else []) :=by rw[HX]; rfl
 have jX:=x0 (eX o.act.key);rw[ol] at jX;have Iv:=az.key;have jG:=AM o.act.val;have ajy:=az.val.2.2;have al:s3 (.str o.act.key)=some (.bW 1 ((eX o.act.key).map b8)) :=by
  show some (ae.bW 1 (o.act.key.map fun b=>[hL b]))=_;rw[DY]
 by_cases cN:o.act.kind=1#8
 ·have a1:(u o.act.kind:Int)=1:=(hh o.act.kind).2 cN;have iv:¬ o.act.kind=4#8:=by rw[cN]; decide
  rw[if_pos cN,if_neg iv,List.append_nil,List.append_nil] at eu;simp[w6,a1];exact a8 _ _ (by rw[eu]; exact wK)
 ·have a1:¬ (u o.act.kind:Int)=1:=fun h=>cN ((hh o.act.kind).1 h)
  rw[if_neg cN] at eu;simp[w6,a1,al];refine acv (some (eX o.act.key)) (by simpa [ol] using Iv) (by simp[dj]) (by simp) (fun l' _ _=>by simp[dj]) fun D8 j1 gd=>?_
  obtain⟨apN,JS,a9,sM,_⟩:=(wK.frame gd.le gd.same).app (by_:=1) (x:=D8) (xs:=hG (eX o.act.key)) gd.contents (by simp[b8]) (by omega) (by omega) (by rw[aD]; omega);have adJ:=(aK.frame gd.le gd.same).app (by_:=1) (x:=D8) (xs:=hG (eX o.act.key)) gd.contents (by simp[b8]) (by omega) (by omega) (by rw[aD]; omega);obtain⟨awW,auR,N7,Bg,_⟩:=adJ;rw[a9] at N7;obtain⟨rfl,rfl⟩:=Prod.mk.inj (Option.some.inj N7);have IP:JS[l.length]? = some (.cells 11 (bz (gc o))) :=by rw[Bg.same _ (by omega)]; exact UQ
  have vm:=IP;simp[bz,gc] at vm;simp[a9];refine dM.cM ?_;simp only[Bool.false_and] at sM;by_cases iv:o.act.kind=4#8
  ·have lk:(u o.act.kind:Int)=4:=(uk o.act.kind).2 iv;rw[if_pos iv] at eu;have TB:iO o.act=true:=by
    cases h:iO o.act with
    | true=>rfl
    | false=>
     unfold fV at aF;have b3:(gc o).bO=o.bO:=rfl;have dD:(gc o).act=o.act:=rfl;rw[b3,if_neg (by omega),CK,if_pos rfl] at aF;unfold rC at aF;rw[dD,h] at aF;simp at aF
   rw[yj iv,Bool.and_eq_true] at TB;simp[vm,lk];refine ap0 o.act.val az.val TB.2 fun NR akE kk=>?_
   obtain⟨apM,akF,Eu,ED,_⟩:=(sM.frame kk.le kk.same).app (by_:=1) (x:=NR) (xs:=hH o.act.val) kk.contents (by simp[b8]) (by omega) (by omega) (by rw[aD]; simp only[List.length_append]; omega);simp[Eu];refine dM.cM ?_;simp;exact a8 _ _ (by rw[eu]; exact ED)
  ·have lk:¬ (u o.act.kind:Int)=4:=fun h=>iv ((uk o.act.kind).1 h)
   rw[if_neg iv,List.append_nil] at eu;simp[vm,lk];exact a8 _ _ (by rw[eu]; exact sM)
theorem OI {o:bS} (h:fV o=0) :fV (gc o)=0:=by
 unfold fV at h ⊢;have a1:(gc o).bO=o.bO:=rfl;rw[a1];have ay:rC o=true->rC (gc o)=true:=by
  unfold rC gc;simp only[Bool.and_eq_true];rintro⟨a,b,c,d,e⟩;exact⟨a,b,c,by decide,by decide⟩
 split at h
 ·cases h
 ·rename_i h1;rw[if_neg h1];split at h
  ·rename_i ag;rw[if_pos ag];split at h
   ·rename_i aq;rw[if_pos (ay aq)]
   ·cases h
  ·cases h
theorem Sw {o:bS} (h:fV o=0) :iO o.act=true:=by
 unfold fV at h;split at h
 ·cases h
 ·split at h
  ·split at h
   ·rename_i aq;unfold rC at aq;simp only[Bool.and_eq_true] at aq;exact aq.2.2.1
   ·cases h
  ·cases h
theorem JM {s:List UInt8} (h:gk s=true) :s.length<=20:=by
 unfold gk at h;simp only[Bool.and_eq_true,decide_eq_true_eq] at h;omega
theorem Sx {o:bS} (az:kD o) (h:fV o=0) :(hg o).length<=1000:=by
 have h1:=g5 o.gI.toNat
 have ag:=g5 o.hF.toNat
 have aq:=zZ az.ids;have aK:=x0 (eX o.act.key);rw[ol] at aK;have bL:=AM o.act.val;have aG:=xH h;have aw:=g5 o.e.toNat
 have au:=g5 o.s.toNat
 have aI:=Sw h;have aY:(if o.act.kind=1#8 then [] else hG (eX o.act.key)).length<=100:=by
  split
  ·simp
  ·rename_i cN;have:o.act.key.length<=20:=by
    by_cases dm:o.act.kind=2#8
    ·rw[yi dm,Bool.and_eq_true] at aI; exact JM aI.1
    ·by_cases jn:o.act.kind=3#8
     ·rw[Ex jn,Bool.and_eq_true] at aI; exact JM aI.1
     ·by_cases iv:o.act.kind=4#8
      ·rw[yj iv,Bool.and_eq_true] at aI; exact JM aI.1
      ·rw[Ey cN dm jn iv] at aI; cases aI
   omega
 have a6:(if o.act.kind=4#8 then hH o.act.val else []).length<=100:=by
  split
  ·rename_i iv;rw[yj iv,Bool.and_eq_true] at aI;have ax:=aI.2;have:o.act.val.text.length<=30:=by
    by_cases cc:o.act.val.kind=1#8
    ·rw[NM cc] at ax;simp only[Bool.and_eq_true,decide_eq_true_eq] at ax;rw[ax.2]; simp
    ·by_cases ch:o.act.val.kind=2#8
     ·rw[NN ch] at ax;simp only[Bool.and_eq_true,decide_eq_true_eq] at ax;rw[ax.2.2]; simp
     ·by_cases dz:o.act.val.kind=3#8
      ·by_cases ar:o.act.val.text.length<=30
       ·exact ar
       ·rw[acq dz] at ax;unfold q2 at ax;rw[if_neg ar] at ax;simp only[Bool.and_eq_true,decide_eq_true_eq,pH] at ax;have:=ax.1;rw[dz] at this;exact absurd this (by decide)
      ·rw[NP cc ch dz] at ax; cases ax
   omega
  ·simp
 unfold hg ja opHead;simp only[List.length_append,List.length_cons,List.length_nil];omega
theorem apQ (o:bS) (az:kD o) (aF:fV o=0) {l:av} {K:ae->av->Prop} (a8:∀ w l',cl 1 b8 l l' w (hg o) false->K (.bP [w,.int .i64 0]) l') :
  dp Tryz.prog GS 72 [.aV (bz o)] l (c:=⟨K⟩) :=by
 apply bH GJ Mv;unfold Bf DC;have dU:=D9 o az;rw[aF] at dU;have dZ:=nD o;have vo:=Sx az aF;have jF:(BitVec.setWidth 64 o.e).toNat=o.e.toNat:=by rw[BitVec.toNat_setWidth]; exact Nat.mod_eq_of_lt (by have:=o.e.isLt; omega)
 have o6:(BitVec.setWidth 64 o.s).toNat=o.s.toNat:=by rw[BitVec.toNat_setWidth]; exact Nat.mod_eq_of_lt (by have:=o.s.isLt; omega)
 have aS:l.length<(l++[bv.cells 11 (bz o)]).length:=by simp
 have fy:(l++[bv.cells 11 (bz o)])[l.length]? = some (.cells 11 (bz o)) :=by simp
 simp[bz];refine bB dU (show bV [ae.aV (bz o)]=true by simp[bV,ae.closed,dZ]) ?_;simp;refine acy o az (OI aF) fun b5 l1 h1=>?_
 have qm:l1[l.length]? = some (.cells 11 (bz o)) :=by rw[h1.same _ aS]; exact fy
 have nT:l.length<l1.length:=fi qm;have vk:=qm;simp[bz] at vk;simp[vk];refine vU _ fun w2 ce ag=>?_
 rw[jF] at ag;have qn:ce[l.length]? = some (.cells 11 (bz o)) :=by rw[ag.same _ nT]; exact qm
 have o1:=qn;simp[bz] at o1;simp[o1];refine vU _ fun d2 ek aq=>?_
 rw[o6] at aq;simp[h1.cells,ag.cells,aq.cells,bU];obtain⟨L,fY⟩:∃ L,L=ek++[bv.cells 3 [b5,w2,d2]] :=⟨_,rfl⟩
 have uX:ek.length<=L.length:=by rw[fY]; simp
 have nL:∀ b,b<ek.length->L[b]? = ek[b]?:=fun b aj=>by rw[fY,List.getElem?_append_left aj]
 have HV:L[ek.length]? = some (.cells 3 [b5,w2,d2]) :=by rw[fY]; simp
 rw[<-fY];have Ek:lc L b5 (ja o) :=(((xC h1).frame ag.le ag.same).frame aq.le aq.same).frame uX nL;have El:lc L w2 (dS o.e.toNat) :=((xC ag).frame aq.le aq.same).frame uX nL;have Em:lc L d2 (dS o.s.toNat) :=(xC aq).frame uX nL;have lq:hw [ja o,dS o.e.toNat,dS o.s.toNat]=hg o:=by simp[hw,hg]
 have HW:(hg o).length≠0:=by unfold hg ja opHead; simp
 refine R9 (bs:=[ja o,dS o.e.toNat,dS o.s.toNat]) HV rfl rfl ?_ (by rw[lq]; omega) (by omega) fun pE pi aK=>?_
 ·intro k w s bx au;rcases k with _ | _ | _ | k
  ·obtain rfl:=Option.some.inj bx; obtain rfl:=Option.some.inj au; exact Ek
  ·obtain rfl:=Option.some.inj bx; obtain rfl:=Option.some.inj au; exact El
  ·obtain rfl:=Option.some.inj bx; obtain rfl:=Option.some.inj au; exact Em
  ·cases bx
 rw[lq,decide_eq_false HW] at aK;simp;refine a8 _ _ (aK.base ?_ fun b aj=>?_)
 ·have:=ag.le; have:=aq.le; omega
 ·have:=ag.le; have:=aq.le;rw[nL b (by omega),aq.same b (by omega),ag.same b (by omega),h1.same b (by simp; omega),List.getElem?_append_left aj]
theorem apP (o:bS) (az:kD o) (aF:¬ fV o=0) :bT Tryz.prog GS 72 [.aV (bz o)] (.bP [.aZ,.int .i64 (fV o)]) :=by
 refine cd Tryz.checked.mixed b2 ?_;apply bH GJ Mv;unfold Bf DC;have dU:=D9 o az;have dZ:=nD o;obtain⟨E,eQ⟩:∃ E,E=bz o:=⟨_,rfl⟩
 have rF:E.length=11:=by rw[eQ]; rfl
 rw[<-eQ] at dU dZ ⊢;simp[rF,List.take_of_length_le];refine bB dU (by simp[bV,ae.closed,dZ]) ?_;simp[aF];exact a7 rfl rfl
theorem apS (o:bS) (az:kD o) :bT Tryz.prog GS 38 [.aV (bz o)] (.bP [ff (kt o),.int .i64 (fV o)]) :=by
 refine cd Tryz.checked.mixed b2 ?_;apply bH QN ZR;unfold Gm Mb kt;have dZ:=nD o;have aC:(rep 32 (.int .u8 0) :List ae)=(List.replicate 32 0#8).map bF:=by simp[rep]
 obtain⟨E,eQ⟩:∃ E,E=bz o:=⟨_,rfl⟩
 have rF:E.length=11:=by rw[eQ]; rfl
 by_cases aO:fV o=0
 ·have vo:=Sx az aO;have e8:(g6 (hg o)).length=32:=ud _;rw[<-eQ];simp[rF,List.take_of_length_le];rw[eQ];refine apQ o az aO fun b5 l1 h1=>?_
  rw[<-eQ] at h1;have fy:l1[1]? = some (.cells 32 (rep 32 (.int .u8 0))) :=by rw[h1.same 1 (by simp)]; rfl
  simp;refine jc (abS (some (hg o)) (by simp; omega)) (.cons (h1.qU (fun _=>rfl) (some (hg o)) rfl rfl) .nil) (by simp[ae.flat,kg,ff,wC bF (fun _=>rfl)]) ?_;have vp:bU (rep 32 (.int .u8 0)) 0 ((g6 (hg o)).map bF)=(g6 (hg o)).map bF:=h3 (by rw[List.length_map,e8]; rfl);have ly:(l1.set 1 (bv.cells 32 ((g6 (hg o)).map bF)))[1]? = some (.cells 32 ((g6 (hg o)).map bF)) :=List.getElem?_set_self (fi fy);simp[fy,ff,e8,vp,ly,List.take_of_length_le];exact a7 (by rw[if_pos aO,aO]) (by simp[ae.closed,bV,kI bF (fun _=>rfl)])
 ·have TX:=apP o az aO;rw[<-eQ] at TX dZ ⊢;simp[rF,List.take_of_length_le];refine bB TX (by simp[bV,ae.closed,dZ]) ?_;simp[aO,ff,aC];exact a7 rfl (by simp only[ae.closed,bV,kI bF (fun _=>rfl),Bool.and_self])
end Op
end Go.cj

namespace Go.cj
open Go Go.Proofs Go.RowKit
set_option maxRecDepth 100000
namespace Op
open g9
theorem NF {P:Program} {t:TypeId} {ts:List TypeId} {cs:List ae} (aL:P.underlying t=some .string) (h:dq P (t::ts) cs) :∃ s cs',cs=.str s::cs'/\dq P ts cs':=by
 cases h
 case str s cs' au n4 h=>exact⟨_,_,rfl,h⟩
 all_goals (exfalso; simp_all; done)
theorem acj {ts:List TypeId} {cs:List ae} (h:dq Tryz.prog (5::ts) cs) :∃ (x:B) (cs' : List ae),cs=bF x::cs'/\dq Tryz.prog ts cs':=by
 obtain⟨k,uK,rfl,h1,ag,aq⟩:=AH (k:=.u8) (by kernel_rfl) h;have bg:(0:Int)<=k:=h1;have bL:k<=255:=ag;refine⟨BitVec.ofNat 8 k.toNat,uK,?_,aq⟩;have:((BitVec.ofNat 8 k.toNat).toNat:Int)=k:=by
  rw[BitVec.toNat_ofNat,Nat.mod_eq_of_lt (by omega)]; omega
 simp[bF,u]; omega
theorem apm {ts:List TypeId} {cs:List ae} (h:dq Tryz.prog (71::ts) cs) :∃ (x:List B) (cs' : List ae),cs=x.map bF++cs'/\x.length=32/\dq Tryz.prog ts cs':=by
 have h1:=apl (e:=5) (n:=32) (by kernel_rfl) h;exact acf (by kernel_rfl) 32 h1
theorem acg {ts:List TypeId} {cs:List ae} (h:dq Tryz.prog (26::ts) cs) :∃ (s:fS) (cs' : List ae),cs=bl s::cs'/\ik s/\dq Tryz.prog ts cs':=by
 obtain⟨s,cs',rfl,_,h1,ag⟩:=ach (e:=71) (z:=32) (enc:=bb) (Q:=fun x=>x.length=32) (by kernel_rfl) (by kernel_rfl) (fun r aD=>by
  obtain⟨x,cs',rfl,ak,aq⟩:=apm aD;rw[NE aq,List.append_nil];exact⟨x,rfl,ak⟩) h
 exact⟨s,cs',rfl,h1,ag⟩
theorem NG {ts:List TypeId} {cs:List ae} (h:dq Tryz.prog (25::ts) cs) :∃ (x:D) (cs' : List ae),cs=bA x::cs'/\dq Tryz.prog ts cs':=by
 obtain⟨k,uK,rfl,h1,ag,aq⟩:=AH (k:=.u32) (by kernel_rfl) h;have bg:(0:Int)<=k:=h1;have bL:k<=4294967295:=ag;refine⟨BitVec.ofNat 32 k.toNat,uK,?_,aq⟩;have:((BitVec.ofNat 32 k.toNat).toNat:Int)=k:=by
  rw[BitVec.toNat_ofNat,Nat.mod_eq_of_lt (by omega)]; omega
 simp[bA,u]; omega
structure Et (o:bS) :Prop where
 ids:ik o.bO
 lE:-9223372036854775808<=o.act.val.num
 qH:o.act.val.num<9223372036854775808
theorem apq {ts:List TypeId} {cs:List ae} (h:dq Tryz.prog (29::ts) cs) :∃ (v:hj) (cs' : List ae),cs=[bF v.kind,.int .i64 v.num,du v.bits,.str v.text]++cs'/\(-9223372036854775808<=v.num/\v.num<9223372036854775808)/\dq Tryz.prog ts cs':=by
 have h1:=AI (fs:=[5,2,27,9]) (by kernel_rfl) h;obtain⟨k,_,rfl,ag⟩:=acj h1;obtain⟨n,_,rfl,rS,qk,aq⟩:=AH (k:=.i64) (by kernel_rfl) ag;obtain⟨b,_,rfl,aK⟩:=aci aq;obtain⟨s,_,rfl,bg⟩:=NF (by kernel_rfl) aK;have bL:n<=9223372036854775807:=qk;exact⟨⟨k,n,b,s⟩,_,rfl,⟨rS,by show n<9223372036854775808; omega⟩,bg⟩
theorem apk {ts:List TypeId} {cs:List ae} (h:dq Tryz.prog (31::ts) cs) :∃ (a:Act) (cs' : List ae),cs=[bF a.kind,.str a.key,bF a.val.kind,.int .i64 a.val.num,du a.val.bits,.str a.val.text]++cs'/\(-9223372036854775808<=a.val.num/\a.val.num<9223372036854775808)/\dq Tryz.prog ts cs':=by
 have h1:=AI (fs:=[5,9,29]) (by kernel_rfl) h;obtain⟨k,_,rfl,ag⟩:=acj h1;obtain⟨s,_,rfl,aq⟩:=NF (by kernel_rfl) ag;obtain⟨v,_,rfl,ax,aK⟩:=apq aq;exact⟨⟨k,s,v⟩,_,rfl,ax,aK⟩
theorem apn {ts:List TypeId} {cs:List ae} (h:dq Tryz.prog (35::ts) cs) :∃ (o:bS) (cs' : List ae),cs=bz o++cs'/\Et o/\dq Tryz.prog ts cs':=by
 have h1:=AI (fs:=[25,26,27,31,33]) (by kernel_rfl) h;obtain⟨a,_,rfl,ag⟩:=NG h1;obtain⟨p,_,rfl,aG,aq⟩:=acg ag;obtain⟨n,_,rfl,aK⟩:=aci aq;obtain⟨c,_,rfl,al,bg⟩:=apk aK;have bL:=AI (fs:=[25,25]) (by kernel_rfl) bg;obtain⟨x,_,rfl,et⟩:=NG bL;obtain⟨y,cs',rfl,gd⟩:=NG et;exact⟨⟨a,p,n,c,x,y⟩,cs',by simp[bz],⟨aG,al.1,al.2⟩,gd⟩
theorem aph {ts:List TypeId} {cs:List ae} (h:kF Tryz.prog (9::ts) cs) :∃ (s:List UInt8) (cs' : List ae),cs=.str s::cs'/\kF Tryz.prog ts cs':=by
 obtain⟨c,cs',rfl,h1,ag⟩:=ace h;obtain⟨s,uK,au,aq⟩:=NF (by kernel_rfl) (apj (by kernel_rfl) h1);cases au;exact⟨s,cs',rfl,ag⟩
end Op
end Go.cj

namespace Go.cj
open Go Go.Proofs
set_option maxRecDepth 100000
open g9 Op
def xK (a n:Nat) :Nat->Nat
 | 0=>1
 | k+1=>match Nat.beq (n / 2 ^ (63 - k) % 2) 1 with
  | true=>((xK a n k) ^ 2 % 1000000007)*a % 1000000007
  | false=>(xK a n k) ^ 2 % 1000000007
theorem Ky (a n:Nat) (aH:n<2 ^ 64) :∀ k,k<=64->xK a n k=e0 a (n / 2 ^ (64 - k))
 | 0,_=>by
  have:n / 2 ^ (64 - 0)=0:=Nat.div_eq_of_lt aH;rw[this]; rfl
 | k+1,aF=>by
  have aM:=Ky a n aH k (by omega);have aj:=TC n k (by omega);have e:64 - (k+1)=63 - k:=by omega
  rw[e];unfold xK;rw[aM,Nat.pow_two,XZ];split
  ·rename_i h;have h1:=Nat.eq_of_beq_eq_true h;rw[XX,aj,h1]
  ·rename_i h;have h1:n / 2 ^ (63 - k) % 2≠1:=fun aQ=>by rw[aQ] at h; cases h
   rw[aj];congr 1; omega
def XW:List ae->Option ae
 | [.int .u32 x,.int .u64 n]=>match decide (0<=x)&&(decide (x<4294967296)&&(decide (0<=n)&&decide (n<18446744073709551616))) with
  | true=>some (.int .u32 ((xK x.toNat n.toNat 64:Nat) :Int))
  | false=>none
 | _=>none
abbrev KA:FuncId × Bool × (List ae->Option ae) :=(183,false,XW)
theorem X0:rc Tryz.prog GS KA:=by
 intro args r h;refine⟨?_,fun h=>by cases h⟩;simp only[XW] at h;split at h
 ·rename_i x n;split at h
  ·rename_i al;cases h;simp only[Bool.and_eq_true,decide_eq_true_eq] at al;obtain⟨h1,ag,aq,aK⟩:=al;have ak:(ae.int .u32 x)=bA (BitVec.ofNat 32 x.toNat) :=by
    have:((BitVec.ofNat 32 x.toNat).toNat:Int)=x:=by
     rw[BitVec.toNat_ofNat,Nat.mod_eq_of_lt (by omega)]; omega
    simp[bA,u]; omega
   have aH:(ae.int .u64 n)=du (BitVec.ofNat 64 n.toNat) :=by
    have:((BitVec.ofNat 64 n.toNat).toNat:Int)=n:=by
     rw[BitVec.toNat_ofNat,Nat.mod_eq_of_lt (by omega)]; omega
    simp[du,u]; omega
   have aG:=Dy (BitVec.ofNat 32 x.toNat) (BitVec.ofNat 64 n.toNat);have aD:bA (fP (BitVec.ofNat 32 x.toNat) (BitVec.ofNat 64 n.toNat).toNat)=.int .u32 ((xK x.toNat n.toNat 64:Nat) :Int) :=by
    have a1:(BitVec.ofNat 32 x.toNat).toNat=x.toNat:=by rw[BitVec.toNat_ofNat,Nat.mod_eq_of_lt (by omega)]
    have b3:(BitVec.ofNat 64 n.toNat).toNat=n.toNat:=by rw[BitVec.toNat_ofNat,Nat.mod_eq_of_lt (by omega)]
    show ae.int .u32 (u _)=_;unfold u;rw[px,a1,b3,Ky _ _ (by omega) 64 (Nat.le_refl _)];simp
   rw[ak,aH,<-aD];exact aG
  ·cases h
 ·cases h
def Dc:List (List ae)->Option (List d7)
 | []=>some []
 | [c] ::r=>match ys c with
  | some s=>match Nat.ble s.l.length 10000 with
   | true=>match Dc r with | some l=>some (s::l) | none=>none
   | false=>none
  | none=>none
 | _=>none
theorem W9:∀ {es:List (List ae)} {l:List d7},Dc es=some l->(es=l.map fun s=>[cv s])/\∀ s∈l,s.l.length<=10000
 | [],l,h=>by cases h; exact⟨rfl,fun s au=>by cases au⟩
 | e::r,l,h=>by
  unfold Dc at h;split at h
  ·rename_i a1; cases a1
  ·rename_i c co a1;cases a1;split at h
   ·rename_i s au;split at h
    ·rename_i aj;split at h
     ·rename_i l' ar;cases h;obtain⟨h1,ag⟩:=W9 ar;refine⟨by rw[EO au,h1]; rfl,fun x ak=>?_⟩;rcases List.mem_cons.1 ak with aq | aq
      ·rw[aq]; exact Nat.le_of_ble_eq_true aj
      ·exact ag x aq
     ·cases h
    ·cases h
   ·cases h
  ·cases h
def XP:List ae->Option ae
 | [.bW 1 es]=>match Dc es with
  | some ci=>match Nat.ble ci.length 20 with
   | true=>some (.bP [ff (g6 (bytesOf ci)),.int .i64 0])
   | false=>none
  | none=>none
 | _=>none
abbrev Kv:FuncId × Bool × (List ae->Option ae) :=(111,false,XP)
theorem XQ:rc Tryz.prog GS Kv:=by
 intro args r h;refine⟨?_,fun h=>by cases h⟩;simp only[XP] at h;split at h
 ·split at h
  ·rename_i es ci mR;split at h
   ·rename_i aH;cases h;obtain⟨h1,ag⟩:=W9 mR;rw[h1];exact Kw ci (Nat.le_of_ble_eq_true aH) ag
   ·cases h
  ·cases h
 ·cases h
end Go.cj

namespace Go.cj
open Go Go.Proofs
set_option maxRecDepth 100000
namespace Op
open g9
section
variable {α:Type} {z:Nat} {enc:α->List ae}
theorem al6 {l:av} {v:ae} {j k:Nat} {bd:List α} {zr:List ae} (qw:zr.length=z) (h:b0 z l v j (bd.map enc)) (aF:k<bd.length) :
  ∃ v3 ek r,fu (.ao z) v (some (.int .i64 (k:Int))) none none=some v3/\pW zr l v3=some ek/\fu (.ao z) v none (some (.int .i64 (k:Int))) none=some r ∧
   b0 z ek r j ((bd.take k).map enc)/\cS r=false/\ek.length=l.length/\∀ b,b≠j->ek[b]? = l[b]?:=by
 generalize aw:bd.map enc=es at h;cases h with
 | nil j=>rw[List.map_eq_nil_iff] at aw; subst aw; simp at aF
 | ao j n cap sz cs es aj ar aH aC al cX cH=>
  subst aw;have qj:bd.length=n:=by simpa using aH
  have fZ:h8 (.int .i64 (k:Int)) n=some k:=by
   show (if 0<=(k:Int)/\(k:Int)<=(n:Int) then some (k:Int).toNat else none)=some k;rw[if_pos ⟨by omega,by omega⟩]; simp
  have fz:h8 (.int .i64 (k:Int)) cap=some k:=by
   show (if 0<=(k:Int)/\(k:Int)<=(cap:Int) then some (k:Int).toNat else none)=some k;rw[if_pos ⟨by omega,by omega⟩]; simp
  have dV:fH n cap (some (.int .i64 (k:Int))) none none=some (k,n,cap) :=by
   show (match h8 (.int .i64 (k:Int)) n with | none=>none | some l=>some (l,n,cap))=_;rw[fZ]
  have dK:fH n cap none (some (.int .i64 (k:Int))) none=some (0,k,cap) :=by
   show (match h8 (.int .i64 (k:Int)) cap with | none=>none | some h=>some (0,h,cap))=_;rw[fz]
  have dU:¬ cap=k:=by omega
  have wQ:¬ cap=0:=by omega
  have eD:j<l.length:=fi aj;have fr:k*z<=n*z:=Nat.mul_le_mul_right _ (by omega);have jC:n*z<=cap*z:=Nat.mul_le_mul_right _ al;have n1:(dd zr (n - k)).length=(n - k)*z:=by rw[xR,qw]
  have aiz:k*z+(n - k)*z=n*z:=by rw[<-Nat.add_mul]; congr 1; omega
  refine⟨.ao z j (k*z) (n - k) (cap - k) sz,l.set j (.cells sz (bU cs (k*z) (dd zr (n - k)))),.ao z j 0 k cap sz,?_,?_,?_,?_,rfl,by simp,fun b jw=>by rw[List.getElem?_set_ne (fun h=>jw h.symm)]⟩
  ·rw[vP,dV]; simp[dU]
  ·unfold pW;simp only;rw[if_neg (by omega)];simp[aj,qw]
  ·rw[vP,dK]; simp[wQ]
  ·refine .ao j k cap sz _ _ (List.getElem?_set_self eD) (by rw[pB (by omega),n1]; omega) (by simp; omega) (fun e aw=>?_) (by omega) cX ?_
   ·obtain⟨y,aP,rfl⟩:=List.mem_map.1 aw;exact aC _ (List.mem_map_of_mem (List.mem_of_mem_take aP))
   ·unfold bU;rw[List.append_assoc,List.take_append_of_le_length (by rw[List.length_take]; omega),List.take_take,Nat.min_self];have a1:cs.take (k*z)=(cs.take (n*z)).take (k*z) :=by rw[List.take_take,Nat.min_eq_left fr]
    have b3:bd.map enc=(bd.take k).map enc++(bd.drop k).map enc:=by rw[<-List.map_append,List.take_append_drop]
    have dD:((bd.take k).map enc).flatten.length=k*z:=by
     rw[lo (z:=z) (fun e aw=>by obtain⟨y,aP,rfl⟩:=List.mem_map.1 aw; exact aC _ (List.mem_map_of_mem (List.mem_of_mem_take aP)))];rw[List.length_map,List.length_take,Nat.min_eq_left (by omega)]
    rw[a1,cH,b3,List.flatten_append,List.take_append_of_le_length (by omega),List.take_of_length_le (by omega)]
theorem XH {bd:List α} (aC:∀ y∈bd,(enc y).length=z) (k:Nat) (aF:k<=bd.length) {n:Nat} (aH:bd.length=n) {cs:List ae} (cH:cs.take (n*z)=(bd.map enc).flatten) (ar:n*z<=cs.length) :
  cs.take (k*z)=((bd.take k).map enc).flatten/\(cs.drop (k*z)).take (n*z - k*z)=((bd.drop k).map enc).flatten:=by
 have fr:k*z<=n*z:=Nat.mul_le_mul_right _ (by omega);have b3:bd.map enc=(bd.take k).map enc++(bd.drop k).map enc:=by rw[<-List.map_append,List.take_append_drop]
 have dD:((bd.take k).map enc).flatten.length=k*z:=by
  rw[lo (z:=z) (fun e aw=>by obtain⟨y,aP,rfl⟩:=List.mem_map.1 aw; exact aC _ (List.mem_of_mem_take aP))];rw[List.length_map,List.length_take,Nat.min_eq_left (by omega)]
 have a1:cs.take (k*z)=(cs.take (n*z)).take (k*z) :=by rw[List.take_take,Nat.min_eq_left fr]
 constructor
 ·rw[a1,cH,b3,List.flatten_append,List.take_append_of_le_length (by omega),List.take_of_length_le (by omega)]
 ·rw[<-List.drop_take,cH,b3,List.flatten_append,List.drop_append_of_le_length (by omega),List.drop_of_length_le (by omega),List.nil_append]
theorem XI {l:av} {v:ae} {j k:Nat} {bd:List α} {x:α} {X:ae} (ei:X.cells=some (enc x)) (h:b0 z l v j (bd.map enc)) (aC:∀ y∈bd,(enc y).length=z) (aF:k<bd.length) (ak:(enc x).length=z) :
  ∃ p l',cU (.ao z) v (.int .i64 (k:Int))=some p/\je z l p (X)=some l'/\b0 z l' v j ((bd.set k x).map enc)/\l'.length=l.length/\∀ b,b≠j->l'[b]? = l[b]?:=by
 generalize aw:bd.map enc=es at h;cases h with
 | nil j=>rw[List.map_eq_nil_iff] at aw; subst aw; simp at aF
 | ao j n cap sz cs es aj ar aH jZ al cX cH=>
  subst aw;have qj:bd.length=n:=by simpa using aH
  have eD:j<l.length:=fi aj;have bJ:=ak;have fr:(k+1)*z<=n*z:=Nat.mul_le_mul_right _ (by omega);have jC:n*z<=cap*z:=Nat.mul_le_mul_right _ al;have au:(k+1)*z=k*z+z:=by rw[Nat.succ_mul]
  obtain⟨h9,_⟩:=XH aC k (by omega) qj cH (by omega);obtain⟨_,p2⟩:=XH aC (k+1) (by omega) qj cH (by omega);refine⟨.ptr j (k*z) sz,l.set j (.cells sz (bU cs (k*z) (enc x))),?_,?_,?_,by simp,fun b jw=>by rw[List.getElem?_set_ne (fun h=>jw h.symm)]⟩
  ·simp[cU]; omega
  ·unfold je;simp[aj,ei,bJ];omega
  ·refine .ao j n cap sz _ _ (List.getElem?_set_self eD) (by rw[pB (by omega),bJ]; omega) (by simp; omega) (fun e aw=>?_) al cX ?_
   ·obtain⟨y,aP,rfl⟩:=List.mem_map.1 aw;rcases List.mem_or_eq_of_mem_set aP with h | h
    ·exact aC _ h
    ·rw[h]; exact bJ
   ·have ly:bd.set k x=bd.take k++(x::bd.drop (k+1)) :=by rw[List.set_eq_take_append_cons_drop,if_pos aF]
    rw[ly,List.map_append,List.map_cons,List.flatten_append,List.flatten_cons,<-h9,<-p2];unfold bU;have q0:(cs.take (k*z)).length=k*z:=by rw[List.length_take]; omega
    have me:(cs.take (k*z)).take (n*z)=cs.take (k*z) :=List.take_of_length_le (by rw[q0]; omega);have nh:(enc x).take (n*z - k*z)=enc x:=List.take_of_length_le (by rw[bJ]; omega);rw[List.append_assoc,bJ,<-au,List.take_append,q0,me,List.take_append,nh,bJ,show n*z - k*z - z=n*z - (k+1)*z by omega]
end
end Op
end Go.cj

namespace Go.cj
open Go Go.Proofs
set_option maxRecDepth 100000
namespace Op
theorem SK {α:Type} {enc:α->List ae} {z:Nat} {a:List α} (h:∀ x∈a,(enc x).length=z) :(a.map enc).flatten.length=a.length*z:=by
 rw[lo (z:=z) (fun e aw=>by obtain⟨y,aP,rfl⟩:=List.mem_map.1 aw; exact h y aP),List.length_map]
theorem al9 {α:Type} {enc:α->List ae} {z:Nat} {l:av} {b n:Nat} {a:List α} (aI:∀ x∈a,(enc x).length=z) (aH:a.length=n) (aj:l[b]? = some (.cells (n*z) (a.map enc).flatten)) :b0 z l (.ao z b 0 n n (n*z)) b (a.map enc) :=by
 have fT:=SK aI;refine .ao b n n (n*z) _ _ aj (by rw[fT,aH]) (by simp[aH]) (fun e aw=>?_) (Nat.le_refl _) (Nat.le_refl _) ?_
 ·obtain⟨y,aP,rfl⟩:=List.mem_map.1 aw; exact aI y aP
 ·rw[List.take_of_length_le (by rw[fT,aH]; omega)]
end Op
end Go.cj

namespace Go.cj
open Go Go.Proofs
set_option maxRecDepth 100000
namespace Op
open g9
theorem adw {l:List D} {k:Nat} {x:D} (h:l[k]? = some x) (aG:(l.take k).all fk=true) :(l.take (k+1)).all fk=fk x:=by
 rw[List.take_add_one,h,List.all_append,aG]; simp
theorem adu {l:List D} {k:Nat} {x:D} (h:l[k]? = some x) (ak:fk x=false) :l.all fk=false:=by
 cases aQ:l.all fk with
 | false=>rfl
 | true=>rw[List.all_eq_true.1 aQ x (List.mem_of_getElem? h)] at ak; cases ak
structure acP (l:List D) (k:Nat) (ah:bj) (h:av) :Prop where
 bq:ah 5=cO 1 d9 (some l)
 cx:ah 6=.int .i64 l.length
 eb:ah 7=.int .i64 k
 aG:(l.take k).all fk=true
theorem S7 (l:List D) (ar:l.length<=1000) :bT Tryz.prog GS 190 [cO 1 d9 (some l)] (.bool (l.all fk)) :=by
 refine cd Tryz.checked.mixed b2 ?_;apply bH Qn Zr;unfold F0 LQ;have bw:db (.ao 1) (cO 1 d9 (some l))=some (.int .i64 l.length) :=oa _;simp[bw];refine c0 l.length (acP l) ?_ ⟨by simp,by simp,by simp,by simp⟩;rintro k ah h aF ⟨bq,cx,eb,aG⟩;obtain⟨ah,rfl⟩:=k5 bq cx eb;clear bq cx eb;unfold Wl;by_cases h:k<l.length
 ·obtain⟨x,ak,_⟩:=cg h;have c2:cU (.ao 1) (cO 1 d9 (some l)) (.int .i64 k)=some (.cp (d9 x) 0) :=by rw[pa]; simp[ak]
  have eC:IntKind.i64.wrap ((k:Int)+1)=(k+1:Nat) :=wrap_i64 (by omega) (by omega);simp[h,c2,d9];refine bB (JB x) rfl ?_;cases ay:fk x with
  | false=>
   have:=adu ak ay;simp;exact a7 (by rw[this]) rfl
  | true=>
   simp[eC];exact⟨by omega,by simp,by simp,by simp,by rw[adw ak aG]; exact ay⟩
 ·have ed:k=l.length:=by omega
  subst ed;rw[List.take_length] at aG;simp;exact a7 (by rw[aG]) rfl
theorem anC {l:av} {b:Nat} {x:D} (h:l[b]? = some (.cells 1 [bA x])) :fc (bY l) (.ao 1 b 0 1 1 1) (cO 1 d9 (some [x])) :=by
 refine Ap (rest:=[]) (es:=[[bA x]]) (by simpa using h) rfl (by simp) (by simp[bV,ae.closed])
def Aj (a b:D) :D:=BitVec.ofNat 32 (a.toNat*b.toNat % 1000000007)
theorem agr (a b:D) :bT Tryz.prog GS 166 [bA a,bA b] (.bP [bA (if fk a&&fk b then Aj a b else 0#32),.int .i64 (if fk a&&fk b then 0 else 2)]) :=by
 refine cd Tryz.checked.mixed b2 ?_;apply bH P1 Y6;unfold FG Lw;simp;refine jc (S7 [a,b] (by simp)) (.cons (Aq (by simp)) .nil) rfl ?_;cases aI:fk a with
 | false=>
  simp[aI];exact a7 rfl rfl
 | true=>
  cases aj:fk b with
  | false=>
   simp[aI,aj];exact a7 rfl rfl
  | true=>
   have aS:a.toNat<1000000007:=by unfold fk at aI; simp at aI; exact aI.1.2
   simp[aI,aj];refine jc (J8 [a,b] (by simp)) (.cons (.same _ rfl) (.cons (Aq (by simp)) .nil)) rfl ?_;simp[J7 a b aS];exact a7 rfl rfl
theorem ags (a:D) (n:Q) :bT Tryz.prog GS 165 [bA a,du n] (.bP [bA (if fk a then fP a n.toNat else 0#32),.int .i64 (if fk a then 0 else 2)]) :=by
 refine cd Tryz.checked.mixed b2 ?_;apply bH P0 Y5;unfold FF Lv;simp;refine jc (S7 [a] (by simp)) (.cons (anC (by simp)) .nil) rfl ?_;cases aI:fk a with
 | false=>
  simp[aI];exact a7 rfl rfl
 | true=>
  simp[aI];refine bB (Dy a n) rfl ?_;simp;exact a7 rfl rfl
theorem agq (n:Q) :bT Tryz.prog GS 167 [du n] (bA (fP 4#32 n.toNat)) :=by
 refine cd Tryz.checked.mixed b2 ?_;apply bH P2 Y7;unfold FH Lx;simp;refine bB (Dy 4#32 n) rfl ?_;simp;exact a7 rfl rfl
theorem MR (a:D) (n:Q) :bT Tryz.prog GS 175 [bA a,du n] (bA (fP a n.toNat)) :=by
 refine cd Tryz.checked.mixed b2 ?_;apply bH P5 Za;unfold FL LB;have bg:(a.setWidth 64:Q).toNat=a.toNat:=by rw[BitVec.toNat_setWidth]; omega
 have bL:=vG a.toNat n.toNat
 have et:(BitVec.ofNat 64 (e0 a.toNat n.toNat)).setWidth 32=fP a n.toNat:=by
  apply BitVec.eq_of_toNat_eq;rw[px,BitVec.toNat_setWidth,BitVec.toNat_ofNat];omega
 have aG:=X1 (a.setWidth 64) n (by rw[bg]; exact a.isLt);rw[bg] at aG;simp;refine bB aG rfl ?_;simp[et];exact a7 rfl rfl
theorem ane (n:Q) :bT Tryz.prog GS 143 [du n] (bA (fP 4#32 n.toNat)) :=by
 refine cd Tryz.checked.mixed b2 ?_;apply bH PF YK;unfold Fm Lc;simp;refine bB (MR 4#32 n) rfl ?_;simp;exact a7 rfl rfl
theorem ank (a:D) :bT Tryz.prog GS 174 [bA a] (.bP [bA (if fk a then fP a 500000002 else 0#32),.int .i64 (if fk a then 0 else 2)]) :=by
 refine cd Tryz.checked.mixed b2 ?_;apply bH P4 Y9;unfold FK LA;simp;refine bB (aa6 a) rfl ?_;cases aI:fk a with
 | false=>
  simp;exact a7 rfl rfl
 | true=>
  simp;refine bB (MR a 500000002#64) rfl ?_;simp;exact a7 rfl rfl
theorem anr (a b:D) :bT Tryz.prog GS 176 [bA a,bA b] (bA (Aj a b)) :=by
 refine cd Tryz.checked.mixed b2 ?_;apply bH P6 Zb;unfold FM LC;have bg:∀ a:D,(a.setWidth 64:Q).toNat=a.toNat:=fun a=>by rw[BitVec.toNat_setWidth]; omega
 have et:((a.setWidth 64:Q)*b.setWidth 64 % 1000000007#64).setWidth 32=Aj a b:=by
  apply BitVec.eq_of_toNat_eq;rw[BitVec.toNat_setWidth,xx _ _ (by rw[bg]; exact a.isLt) (by rw[bg]; exact b.isLt),bg,bg];unfold Aj;rw[BitVec.toNat_ofNat]
 simp[DH,et];exact a7 rfl rfl
def sN (l:List B) :Q:=l.foldl (fun n x=>(n <<< 8) ||| x.setWidth 64) 0#64
theorem OO (l:List B) (k:Nat) (x:B) (h:l[k]? = some x) :sN (l.take (k+1))=(sN (l.take k) <<< 8) ||| x.setWidth 64:=by
 rw[List.take_add_one,h]; simp[sN,List.foldl_append]
theorem aom (a:Q) (x:B) :(a <<< 8) ||| x.setWidth 64=256#64*a+x.setWidth 64:=by
 apply BitVec.eq_of_toNat_eq;have ak:x.toNat<256:=x.isLt;have aI:=a.isLt;rw[BitVec.toNat_or,BitVec.toNat_shiftLeft,BitVec.toNat_add,BitVec.toNat_mul,BitVec.toNat_setWidth];have h1:x.toNat % 2 ^ 64=x.toNat:=Nat.mod_eq_of_lt (by omega);have ag:a.toNat <<< 8 % 2 ^ 64=(a.toNat % 2 ^ 56) <<< 8:=by rw[Nat.shiftLeft_eq,Nat.shiftLeft_eq]; omega
 have aq:=Nat.shiftLeft_add_eq_or_of_lt (b:=x.toNat) (i:=8) (by omega) (a.toNat % 2 ^ 56);rw[h1,ag,<-aq,Nat.shiftLeft_eq];have aK:(256#64).toNat=256:=rfl;rw[aK];omega
def hP (n:D) :List B:=[(n >>> 24).setWidth 8,(n >>> 16).setWidth 8,(n >>> 8).setWidth 8,n.setWidth 8]
def kh (l:List D) :List B:=l.flatMap hP
theorem agn {l:List D} {k:Nat} {x:D} (h:l[k]? = some x) :kh (l.take (k+1))=kh (l.take k)++hP x:=by
 unfold kh; rw[List.take_add_one,h,List.flatMap_append]; simp
theorem SR (l:List D) :(kh l).length=4*l.length:=by
 induction l with
 | nil=>rfl
 | cons x l aM=>unfold kh at aM ⊢; rw[List.flatMap_cons,List.length_append,aM,List.length_cons]; simp[hP]; omega
def y7 (b:List B) :Q:=sN ((g6 b).take 8)
theorem anD {l:av} {b:Nat} {v m bc ck:ae} (h:l[b]? = some (.cells 2 [v,m])) (h1:fc (bY l) v bc) (ag:fc (bY l) m ck) :fc (bY l) (.ao 1 b 0 2 2 2) (.bW 1 [[bc],[ck]]) :=by
 refine .ao 1 b 0 2 2 2 [v,m] [[bc],[ck]] (oB.2 h) rfl (by simp) (by simp) (fun i j e c c' aw am al=>?_);rcases i with _ | _ | i
 ·simp at aw; subst aw;rcases j with _ | j
  ·simp at am al; subst am al; exact h1
  ·simp at am
 ·simp at aw; subst aw;rcases j with _ | j
  ·simp at am al; subst am al; exact ag
  ·simp at am
 ·simp at aw
theorem aow {b:Nat}:fu (.arr 32 1) (.ptr b 0 32) none (some (.int .i64 8)) none=some (.ao 1 b 0 8 32 32) :=by
 have:fH 32 32 none (some (.int .i64 8)) none=some (0,8,32) :=rfl;simp only[fu,this]; rfl
structure ac0 (hY:B) (m:d7) (eB:List D) (k:Nat) (ah:bj) (l:av) :Prop where
 aY:ah 1=cv m
 rx:ah 21=cO 1 d9 (some eB)
 HB:ah 22=.int .i64 eB.length
 wH:ah 23=.int .i64 k
 ex:∃ v,ah 8=v/\cl 1 b8 [] l v (hY::kh (eB.take k)) false
structure acQ (d:List B) (e:Int) (k:Nat) (ah:bj) (l:av) :Prop where
 e7:ah 12=.int .i64 e
 hb:ah 13=du (sN (d.take k))
 HC:∃ b n,ah 49=.ao 1 b 0 8 n n/\l[b]? = some (.cells n (d.map bF))/\n=32
 HD:ah 50=.int .i64 8
 HE:ah 51=.int .i64 k
set_option maxHeartbeats 1000000 in
theorem ahl (hY:B) (m:d7) (hm:m.l.length<=9991) (eB:List D) (ar:eB.length<=10) :bT Tryz.prog GS 192 [bF hY,cv m,cO 1 d9 (some eB)] (.bP [du (y7 (hY::(kh eB++m.l))),.int .i64 0]) :=by
 refine cd Tryz.checked.mixed b2 ?_;apply bH Qp Zt;unfold F2 LS;have aD:cQ=140737488355328:=rfl;have bw:db (.ao 1) (cv m)=some (.int .i64 m.l.length) :=oa _;have aiv:db (.ao 1) (cO 1 d9 (some eB))=some (.int .i64 eB.length) :=oa _;have fe:¬ (9991:Int)<(m.l.length:Int) :=by omega
 have HP:¬ 9991<m.l.length:=by omega
 have ho:=kJ m;simp[bw,aiv,fe,HP];refine c0 eB.length (ac0 hY m eB) ?_ ⟨by simp,by simp,by simp,by simp,_,rfl,⟨0,pu (n:=1) (a:=[hY]) rfl rfl,by simp,by simp,.inr (by simp),rfl⟩⟩;rintro k ah l aF ⟨aY,rx,HB,wH,v,dN,eI⟩;obtain⟨ah,rfl⟩:=k6 aY dN rx HB wH;clear aY dN rx HB wH;unfold Wn;by_cases h:k<eB.length
 ·obtain⟨x,ak,_⟩:=cg h;have c2:cU (.ao 1) (cO 1 d9 (some eB)) (.int .i64 k)=some (.cp (d9 x) 0) :=by rw[pa]; simp[ak]
  have eC:IntKind.i64.wrap ((k:Int)+1)=(k+1:Nat) :=wrap_i64 (by omega) (by omega);have au:=agn ak;have fT:=SR (eB.take k);rw[List.length_take] at fT;obtain⟨bc,l',bt,bE,a3⟩:=(eI.more [bv.cells 4 ((hP x).map bF)]).app (by_:=1) (x:=.ao 1 l.length 0 4 4 4) (xs:=hP x) (by rw[ww]; simp[dj,hP]) (fun y _=>rfl) (by omega) (by omega) (by rw[aD]; simp[hP]; omega);rw[show (hP x).map bF=[.int .u8 (u (BitVec.setWidth 8 (x >>> 24))),.int .u8 (u (BitVec.setWidth 8 (x >>> 16))),.int .u8 (u (BitVec.setWidth 8 (x >>> 8))),.int .u8 (u (BitVec.setWidth 8 x))] from rfl] at bt;simp[h,c2,d9,eC,bt];refine dM.cM ?_;simp[eC];exact⟨by omega,by simp,by simp,by simp,by simp,bc,by simp,by rw[au,<-List.cons_append]; exact bE⟩
 ·have ed:k=eB.length:=by omega
  subst ed;rw[List.take_length] at eI;have fT:=SR eB;have aG:=Kw [some (hY::kh eB),m] (by simp) (fun s au=>by
   rcases List.mem_cons.1 au with h | h
   ·rw[h]; show (hY::kh eB).length<=_; simp; omega
   ·rw[List.mem_singleton.1 h]; omega)
  have dE:bytesOf [some (hY::kh eB),m]=hY::(kh eB++m.l) :=by simp[bytesOf]
  rw[dE] at aG;have zE:=eI.cells;have w1:(cv m).cells=some [cv m] :=by cases m<;>rfl
  obtain⟨hu,u5⟩:∃ hu,hu=g6 (hY::(kh eB++m.l)) :=⟨_,rfl⟩
  have u6:hu.length=32:=by rw[u5]; exact ud _
  rw[<-u5] at aG;have Ih:(hu.map bF).length=32:=by simp[u6]
  have Iq:ff hu=.aV (hu.map bF) :=rfl;rw[Iq] at aG;have I6:bU (rep 32 (.int .u8 0)) 0 (hu.map bF)=hu.map bF:=h3 (by rw[Ih]; rfl);have e8:∀ b,fu (.arr 32 1) (.ptr b 0 32) none (some (.int .i64 8)) none=some (.ao 1 b 0 8 32 32) :=fun b=>aow (b:=b)
  simp[zE,w1];refine jc aG (.cons (anD (by simp) ((eI.more _).qU (fun _=>rfl) (some (hY::kh eB)) rfl rfl) (.same _ ho)) .nil) (by simp[ae.flat,kg,ff,wC bF (fun _=>rfl)]) ?_;simp[u6,I6,e8];refine c0 8 (acQ hu 0) ?_ ⟨by simp,by simp[sN],⟨l.length+1,32,by simp,by simp[List.getElem?_append],rfl⟩,by simp,by simp⟩;clear eI;rintro k ah l aF ⟨e7,hb,⟨b,n,HC,aj,rfl⟩,HD,HE⟩;obtain⟨ah,rfl⟩:=k6 e7 hb HC HD HE;clear e7 hb HC HD HE;unfold Wo;by_cases h:k<8
  ·obtain⟨x,ak,_⟩:=cg (l:=hu) (k:=k) (by omega);have eC:IntKind.i64.wrap ((k:Int)+1)=(k+1:Nat) :=wrap_i64 (by omega) (by omega);have au:=OO hu k x ak;have ed:(k:Int)<8:=by omega
   have att:(hu.map bF)[k]? = some (bF x) :=by rw[List.getElem?_map,ak]; rfl
   simp[h,ed,aj,eC,ak];exact⟨by simp,by simp[au],⟨b,32,by simp,by simpa using aj,rfl⟩,by simp,by simp⟩
  ·have g1:k=8:=by omega
   subst g1;simp;exact a7 (by unfold y7; rw[u5]) rfl
def yA (r y:D) (m:List B) :D:=(y7 (99#8::(kh [r,y]++m)) % 500000003#64).setWidth 32
theorem abb (x:Q) :cn .rem .u64 (u x) .u64 500000003=some (.int .u64 (u (x % 500000003#64))) :=wi x 500000003#64 (by decide)
theorem apO (r y:D) (m:d7) (hm:m.l.length<=9991) :bT Tryz.prog GS 168 [bA r,bA y,cv m] (.bP [bA (yA r y m.l),.int .i64 0]) :=by
 refine cd Tryz.checked.mixed b2 ?_;apply bH P3 Y8;unfold FI Ly;have ho:=kJ m;simp;refine jc (ahl 99#8 m hm [r,y] (by simp)) (.cons (.same _ rfl) (.cons (.same _ ho) (.cons (Aq (by simp)) .nil))) rfl ?_;simp[abb];exact a7 rfl rfl
theorem KG (a b:D) (aj:b≠0#32) :cn .quo .u32 (u a) .u32 (u b)=some (.int .u32 (u (a / b))) :=by
 have bK:(b.toNat:Int)≠0:=fun e=>aj (BitVec.eq_of_toNat_eq (by simpa using e))
 show (if IntKind.u32=IntKind.u32/\(b.toNat:Int)≠0 then some (ae.int .u32 (IntKind.u32.wrap ((a.toNat:Int).tdiv b.toNat))) else none)=_;rw[if_pos ⟨rfl,bK⟩,x5];congr 2;have:((a.toNat:Int).tdiv b.toNat)=((a.toNat / b.toNat:Nat) :Int) :=rfl;rw[this,BitVec.ofInt_natCast];congr 1;apply BitVec.eq_of_toNat_eq;rw[BitVec.toNat_ofNat,BitVec.toNat_udiv];exact Nat.mod_eq_of_lt (Nat.lt_of_le_of_lt (Nat.div_le_self _ _) a.isLt)
theorem SQ (x:D) {l:av} {K:ae->av->Prop} (a8:∀ v l',cl 1 b8 l l' v (hP x) false->K v l') :dp Tryz.prog GS 181 [bA x] l (c:=⟨K⟩) :=by
 apply bH Qc Zh;unfold FR LH;have q1:cn .quo .u32 (u x) .u32 16777216=some (.int .u32 (u (x / 16777216#32))) :=KG x 16777216#32 (by decide);have im:cn .quo .u32 (u x) .u32 65536=some (.int .u32 (u (x / 65536#32))) :=KG x 65536#32 (by decide);have sn:cn .quo .u32 (u x) .u32 256=some (.int .u32 (u (x / 256#32))) :=KG x 256#32 (by decide);have ky:∀ y:D,cn .rem .u32 (u y) .u32 256=some (.int .u32 (u (y % 256#32))) :=fun y=>ad3 y 256#32 (by decide)
 have ak:=x.isLt;have a1:BitVec.setWidth 8 (x / 16777216#32)=BitVec.setWidth 8 (x >>> 24) :=by
  apply BitVec.eq_of_toNat_eq;rw[BitVec.toNat_setWidth,BitVec.toNat_setWidth,BitVec.toNat_udiv,BitVec.toNat_ushiftRight,Nat.shiftRight_eq_div_pow];rfl
 have b3:BitVec.setWidth 8 (x / 65536#32 % 256#32)=BitVec.setWidth 8 (x >>> 16) :=by
  apply BitVec.eq_of_toNat_eq;rw[BitVec.toNat_setWidth,BitVec.toNat_setWidth,BitVec.toNat_umod,BitVec.toNat_udiv,BitVec.toNat_ushiftRight,Nat.shiftRight_eq_div_pow];show x.toNat / 65536 % 256 % 256=x.toNat / 65536 % 256;omega
 have dD:BitVec.setWidth 8 (x / 256#32 % 256#32)=BitVec.setWidth 8 (x >>> 8) :=by
  apply BitVec.eq_of_toNat_eq;rw[BitVec.toNat_setWidth,BitVec.toNat_setWidth,BitVec.toNat_umod,BitVec.toNat_udiv,BitVec.toNat_ushiftRight,Nat.shiftRight_eq_div_pow];show x.toNat / 256 % 256 % 256=x.toNat / 256 % 256;omega
 have lk:BitVec.setWidth 8 (x % 256#32)=BitVec.setWidth 8 x:=by
  apply BitVec.eq_of_toNat_eq;rw[BitVec.toNat_setWidth,BitVec.toNat_setWidth,BitVec.toNat_umod];show x.toNat % 256 % 256=x.toNat % 256;omega
 simp[q1,im,sn,ky,a1,b3,dD,lk];exact a8 _ _ ⟨l.length,pu (n:=4) (a:=hP x) rfl (by simp; rfl),by simp,fun b aj=>List.getElem?_append_left aj,.inr (by simp),rfl⟩
structure ac4 (d:List B) (k:Nat) (ah:bj) (l:av) :Prop where
 bi:ah 3=.ptr 0 0 32
 bI:ah 4=du (sN (d.take k))
 bq:ah 5=.int .i64 k
 eT:l[0]? = some (.cells 32 (d.map bF))
theorem alK (s:d7) (au:s.l.length<=1000000) :bT Tryz.prog GS 182 [cv s] (du (y7 s.l)) :=by
 refine cd Tryz.checked.mixed b2 ?_;apply bH Qd Zi;unfold FS LI;have l3:=MV s au;have cH:=kJ s;obtain⟨hu,u5⟩:∃ hu,hu=g6 s.l:=⟨_,rfl⟩
 have u6:hu.length=32:=by rw[u5]; exact ud _
 rw[<-u5] at l3;have Iq:ff hu=.aV (hu.map bF) :=rfl;rw[Iq] at l3;have Ih:(hu.map bF).length=32:=by simp[u6]
 have I6:bU (rep 32 (.int .u8 0)) 0 (hu.map bF)=hu.map bF:=h3 (by rw[Ih]; rfl);simp;refine bB l3 (by simp[bV,cH]) ?_;simp[u6,I6];refine c0 8 (ac4 hu) ?_ ⟨by simp,by simp[sN],by simp,rfl⟩;rintro k ah l aF ⟨bi,bI,bq,eT⟩;obtain⟨ah,rfl⟩:=k5 bi bI bq;clear bi bI bq;unfold Wf;by_cases h:k<8
 ·obtain⟨x,ak,_⟩:=cg (l:=hu) (k:=k) (by omega);have eC:IntKind.i64.wrap ((k:Int)+1)=(k+1:Nat) :=wrap_i64 (by omega) (by omega);have au:=OO hu k x ak;rw[aom] at au;have ed:(k:Int)<8:=by omega
  have It:k<32:=by omega
  simp[h,ed,It,eT,eC,ak];exact⟨by omega,by simp,by simp[au],by simp,eT⟩
 ·have g1:k=8:=by omega
  subst g1;simp;exact a7 (by unfold y7; rw[u5]) rfl
theorem ang (r y:D) (m:d7) (hm:m.l.length<=900000) :bT Tryz.prog GS 145 [bA r,bA y,cv m] (bA (yA r y m.l)) :=by
 refine cd Tryz.checked.mixed b2 ?_;apply bH PH YM;unfold Fo Ld;have aD:cQ=140737488355328:=rfl;have ho:=kJ m;simp;refine SQ r fun fa l1 h1=>?_
 have Uv:=h1.le;have aiT:cl 1 b8 [] l1 (.ao 1 0 0 1 1 1) [99#8] false:=⟨0,pu (n:=1) (a:=[99#8]) rfl (by rw[h1.same 0 (by simp)]; rfl),by simp,by simp,.inr (by simp),rfl⟩
 obtain⟨dt,ce,bt,bE,a3⟩:=aiT.app (by_:=1) (x:=fa) (xs:=hP r) h1.contents (fun _ _=>rfl) (by omega) (by omega) (by rw[aD]; simp[hP]);simp[bt];refine dM.cM ?_;simp;refine SQ y fun v3 ek aq=>?_
 have aiU:cl 1 b8 [] ek dt ([99#8]++hP r) false:=bE.frame aq.le aq.same;obtain⟨v4,pi,dV,dK,gu⟩:=aiU.app (by_:=1) (x:=v3) (xs:=hP y) aq.contents (fun _ _=>rfl) (by omega) (by omega) (by rw[aD]; simp[hP]);simp[dV];refine dM.cM ?_;obtain⟨v5,WC,cN,dm,jn⟩:=dK.app (by_:=1) (x:=cv m) (xs:=m.l) (Sa _ _) (fun _ _=>rfl) (by omega) (by omega) (by rw[aD]; simp[hP]; omega);simp[cN];refine dM.cM ?_;have aj:(eh.l (some ([99#8]++hP r++hP y++m.l)) :List B)=99#8::(kh [r,y]++m.l) :=by simp[kh]
 have UK:=alK (some ([99#8]++hP r++hP y++m.l)) (by rw[aj]; simp[kh,hP]; omega);rw[aj] at UK;simp;refine jc UK (.cons (dm.qU (fun _=>rfl) (some ([99#8]++hP r++hP y++m.l)) (by simp) rfl) .nil) rfl ?_;simp[abb];exact a7 rfl rfl
theorem Dx (a n k:Nat) :e0 (e0 a n) k=e0 a (n*k) :=by
 unfold e0; rw[<-Nat.pow_mod,<-Nat.pow_mul]
theorem XY (n:Nat) :e0 1 n=1:=by unfold e0; rw[Nat.one_pow]
theorem amk (a m n:Nat) :e0 a (m+n)=e0 a m*e0 a n % 1000000007:=by
 unfold e0; rw[Nat.pow_add,Nat.mul_mod]
theorem adM:e0 4 500000003=1:=by
 have h:=Ky 4 500000003 (by decide) 64 (Nat.le_refl _);rw[show 500000003 / 2 ^ (64 - 64)=500000003 from rfl] at h;rw[<-h];decide +kernel
theorem JC {y:D} (h:e0 y.toNat 500000003=1) (n:Nat) :fk (fP y n)=true:=by
 have ax:=px y n;have aS:=vG y.toNat n;have h1:e0 (e0 y.toNat n) 500000003=1:=by
  rw[Dx,Nat.mul_comm,<-Dx,h,XY]
 have aO:e0 y.toNat n≠0:=fun e=>by
  rw[e] at h1;have aC:∀ n,0<n->e0 0 n=0:=fun n aH=>by unfold e0; rw[Nat.zero_pow aH]
  rw[aC _ (by decide)] at h1;cases h1
 unfold fk;rw[ax,decide_eq_true (by omega),decide_eq_true aS,decide_eq_true h1]; rfl
theorem Vp {y:D} (h:fk y=true) :e0 y.toNat 500000003=1:=by
 unfold fk at h; simp only[Bool.and_eq_true,decide_eq_true_eq] at h; exact h.2
theorem adL {y:D} (h:e0 y.toNat 500000003=1) {e:Nat} (aw:e<500000003) :fP (fP y e) 500000002=fP y (500000003 - e) :=by
 apply BitVec.eq_of_toNat_eq;rw[px,px,px,Dx];rcases e with _ | e
 ·rw[Nat.zero_mul,Nat.sub_zero,h];unfold e0; rfl
 ·have a1:(e+1)*500000002=500000003*e+(500000003 - (e+1)) :=by omega
  rw[a1,amk,<-Dx,h,XY,Nat.one_mul,Nat.mod_eq_of_lt (vG _ _)]
def Ao (y:D) (e s:D) :D:=Aj (fP 4#32 s.toNat) (fP y (500000003 - e.toNat))
def AC (y:D) (m:List B) (e s:D) :Bool:=hO e&&(hO s&&decide (yA (Ao y e s) y m=e))
theorem aoU {e:D} (aw:e.toNat<500000003) :(500000003#64 - e.setWidth 64).toNat=500000003 - e.toNat:=by
 rw[BitVec.toNat_sub,BitVec.toNat_setWidth];have:(500000003#64).toNat=500000003:=rfl;rw[this]; omega
theorem ap1 (y:D) (aP:fk y=true) (m:d7) (hm:m.l.length<=9991) (e s:D) :bT Tryz.prog GS 120 [bA y,cv m,.aV [bA e,bA s]] (.int .i64 (if AC y m.l e s then 0 else 22)) :=by
 refine cd Tryz.checked.mixed b2 ?_;apply bH Po Yt;unfold E6 KX AC;have bw:db (.ao 1) (cv m)=some (.int .i64 m.l.length) :=oa _;have fe:¬ (9991:Int)<(m.l.length:Int) :=by omega
 have HP:¬ 9991<m.l.length:=by omega
 have ho:=kJ m;have bp:=Vp aP;have T4:=JB y;rw[aP] at T4;simp;refine bB T4 rfl ?_;obtain⟨M,lq⟩:∃ M:Int,M=if u e<u s then u s else u e:=⟨_,rfl⟩
 have vh:sd (bA e) (bA s)=some (.int .u32 M) :=by rw[lq]; simp[sd,bA]
 have Tr:(500000003:Int)<=M<->500000003<=e.toNat\/500000003<=s.toNat:=by
  rw[lq]; unfold u; split<;>omega
 simp[bw,fe,HP,vh];by_cases h1:500000003<=e.toNat\/500000003<=s.toNat
 ·have aj:(hO e&&(hO s&&decide (yA (Ao y e s) y m.l=e)))=false:=by
   unfold hO;rcases h1 with h | h
   ·rw[decide_eq_false (by omega)]; rfl
   ·rw[decide_eq_false (p:=s.toNat<500000003) (by omega)]; simp
  have al:=Tr.2 h1;simp[al,aj];exact a7 rfl rfl
 ·have al:¬ (500000003:Int)<=M:=fun h=>h1 (Tr.1 h)
  have fZ:hO e=true:=by unfold hO; exact decide_eq_true (by omega)
  have fz:hO s=true:=by unfold hO; exact decide_eq_true (by omega)
  have UU:=ags y (500000003#64 - e.setWidth 64);have ajh:(s.setWidth 64:Q).toNat=s.toNat:=by rw[BitVec.toNat_setWidth]; omega
  have B6:=agq (s.setWidth 64);rw[aP,if_pos rfl,if_pos rfl,aoU (by omega)] at UU;rw[ajh] at B6;have rQ:=agr (fP 4#32 s.toNat) (fP y (500000003 - e.toNat));rw[JC (y:=4#32) adM,JC bp] at rQ;simp only[Bool.and_self,if_true] at rQ;have zb:=apO (Ao y e s) y m hm;have eQ:∀ a b:D,((u a:Int)=u b)<->a=b:=fun a b=>⟨fun h=>BitVec.eq_of_toNat_eq (by unfold u at h; omega),fun h=>by rw[h]⟩
  simp[al];refine bB UU rfl ?_;simp;refine bB B6 rfl ?_;simp;refine bB rQ rfl ?_;simp;refine bB zb (by simp[bV,ae.closed,ho]) ?_;rw[fZ,fz];by_cases aq:yA (Ao y e s) y m.l=e
  ·simp[aq];exact a7 rfl rfl
  ·simp[aq,eQ];exact a7 rfl rfl
theorem anl (s:D) :bT Tryz.prog GS 105 [bA s] (bA (fP 4#32 s.toNat)) :=by
 refine cd Tryz.checked.mixed b2 ?_;apply bH O9 Yg;unfold EU KL;have aoa:(s.setWidth 64:Q).toNat=s.toNat:=by rw[BitVec.toNat_setWidth]; omega
 have B5:=ane (s.setWidth 64);rw[aoa] at B5;simp;refine bB B5 rfl ?_;simp;exact a7 rfl rfl
theorem ans (y:D) (aP:fk y=true) (m:d7) (hm:m.l.length<=900000) (e s:D) :bT Tryz.prog GS 136 [bA y,cv m,.aV [bA e,bA s]] (.bool (AC y m.l e s)) :=by
 refine cd Tryz.checked.mixed b2 ?_;apply bH Px YC;unfold Ff K5 AC;have ho:=kJ m;have bp:=Vp aP;have eQ:∀ a b:D,((u a:Int)=u b)<->a=b:=fun a b=>⟨fun h=>BitVec.eq_of_toNat_eq (by unfold u at h; omega),fun h=>by rw[h]⟩
 simp;refine bB (BC e) rfl ?_;cases h1:hO e with
 | false=>simp; exact a7 rfl rfl
 | true=>
 simp;refine bB (BC s) rfl ?_;cases ag:hO s with
 | false=>simp; exact a7 rfl rfl
 | true=>
 have aw:e.toNat<500000003:=by unfold hO at h1; exact of_decide_eq_true h1
 have afK:(e.setWidth 64:Q).toNat=e.toNat:=by rw[BitVec.toNat_setWidth]; omega
 have UZ:=MR y (e.setWidth 64);rw[afK] at UZ;have Ua:=ank (fP y e.toNat);rw[JC bp,if_pos rfl,if_pos rfl,adL bp aw] at Ua;have B5:=anl s;have w8:=anr (fP 4#32 s.toNat) (fP y (500000003 - e.toNat));have zb:=ang (Ao y e s) y m hm;simp;refine bB UZ rfl ?_;simp;refine bB Ua rfl ?_;simp;refine bB B5 rfl ?_;simp;refine bB w8 rfl ?_;simp;refine bB zb (by simp[bV,ae.closed,ho]) ?_;simp[eQ];exact a7 rfl rfl
def Nh (o:bS) :Bool:=AC o.gI (ja o) o.e o.s
def pD (o:bS) :Int:=if fV o=0 then (if Nh o then 0 else 22) else fV o
theorem XA {o:bS} (aA:∀ x∈o.bO.l,x.length=32) (h:fV o=0) :fk o.gI=true/\(ja o).length<=9991:=by
 have aK:=xH h;unfold fV at h;rw[if_neg (by omega)] at h;split at h
 ·split at h
  ·rename_i aD ay;unfold rC at ay;simp only[Bool.and_eq_true,decide_eq_true_eq] at ay;obtain⟨aY,a6,bi,bI,bq⟩:=ay;refine⟨aY,?_⟩;have Iw:o.act.key.length<=20/\(o.act.kind=4#8->o.act.val.text.length<=30) :=by
    unfold iO at bi;split at bi
    ·rename_i h1;simp only[Bool.and_eq_true,decide_eq_true_eq] at bi;rw[bi.1];exact⟨by simp,fun h=>by rw[h1] at h; cases h⟩
    ·split at bi
     ·rename_i h1 ag;simp only[Bool.and_eq_true] at bi;have aF:=bi.1;unfold gk at aF;simp only[Bool.and_eq_true,decide_eq_true_eq] at aF;exact⟨aF.1.2,fun h=>by rw[h] at ag; rcases ag with ag | ag<;>cases ag⟩
     ·split at bi
      ·simp only[Bool.and_eq_true] at bi;obtain⟨aF,ax⟩:=bi;unfold gk at aF;simp only[Bool.and_eq_true,decide_eq_true_eq] at aF;refine⟨aF.1.2,fun _=>?_⟩;unfold jg at ax;split at ax
       ·simp only[Bool.and_eq_true,decide_eq_true_eq] at ax; rw[ax.2]; simp
       ·split at ax
        ·simp only[Bool.and_eq_true,decide_eq_true_eq] at ax; rw[ax.1.2]; simp
        ·split at ax
         ·simp only[Bool.and_eq_true,decide_eq_true_eq] at ax; exact ax.1.2
         ·cases ax
      ·cases bi
   have lE:=g5 o.gI.toNat
   have qH:=g5 o.hF.toNat
   have sf:=zZ aA;have pq:=x0 (eX o.act.key);rw[ol] at pq;have j2:=AM o.act.val;have n6:(opHead o).length<=10:=by unfold opHead; simp; omega
   unfold ja;simp only[List.length_append,List.length_cons,List.length_nil];have avL:(if o.act.kind=1#8 then ([] :List B) else hG (eX o.act.key)).length<=29:=by
    split
    ·simp
    ·omega
   have avM:(if o.act.kind=4#8 then hH o.act.val else []).length<=50:=by
    split
    ·rename_i h; have:=Iw.2 h; omega
    ·simp
   omega
  ·cases h
 ·cases h
theorem ap2 (o:bS) (az:kD o) :bT Tryz.prog GS 85 [.aV (bz o)] (.int .i64 (pD o)) :=by
 refine cd Tryz.checked.mixed b2 ?_;apply bH Rv aaA;unfold GV ME pD;have ds:=nD o;have dU:=D9 o az;have u4:bV [ae.aV (bz o)]=true:=by simp[bV,ae.closed,ds]
 by_cases aO:fV o=0
 ·obtain⟨ay,bw⟩:=XA az.ids aO;rw[if_pos aO];simp[bz];refine bB dU u4 ?_;simp[aO];refine acy o az (OI aO) fun w l' h=>?_
  have eT:l'[0]? = some (.cells 11 (bz o)) :=by rw[h.same 0 (by simp)]; rfl
  have Ae:=eT;simp[bz] at Ae;have ax:=ap1 o.gI ay (some (ja o)) bw o.e o.s;simp[Ae];refine jc ax (.cons (.same _ rfl) (.cons (h.qU (fun _=>rfl) (some (ja o)) rfl rfl) (.cons (.same _ rfl) .nil))) rfl ?_;simp;exact a7 rfl rfl
 ·rw[if_neg aO];simp[bz];refine bB dU u4 ?_;simp[aO];exact a7 rfl rfl
theorem anv (o:bS) (az:kD o) (aO:fV o=0) :bT Tryz.prog GS 93 [.aV (bz o)] (.bool (Nh o)) :=by
 refine cd Tryz.checked.mixed b2 ?_;apply bH RD aaJ;unfold G1 MJ;have ds:=nD o;obtain⟨ay,bw⟩:=XA az.ids aO;have ax:=ans o.gI ay (some (ja o)) (by show (ja o).length<=_; omega) o.e o.s;simp[bz];refine aaY o az (by have:=xH aO; omega) fun w l' h=>?_
 have eT:l'[0]? = some (.cells 11 (bz o)) :=by rw[h.same 0 (by simp)]; rfl
 have Ae:=eT;simp[bz] at Ae;simp[Ae];refine jc ax (.cons (.same _ rfl) (.cons (h.qU (fun _=>rfl) (some (ja o)) rfl rfl) (.cons (.same _ rfl) .nil))) rfl ?_;simp;exact a7 rfl rfl
theorem anx (o:bS) (az:kD o) :bT Tryz.prog GS 61 [.aV (bz o)] (.int .i64 (pD o)) :=by
 refine cd Tryz.checked.mixed b2 ?_;apply bH Q9 aaf;unfold Gw Ml pD;have ds:=nD o;have dU:=ano o az;have u4:bV [ae.aV (bz o)]=true:=by simp[bV,ae.closed,ds]
 by_cases aO:fV o=0
 ·rw[if_pos aO];simp[bz];refine bB dU u4 ?_;simp[aO];refine bB (anv o az aO) u4 ?_;cases au:Nh o with
  | true=>simp; exact a7 rfl rfl
  | false=>simp; exact a7 rfl rfl
 ·rw[if_neg aO];simp[bz];refine bB dU u4 ?_;simp[aO];refine bB dU u4 ?_;simp;exact a7 rfl rfl
end Op
end Go.cj

namespace Go.cj
open Go Go.Proofs
set_option maxRecDepth 100000
namespace Op
section
variable {α:Type} {z:Nat} {enc:α->List ae}
theorem alR {by_:Nat} {l l1:av} {v:ae} {a:List α} {fg:Bool} (h:cl z enc l l1 v a fg) (x:α) {b:Nat} (aj:l1[b]? = some (.cells z (enc x))) (ak:(enc x).length=z) (aO:z≠0) (dE:by_≠0) (dk:(a.length+1)*by_<=cQ) :
  ∃ bc l',iR l1 z by_ v (.ao z b 0 1 1 z)=some (bc,l')/\cl z enc l l' bc (a++[x]) false/\l1.length<=l'.length:=by
 obtain⟨bc,l',aY,a6,bi⟩:=h.app (by_:=by_) (x:=.ao z b 0 1 1 z) (xs:=[x]) (by simp[dj,aj,ak,List.take_of_length_le]) (by simp[ak]) aO dE (by simpa using dk);exact⟨bc,l',aY,by simpa using a6,bi⟩
theorem abF {lt:α->α->Bool} (Cx:∀ a,lt a a=false) (U8:∀ a b c,lt a b=true->lt b c=true->lt a c=true) :∀ {l m:List α},l.Pairwise (fun a b=>lt a b=true)->m.Pairwise (fun a b=>lt a b=true)->(∀ y,y∈l<->y∈m)->l=m
 | [],[],_,_,_=>rfl
 | [],b::m,_,_,h=>absurd ((h b).2 (by simp)) (by simp)
 | a::l,[],_,_,h=>absurd ((h a).1 (by simp)) (by simp)
 | a::l,b::m,ar,hm,h=>by
  obtain⟨l1,ce⟩:=List.pairwise_cons.1 ar;obtain⟨i8,iF⟩:=List.pairwise_cons.1 hm;have hQ:a=b:=by
   rcases List.mem_cons.1 ((h a).1 (by simp)) with e | e
   ·exact e
   ·rcases List.mem_cons.1 ((h b).2 (by simp)) with b3 | b3
    ·exact b3.symm
    ·have:=U8 _ _ _ (i8 a e) (l1 b b3);rw[Cx] at this; cases this
  subst hQ;congr 1;refine abF Cx U8 ce iF fun y=>⟨fun aP=>?_,fun aP=>?_⟩
  ·rcases List.mem_cons.1 ((h y).1 (by simp[aP])) with e | e
   ·subst e;have:=l1 y aP;rw[Cx] at this; cases this
   ·exact e
  ·rcases List.mem_cons.1 ((h y).2 (by simp[aP])) with e | e
   ·subst e;have:=i8 y aP;rw[Cx] at this; cases this
   ·exact e
end
section
variable {α:Type} [DecidableEq α]
end
end Op
end Go.cj

namespace Go.cj
open Go Go.Proofs
set_option maxRecDepth 100000
namespace Op
open g9
def lC {α:Type} [DecidableEq α] (x:α) :List α->Nat->Int
 | [],_=>-1
 | y::r,k=>if y=x then (k:Int) else lC x r (k+1)
theorem JD {α:Type} [DecidableEq α] (x:α) :∀ (l:List α) (k:Nat),(0<=lC x l k)<->x∈l
 | [],k=>by simp[lC]
 | y::r,k=>by
  unfold lC;by_cases h:y=x
  ·simp[h]
  ·rw[if_neg h,JD x r (k+1)];simp[Ne.symm h]
theorem C0 {α:Type} [DecidableEq α] {x:α}:∀ {l:List α} {k n:Nat} {y:α},l[k]? = some y->(∀ (j:Nat) (z:α),j<k->l[j]? = some z->z≠x)->y=x->lC x l n=((n+k:Nat) :Int)
 | [],k,n,y,h,_,_=>by simp at h
 | w::r,0,n,y,h,_,aP=>by
  simp at h; subst h;unfold lC;rw[if_pos aP]; simp
 | w::r,k+1,n,y,h,ar,aP=>by
  unfold lC;rw[if_neg (ar 0 w (by omega) (by simp)),C0 (k:=k) (n:=n+1) (by simpa using h) (fun j z am aC=>ar (j+1) z (by omega) (by simpa using aC)) aP];congr 1; omega
theorem JE {α:Type} [DecidableEq α] {x:α}:∀ {l:List α} {n:Nat},(∀ (j:Nat) (z:α),l[j]? = some z->z≠x)->lC x l n=-1
 | [],n,_=>rfl
 | w::r,n,ar=>by
  unfold lC;rw[if_neg (ar 0 w (by simp)),JE fun j z aC=>ar (j+1) z (by simpa using aC)]
theorem aaV (s:fS) (az:ik s) (ar:s.l.length<=1000000) (x:List B) (ak:x.length=32) :bT Tryz.prog GS 30 [bl s,.aV (bb x)] (.bool (decide (x∈s.l))) :=by
 refine cd Tryz.checked.mixed b2 ?_;apply bH QH ZL;unfold Gi L7;simp[bl];refine c0 s.l.length (fun k ah l=>l=[.cells 32 (bb x)]/\ah 0=cO 32 bb s/\ah 3=.ptr 0 0 32/\ah 5=.int .i64 k/\∀ (j:Nat) (z:List B),j<k->s.l[j]? = some z->z≠x) ?_ (by simp[bl,dr ak]);rintro k ah l aF ⟨rfl,cz,bi,bq,au⟩;obtain⟨ah,rfl⟩:=k5 cz bi bq;clear cz bi bq;unfold Wz;simp;refine qB (fun h=>?_) (fun h=>?_)
 ·simp only[decide_eq_true_eq] at h;obtain⟨y,aP,eA⟩:=cg (l:=s.l) (k:=k) (by omega);have a1:IntKind.i64.wrap ((k:Int)+1)=((k+1:Nat) :Int) :=by rw[IntKind.wrap_i64]; omega
  simp[aP,dr (az y eA),dr ak,List.take_of_length_le,Jp (az y eA) ak];by_cases aw:y=x
  ·simp[aw];exact a7 (congrArg ae.bool (decide_eq_true (by rw[<-aw]; exact eA)).symm) rfl
  ·simp[aw,a1];refine⟨by omega,fun j z am aC=>?_⟩;by_cases hS:j=k
   ·subst hS; rw[aP] at aC; obtain rfl:=Option.some.inj aC; exact aw
   ·exact au j z (by omega) aC
 ·simp[h];have nS:k=s.l.length:=by simp at h; omega
  refine a7 (congrArg ae.bool (decide_eq_false fun hm=>?_).symm) rfl;obtain⟨j,am⟩:=List.mem_iff_getElem?.1 hm;exact au j x (by rw[nS]; exact (List.getElem?_eq_some_iff.1 am).1) am rfl
theorem aaS (s:fS) (az:ik s) (ar:s.l.length<=1000000) (x:List B) (ak:x.length=32) :bT Tryz.prog GS 70 [bl s,.aV (bb x)] (.int .i64 (lC x s.l 0)) :=by
 refine cd Tryz.checked.mixed b2 ?_;apply bH Rj aao;unfold GI Mu;simp[bl];refine c0 s.l.length (fun k ah l=>l=[.cells 32 (bb x)]/\ah 0=cO 32 bb s/\ah 3=.ptr 0 0 32/\ah 5=.int .i64 k/\∀ (j:Nat) (z:List B),j<k->s.l[j]? = some z->z≠x) ?_ (by simp[bl,dr ak]);rintro k ah l aF ⟨rfl,cz,bi,bq,au⟩;obtain⟨ah,rfl⟩:=k5 cz bi bq;clear cz bi bq;unfold WN;simp;refine qB (fun h=>?_) (fun h=>?_)
 ·simp only[decide_eq_true_eq] at h;obtain⟨y,aP,eA⟩:=cg (l:=s.l) (k:=k) (by omega);have a1:IntKind.i64.wrap ((k:Int)+1)=((k+1:Nat) :Int) :=by rw[IntKind.wrap_i64]; omega
  simp[aP,dr (az y eA),dr ak,List.take_of_length_le,Jp (az y eA) ak];by_cases aw:y=x
  ·have fC:=C0 (n:=0) aP au aw;simp[aw];exact a7 (by rw[fC]; simp) rfl
  ·simp[aw,a1];refine⟨by omega,fun j z am aC=>?_⟩;by_cases hS:j=k
   ·subst hS; rw[aP] at aC; obtain rfl:=Option.some.inj aC; exact fun h=>aw h
   ·exact au j z (by omega) aC
 ·simp[h];have nS:k=s.l.length:=by simp at h; omega
  exact a7 (by rw[JE fun j z aC=>au j z (by rw[nS]; exact (List.getElem?_eq_some_iff.1 aC).1) aC]) rfl
def rk (l cy:List (List B)) :Bool:=decide (∀ p∈cy,p∈l)
theorem aaQ (s:fS) (az:ik s) (ar:s.l.length<=1000000) (t:fS) (aW:ik t) (jX:t.l.length<=1000000) :bT Tryz.prog GS 69 [bl s,bl t] (.bool (rk s.l t.l)) :=by
 refine cd Tryz.checked.mixed b2 ?_;apply bH Ri aan;unfold GH Mt;have cH:=hM s;have aS:db (.ao 32) (bl t)=some (.int .i64 t.l.length) :=by simp[bl]
 simp;refine c0 t.l.length (fun k ah l=>ah 0=bl s/\ah 1=bl t/\ah 5=.int .i64 k/\∀ (j:Nat) (z:List B),j<k->t.l[j]? = some z->z∈s.l) ?_ (by simp);rintro k ah l aF ⟨cz,aY,bq,au⟩;obtain⟨ah,rfl⟩:=k5 cz aY bq;clear cz aY bq;unfold WL;by_cases cY:k<t.l.length
 ·obtain⟨y,aP,eA⟩:=cg cY;have a1:IntKind.i64.wrap ((k:Int)+1)=((k+1:Nat) :Int) :=by rw[IntKind.wrap_i64]; omega
  have c2:cU (.ao 32) (bl t) (.int .i64 (k:Int))=some (.cp (bb y) 0) :=by simp[bl,aP]
  have oS:=ha y;have fy:=aaS s az ar y (aW y eA);have eJ:=dr (aW y eA);have UH:=JD y s.l 0;obtain⟨Y,gf⟩:∃ Y,Y=bb y:=⟨_,rfl⟩
  rw[<-gf] at c2 oS fy eJ;simp[aS,cY,c2,eJ,List.take_of_length_le];refine bB fy (by simp[bV,ae.closed,cH,oS]) ?_;by_cases hm:y∈s.l
  ·have ag:¬ lC y s.l 0<0:=by have:=UH.2 hm; omega
   simp[ag,cY,a1];intro j z am aC;by_cases hS:j=k
   ·subst hS; rw[aP] at aC; obtain rfl:=Option.some.inj aC; exact hm
   ·exact au j z (by omega) aC
  ·have ag:lC y s.l 0<0:=by
    rcases Int.lt_or_le (lC y s.l 0) 0 with h | h
    ·exact h
    ·exact absurd (UH.1 h) hm
   simp[ag];exact a7 (congrArg ae.bool (decide_eq_false fun h=>hm (h y eA)).symm) rfl
 ·have nS:k=t.l.length:=by omega
  simp[aS,cY];refine a7 (congrArg ae.bool (decide_eq_true fun p aG=>?_).symm) rfl;obtain⟨j,am⟩:=List.mem_iff_getElem?.1 aG;exact au j p (by rw[nS]; exact (List.getElem?_eq_some_iff.1 am).1) am
theorem xT {l:List (List B)} (h:eV l=true) :∀ {i j:Nat} {a b:List B},i<j->l[i]? = some a->l[j]? = some b->cG a b<0:=by
 have aO:=of_decide_eq_true h;intro i j
 induction j with
 | zero=>intro a b iA; omega
 | succ j aM=>
  intro a b iA aI aj;have eD:=(List.getElem?_eq_some_iff.1 aj).1;have h1:=aO (j+1) eD (by omega);obtain⟨c,al,_⟩:=cg (l:=l) (k:=j) (by omega);rw[show j+1 - 1=j by omega,hq al,hq aj] at h1;by_cases aic:i=j
  ·subst aic;rw[aI] at al;obtain rfl:=Option.some.inj al;exact h1
  ·exact yF _ _ _ (aM (by omega) aI al) h1
theorem anX {l:List (List B)} (h:eV l=true) {i j:Nat} {a:List B} (aI:l[i]? = some a) (aj:l[j]? = some a) :i=j:=by
 rcases Nat.lt_trichotomy i j with h1 | h1 | h1
 ·have:=xT h h1 aI aj; rw[rr] at this; omega
 ·exact h1
 ·have:=xT h h1 aj aI; rw[rr] at this; omega
def uI (l:List (List B)) (x:List B) :Nat:=(l.takeWhile fun t=>decide (cG t x<0)).length
theorem Hd (x:List B) :∀ {l:List (List B)} {p:Nat},p<=l.length->(∀ (t:Nat) (y:List B),t<p->l[t]? = some y->cG y x<0)->(∀ y,l[p]? = some y->¬ cG y x<0)->uI l x=p
 | [],p,aG,_,_=>by simp at aG; subst aG; rfl
 | y::l,0,_,_,ag=>by
  have:=ag y (by simp);unfold uI;rw[List.takeWhile_cons,decide_eq_false this]; rfl
 | y::l,p+1,aG,h1,ag=>by
  have aP:=h1 0 y (by omega) (by simp);have aM:=Hd x (l:=l) (p:=p) (by simpa using aG) (fun t z aW aC=>h1 (t+1) z (by omega) (by simpa using aC)) (fun z aC=>ag z (by simpa using aC));unfold uI at aM ⊢;rw[List.takeWhile_cons,decide_eq_true aP];simpa using aM
theorem aon (n:Nat) (h:n<9223372036854775808) :cn .shr .u64 (n:Int) .u64 1=some (.int .u64 ((n / 2:Nat) :Int)) :=by
 have:=sP (BitVec.ofNat 64 n) .u64 1;have aL:(u (BitVec.ofNat 64 n) :Int)=n:=by unfold u; rw[BitVec.toNat_ofNat,Nat.mod_eq_of_lt (by omega)]
 have ax:(u (BitVec.ofNat 64 n >>> 1) :Int)=((n / 2:Nat) :Int) :=by
  unfold u; rw[BitVec.toNat_ushiftRight,BitVec.toNat_ofNat,Nat.mod_eq_of_lt (by omega),Nat.shiftRight_eq_div_pow]
 rw[aL,ax] at this;exact this
structure acT (s:fS) (X:List ae) (x:List B) (m:Nat) (ah:bj) (l:av) :Prop where
 ex:∃ (i j:Nat),j - i=m/\i<=j/\j<=s.l.length/\l=[.cells 32 X]/\ah 0=bl s/\ah 2=.fn 121 [] []/\ah 4=.ptr 0 0 32/\ah 8=.int .i64 s.l.length/\ah 9=.int .i64 i/\ah 10=.int .i64 j ∧
  (∀ (t:Nat) (y:List B),t<i->s.l[t]? = some y->cG y x<0)/\(∀ (t:Nat) (y:List B),j<=t->s.l[t]? = some y->¬ cG y x<0)
theorem aby (s:fS) (az:ik s) (ar:s.l.length<=1000000) (x:List B) (ak:x.length=32) (hm:eV s.l=true) :
  bT Tryz.prog GS 123 [bl s,.aV (bb x),.fn 121 [] []] (.bP [.int .i64 (uI s.l x),.bool (decide (x∈s.l))]) :=by
 refine cd Tryz.checked.mixed b2 ?_;apply bH Pr Yw;unfold E9 K0;have bw:db (.ao 32) (bl s)=some (.int .i64 s.l.length) :=by simp[bl]
 have bJ:=dr ak;have o7:=ha x;have ho:∀ y∈s.l,bT Tryz.prog GS 121 [.aV (bb y),.aV (bb x)] (.int .i64 (cG y x)) :=fun y aP=>wq y x (az y aP) ak
 obtain⟨X,ei⟩:∃ X,X=bb x:=⟨_,rfl⟩
 rw[<-ei] at bJ o7 ho ⊢;simp[bw];refine xu (acT s X x) ?_ s.l.length _ _ ⟨0,s.l.length,by omega,by omega,by omega,by simp[bJ],by simp,by simp,by simp[bJ],by simp,by simp,by simp,fun t y h=>by omega,fun t y h ag=>by rw[List.getElem?_eq_none h] at ag; cases ag⟩;rintro m ah l ⟨i,j,fr,iA,eD,rfl,cz,a6,bI,dN,ib,eP,h1,ag⟩;obtain⟨ah,rfl⟩:=NK cz a6 bI dN ib eP;clear cz a6 bI dN ib eP;unfold VV;by_cases aS:i<j
 ·obtain⟨h,aQ⟩:∃ h,h=(i+j) / 2:=⟨_,rfl⟩
  have b5:IntKind.i64.wrap ((i:Int)+j)=((i+j:Nat) :Int) :=by rw[IntKind.wrap_i64]; omega
  have w2:IntKind.u64.wrap ((i+j:Nat) :Int)=((i+j:Nat) :Int) :=by rw[vV,BitVec.ofInt_natCast]; unfold u; rw[BitVec.toNat_ofNat,Nat.mod_eq_of_lt (by omega)]
  have d2:=aon (i+j) (by omega);have pE:IntKind.i64.wrap (h:Int)=(h:Int) :=by rw[IntKind.wrap_i64]; omega
  have uu:IntKind.i64.wrap ((h:Int)+1)=((h+1:Nat) :Int) :=by rw[IntKind.wrap_i64]; omega
  have hU:(i:Int)<(j:Int) :=by omega
  rw[<-aQ] at d2;obtain⟨y,aP,eA⟩:=cg (l:=s.l) (k:=h) (by omega);have eJ:=dr (az y eA);have zI:=ha y;have c2:cU (.ao 32) (bl s) (.int .i64 (h:Int))=some (.cp (bb y) 0) :=by simp[bl,aP]
  have oS:=ho y eA;obtain⟨Y,gf⟩:∃ Y,Y=bb y:=⟨_,rfl⟩
  rw[<-gf] at eJ zI c2 oS;obtain⟨N,fj⟩:∃ N,N=i+j:=⟨_,rfl⟩
  rw[<-fj] at b5 w2 d2;simp[aS,b5,w2,d2,pE,c2,eJ,bJ,List.take_of_length_le];refine⟨Hz,bB oS (by simp[bV,ae.closed,zI,o7]) ?_⟩;by_cases bL:cG y x<0
  ·simp[bL,uu];refine⟨j - (h+1),by omega,h+1,j,rfl,by omega,by omega,by simp,by simp,by simp,by simp,by simp,by simp,by simp,fun t z aW aC=>?_,ag⟩;by_cases Jc:t=h
   ·subst Jc; rw[aP] at aC; obtain rfl:=Option.some.inj aC; exact bL
   ·exact yF _ _ _ (xT hm (by omega) aC aP) bL
  ·simp[bL];refine⟨h - i,by omega,i,h,rfl,by omega,by omega,by simp,by simp,by simp,by simp,by simp,by simp,by simp,h1,fun t z aW aC et=>bL ?_⟩;by_cases Jc:t=h
   ·subst Jc; rw[aP] at aC; obtain rfl:=Option.some.inj aC; exact et
   ·exact yF _ _ _ (xT hm (by omega) aP aC) et
 ·have hU:¬ (i:Int)<(j:Int) :=by omega
  obtain rfl:i=j:=by omega
  have al:=Hd x (l:=s.l) (p:=i) eD h1 (fun y aP=>ag i y (Nat.le_refl _) aP);have kS:∀ {y:List B},s.l[i]? = some y->(y=x<->x∈s.l) :=fun {y} aP=>by
   constructor
   ·rintro rfl; exact List.mem_of_getElem? aP
   ·intro zH;obtain⟨t,aW⟩:=List.mem_iff_getElem?.1 zH;rcases Nat.lt_trichotomy t i with aq | aq | aq
    ·have:=h1 t x aq aW; rw[rr] at this; omega
    ·subst aq; rw[aP] at aW; exact Option.some.inj aW
    ·exact absurd (xT hm aq aP aW) (ag i y (Nat.le_refl _) aP)
  by_cases d5:i<s.l.length
  ·have aid:(i:Int)<(s.l.length:Int) :=by omega
   obtain⟨y,aP,eA⟩:=cg (l:=s.l) (k:=i) d5;have eJ:=dr (az y eA);have zI:=ha y;have c2:cU (.ao 32) (bl s) (.int .i64 (i:Int))=some (.cp (bb y) 0) :=by simp[bl,aP]
   have oS:=ho y eA;have ahE:cG y x=0<->x∈s.l:=by
    rw[<-kS aP];exact⟨Bo,fun h=>by rw[h]; exact rr _⟩
   obtain⟨Y,gf⟩:∃ Y,Y=bb y:=⟨_,rfl⟩
   rw[<-gf] at eJ zI c2 oS;simp[d5,c2,eJ,bJ,List.take_of_length_le];refine⟨Hz,bB oS (by simp[bV,ae.closed,zI,o7]) ?_⟩;simp;refine a7 ?_ rfl;rw[al];simp[ahE]
  ·have aid:¬ (i:Int)<(s.l.length:Int) :=by omega
   simp[d5];refine a7 ?_ rfl;have eE:¬ x∈s.l:=fun zH=>by
    obtain⟨t,aW⟩:=List.mem_iff_getElem?.1 zH;have:=h1 t x (by have:=(List.getElem?_eq_some_iff.1 aW).1; omega) aW;rw[rr] at this; omega
   rw[al,decide_eq_false eE]
theorem R3 {l:List (List B)} (hm:eV l=true) {k:Nat} {x:List B} (h:l[k]? = some x) :uI l x=k:=
 Hd x (Nat.le_of_lt (List.getElem?_eq_some_iff.1 h).1) (fun t y aW aP=>xT hm aW aP h) (fun y aP=>by rw[h] at aP; obtain rfl:=Option.some.inj aP; rw[rr]; omega)
structure b9 where
 ids:fS
 ops:eh bS
def cw (s:eh bS) :ae:=cO 11 bz s
def ea (g:b9) :List ae:=[bl g.ids,cw g.ops]
def dv (g:b9) :ae:=.aV (ea g)
structure gT (g:b9) :Prop where
 ids:ik g.ids
 ops:∀ o∈g.ops.l,kD o
 li:g.ids.l.length<=1000000
 cP:g.ops.l.length<=1000000
theorem nE (s:eh bS) :(cw s).closed=true:=uF nD s
theorem afd (g:b9) :bV (ea g)=true:=by have:=hM g.ids; have:=nE g.ops; simp[ea,bV, *]
theorem Bm (g:b9) :(dv g).closed=true:=by simp[dv,ae.closed,afd]
def df (ops:List bS) (i:Nat) :List (List B) :=match ops[i]? with | some o=>o.bO.l | none=>[]
theorem vH {ops:List bS} {i:Nat} {o:bS} (h:ops[i]? = some o) :df ops i=o.bO.l:=by unfold df; rw[h]
inductive oA (ids:List (List B)) (ops:List bS) :Nat->Prop
 | mk (i:Nat) (aA:i<ids.length) (aG:∀ p∈df ops i,p∈ids) (ay:∀ p∈df ops i,∀ j,ids[j]? = some p->oA ids ops j) :oA ids ops i
theorem oA.lt {ids:List (List B)} {ops:List bS} {i:Nat} (h:oA ids ops i) :i<ids.length:=by cases h; assumption
def iL (ids:List (List B)) :Prop:=∀ (i j:Nat) (x:List B),ids[i]? = some x->ids[j]? = some x->i=j
theorem tG {ids:List (List B)} (h:eV ids=true) :iL ids:=fun _ _ _ h1 ag=>anX h h1 ag
theorem sw:∀ {a b:List Nat},a.Nodup->(∀ x∈a,x∈b)->a.length<=b.length
 | [],_,_,_=>Nat.zero_le _
 | x::a,b,aH,au=>by
  rw[List.nodup_cons] at aH;have ak:=au x (by simp);have aM:=sw (b:=b.erase x) aH.2 (fun y aP=>(List.mem_erase_of_ne (fun e=>aH.1 (by rw[<-e]; exact aP))).2 (au y (by simp[aP])));rw[List.length_erase_of_mem ak] at aM;have:=List.length_pos_of_mem ak;simp; omega
def rn (ids:List (List B)) (ops:List bS) (out:List Nat) (i:Nat) :Bool:=decide (i∉out)&&rk (out.map (cb ids)) (df ops i)
def j4 (ids:List (List B)) (ops:List bS) (out:List Nat) :Option Nat:=(List.range ops.length).find? (rn ids ops out)
def fl (ids:List (List B)) (ops:List bS) :Nat->List Nat
 | 0=>[]
 | k+1=>match j4 ids ops (fl ids ops k) with | some i=>fl ids ops k++[i] | none=>fl ids ops k
def qK (ids:List (List B)) (ops:List bS) :List Nat:=fl ids ops ops.length
theorem alO {ids:List (List B)} {ops:List bS} {out:List Nat} {i:Nat} (h:j4 ids ops out=some i) :i<ops.length/\i∉out/\∀ p∈df ops i,p∈out.map (cb ids) :=by
 have h1:=List.find?_some h;have ag:=List.mem_of_find?_eq_some h;unfold rn at h1;rw[Bool.and_eq_true,decide_eq_true_eq] at h1;exact⟨List.mem_range.1 ag,h1.1,of_decide_eq_true h1.2⟩
theorem alN {ids:List (List B)} {ops:List bS} {out:List Nat} (h:j4 ids ops out=none) {i:Nat} (aA:i<ops.length) (az:i∉out) :¬ ∀ p∈df ops i,p∈out.map (cb ids) :=by
 intro aQ;have:=List.find?_eq_none.1 h i (List.mem_range.2 aA);apply this;unfold rn;rw[Bool.and_eq_true];exact⟨decide_eq_true az,decide_eq_true aQ⟩
theorem alL {ids:List (List B)} {ops:List bS} {out:List Nat} {i:Nat} (aA:i<ops.length) (h:rn ids ops out i=true) (aj:∀ j,j<i->rn ids ops out j=false) :j4 ids ops out=some i:=by
 unfold j4;rw[List.find?_range_eq_some];exact⟨h,by simpa using aA,fun j am=>by rw[aj j am]; rfl⟩
theorem alM {ids:List (List B)} {ops:List bS} {out:List Nat} (aj:∀ j,j<ops.length->rn ids ops out j=false) :j4 ids ops out=none:=by
 unfold j4;rw[List.find?_eq_none];intro j am;rw[aj j (List.mem_range.1 am)]; simp
theorem Kl {ids:List (List B)} {ops:List bS} {k i:Nat} (h:j4 ids ops (fl ids ops k)=some i) :fl ids ops (k+1)=fl ids ops k++[i] :=by
 show (match j4 ids ops (fl ids ops k) with | some i=>fl ids ops k++[i] | none=>fl ids ops k)=_;rw[h]
theorem XF {ids:List (List B)} {ops:List bS} {k:Nat} (h:j4 ids ops (fl ids ops k)=none) :fl ids ops (k+1)=fl ids ops k:=by
 show (match j4 ids ops (fl ids ops k) with | some i=>fl ids ops k++[i] | none=>fl ids ops k)=_;rw[h]
theorem Ac (ids:List (List B)) (ops:List bS) (aH:ids.length=ops.length) (am:iL ids) :∀ k,(fl ids ops k).Nodup/\(fl ids ops k).length<=k/\∀ i∈fl ids ops k,i<ops.length/\oA ids ops i
 | 0=>⟨List.nodup_nil,Nat.le_refl _,fun i aA=>by cases aA⟩
 | k+1=>by
  obtain⟨h1,ag,aq⟩:=Ac ids ops aH am k;cases ak:j4 ids ops (fl ids ops k) with
  | none=>rw[XF ak]; exact⟨h1,by omega,aq⟩
  | some i=>
   rw[Kl ak];obtain⟨bt,bE,a3⟩:=alO ak;refine⟨?_,by simp; omega,fun j wY=>?_⟩
   ·rw[List.nodup_append];refine⟨h1,by simp,fun x ak y aP e=>?_⟩;rw[List.mem_singleton] at aP;subst e;rw[aP] at ak;exact bE ak
   ·rw[List.mem_append,List.mem_singleton] at wY;rcases wY with wY | rfl
    ·exact aq j wY
    ·have fy:∀ t,t<ids.length->ids[t]? = some (cb ids t) :=fun t aW=>by
      obtain⟨x,ak,_⟩:=cg (l:=ids) aW;rw[ak,hq ak]
     refine⟨bt,.mk j (by omega) (fun p aG=>?_) fun p aG i3 fq=>?_⟩
     ·obtain⟨t,aW,rfl⟩:=List.mem_map.1 (a3 p aG);exact List.mem_of_getElem? (fy t (by have:=(aq t aW).1; omega))
     ·obtain⟨t,aW,rfl⟩:=List.mem_map.1 (a3 p aG);obtain⟨dV,dK⟩:=aq t aW;rw[am i3 t _ fq (fy t (by omega))];exact dK
theorem Kk {ids:List (List B)} {ops:List bS} {k:Nat} (h:j4 ids ops (fl ids ops k)=none) :∀ m,fl ids ops (k+m)=fl ids ops k
 | 0=>rfl
 | m+1=>by
  have aM:=Kk h m;rw[<-Nat.add_assoc,XF (by rw[aM]; exact h),aM]
theorem Xp {n:Nat} {l:List Nat} (aH:l.Nodup) (ar:l.length=n) (aj:∀ i∈l,i<n) :∀ i,i<n->i∈l:=by
 intro i aA;apply Classical.byContradiction;intro eE;have:=sw (a:=i::l) (b:=List.range n) (List.nodup_cons.2 ⟨eE,aH⟩) (fun x ak=>by
  rw[List.mem_cons] at ak;rcases ak with rfl | ak
  ·exact List.mem_range.2 aA
  ·exact List.mem_range.2 (aj x ak))
 simp[ar] at this;omega
theorem XG {ids:List (List B)} {ops:List bS} (aH:ids.length=ops.length) (am:iL ids) :(qK ids ops).length=ops.length<->∀ i,i<ops.length->oA ids ops i:=by
 obtain⟨h1,ag,aq⟩:=Ac ids ops aH am ops.length;constructor
 ·intro h i aA;exact (aq i (Xp h1 h (fun i aA=>(aq i aA).1) i aA)).2
 ·intro h;have mM:∀ k,k<=ops.length->(fl ids ops k).length=k\/∃ m,m<=k/\j4 ids ops (fl ids ops m)=none:=by
   intro k
   induction k with
   | zero=>intro _; exact .inl rfl
   | succ k aM=>
    intro aF;rcases aM (by omega) with aK | ⟨m,hm,aK⟩
    ·cases ak:j4 ids ops (fl ids ops k) with
     | none=>exact .inr ⟨k,by omega,ak⟩
     | some i=>left; rw[Kl ak]; simp[aK]
    ·exact .inr ⟨m,by omega,aK⟩
  rcases mM ops.length (Nat.le_refl _) with aK | ⟨m,hm,aK⟩
  ·exact aK
  ·have cI:fl ids ops ops.length=fl ids ops m:=by
    have:=Kk aK (ops.length - m)
    rwa [show m+(ops.length - m)=ops.length by omega] at this
   have eS:∀ i,oA ids ops i->i<ops.length->i∈fl ids ops m:=by
    intro i ay
    induction ay with
    | mk i aA aG ay aM=>
     intro aS;apply Classical.byContradiction;intro eE;refine alN aK aS eE fun p zy=>?_
     obtain⟨j,qg⟩:=List.mem_iff_getElem?.1 (aG p zy);exact List.mem_map.2 ⟨j,aM p zy j qg (by have:=(List.getElem?_eq_some_iff.1 qg).1; omega),hq qg⟩
   show (fl ids ops ops.length).length=ops.length;rw[cI];have bg:=sw (a:=List.range ops.length) (b:=fl ids ops m) List.nodup_range fun i aA=>eS i (h i (List.mem_range.1 aA)) (List.mem_range.1 aA)
   rw[List.length_range] at bg;rw[cI] at ag;omega
theorem age (g:b9) (ay:gT g) (aD:eV g.ids.l=true) (x:List B) (ak:x.length=32) :bT Tryz.prog GS 122 [dv g,.aV (bb x)] (.bP [.int .i64 (uI g.ids.l x),.bool (decide (x∈g.ids.l))]) :=by
 refine cd Tryz.checked.mixed b2 ?_;apply bH Pq Yv;unfold E8 KZ;have e4:=hM g.ids;have ds:=nE g.ops;have g0:=ha x;have bJ:=dr ak;have au:=aby g.ids ay.ids ay.li x ak aD;obtain⟨X,ei⟩:∃ X,X=bb x:=⟨_,rfl⟩
 rw[<-ei] at au g0 bJ ⊢;simp[dv,ea,bJ,List.take_of_length_le];refine bB au (by simp[bV,ae.closed,e4,g0]) ?_;simp;exact a7 rfl rfl
def gA (n:Nat) :List ae:=[.int .i64 (n:Int)]
def jp (b:Bool) :List ae:=[.bool b]
def g7 {α:Type} (l:List α) :eh α:=match l with | []=>none | x::r=>some (x::r)
theorem kB {α:Type} (l:List α) :(g7 l).l=l:=by cases l<;>rfl
theorem AF {α:Type} (l:List α) :(g7 l).isNone=l.isEmpty:=by cases l<;>rfl
def Ho (l:eh Nat) :ae:=cO 1 gA l
theorem MX {α:Type} (zero:ae) (n:Nat) :dd [zero] n=List.replicate n zero:=by
 rw[DI]
 induction n with
 | zero=>rfl
 | succ n aM=>rw[List.replicate_succ,List.flatten_cons,aM,List.replicate_succ]; rfl
theorem Di {z by_ n:Nat} {k k' : IntKind} {zero:List ae} {l:av} (aC:zero.length=z) (h1:n<9223372036854775808) (ag:by_*n<=cQ) :
  po z by_ zero l (.int k (n:Int)) (.int k' (n:Int))=some (.ao z l.length 0 n n (n*z),l++[.cells (n*z) (dd zero n)])/\b0 z (l++[.cells (n*z) (dd zero n)]) (.ao z l.length 0 n n (n*z)) l.length (List.replicate n zero) :=by
 constructor
 ·have aq:(by_:Int)*(n:Int)<=(cQ:Int) :=by rw[<-Int.natCast_mul]; omega
  simp only[po,Int.toNat_natCast];rw[if_pos ⟨by omega,by omega,by omega,aq⟩]
 ·refine .ao l.length n n (n*z) (dd zero n) _ (by rw[List.getElem?_append_right (Nat.le_refl _)]; simp) (by rw[xR,aC]) (by simp) (fun e aw=>by rw[List.eq_of_mem_replicate aw]; exact aC) (Nat.le_refl _) (Nat.le_refl _) ?_;rw[List.take_of_length_le (by rw[xR,aC]; omega),DI]
def oJ (n:Nat) (out:List Nat) :List Bool:=(List.range n).map fun i=>decide (i∈out)
theorem Bu {n:Nat} {out:List Nat} {i:Nat} (h:i<n) :(oJ n out)[i]? = some (decide (i∈out)) :=by
 unfold oJ; rw[List.getElem?_map,List.getElem?_range h]; rfl
theorem yM (n:Nat) (out:List Nat) :(oJ n out).length=n:=by simp[oJ]
theorem afA {n:Nat} {out:List Nat} {i:Nat} (h:i<n) :(oJ n out).set i true=oJ n (out++[i]) :=by
 apply List.ext_getElem?;intro j;by_cases am:j<n
 ·rw[Bu am,List.getElem?_set];by_cases iA:i=j
  ·subst iA; simp[yM,h]
  ·rw[if_neg iA,Bu am];simp[Ne.symm iA]
 ·rw[List.getElem?_eq_none (by simp[yM]; omega),List.getElem?_eq_none (by simp[yM]; omega)]
theorem afz (n:Nat) :oJ n []=List.replicate n false:=by
 apply List.ext_getElem?;intro j;by_cases am:j<n
 ·rw[Bu am]; simp[am]
 ·rw[List.getElem?_eq_none (by simp[yM]; omega),List.getElem?_eq_none (by simp; omega)]
theorem one_cell {cs:List ae} {o:Nat} {c:ae} (h:(cs.drop o).take 1=[c]) :cs[o]? = some c:=by
 have h1:((cs.drop o).take 1)[0]? = some c:=by rw[h]; rfl
 rw[List.getElem?_take_of_lt (by omega),List.getElem?_drop] at h1;exact h1
structure ada (g:b9) (out:List Nat) (v3 v4 v5:ae) (rest:av) :Prop where
 ex:∃ kv i6 fL,b0 1 (.cells 2 (ea g) ::rest) v3 kv (out.map gA)/\b0 32 (.cells 2 (ea g) ::rest) v4 i6 ((out.map (cb g.ids.l)).map bb)/\b0 1 (.cells 2 (ea g) ::rest) v5 fL ((oJ g.ops.l.length out).map jp) ∧
  1<=fL/\cS v5=false/\cS v3=out.isEmpty/\cS v4=out.isEmpty/\(out=[]\/(1<=kv/\1<=i6/\kv≠i6/\kv≠fL/\i6≠fL))
set_option maxHeartbeats 4000000 in
theorem anq (g:b9) (ay:gT g) (ar:g.ids.l.length=g.ops.l.length) (am:iL g.ids.l) :bT Tryz.prog GS 94 [dv g] (Ho (g7 (qK g.ids.l g.ops.l))) :=by
 refine cd Tryz.checked.mixed b2 ?_;apply bH RE aaK;unfold G2 MK;have jW:cQ=140737488355328:=rfl;have e4:=hM g.ids;have ds:=nE g.ops;have dy:db (.ao 11) (cw g.ops)=some (.int .i64 g.ops.l.length) :=by simp[cw]
 have bw:=ay.cP;obtain⟨fr,jC⟩:=Di (z:=1) (by_:=1) (n:=g.ops.l.length) (k:=.i64) (k':=.i64) (zero:=[ae.bool false]) (l:=[bv.cells 2 (ea g)]) rfl (by omega) (by rw[jW]; omega);simp only[ea,Nat.mul_one,MX (α:=Nat)] at fr jC;simp[dv,ea,dy,fr];refine xu (fun m ah l=>∃ (k:Nat) (rest:av),l=.cells 2 (ea g) ::rest/\ah 1=.ptr 0 0 2/\ada g (fl g.ids.l g.ops.l k) (ah 3) (ah 4) (ah 5) rest ∧
  ((ah 6=.bool true/\(fl g.ids.l g.ops.l k).length=k/\m=g.ops.l.length - k+1)\/(ah 6=.bool false/\j4 g.ids.l g.ops.l (fl g.ids.l g.ops.l k)=none/\k<=g.ops.l.length/\m=0))) ?_ (g.ops.l.length+1) _ _ ?_
 ·rintro m ah l ⟨k,rest,rfl,aY,rG,au⟩;obtain⟨v3,bi⟩:∃ v,ah 3=v:=⟨_,rfl⟩
  obtain⟨v4,bI⟩:∃ v,ah 4=v:=⟨_,rfl⟩
  obtain⟨v5,bq⟩:∃ v,ah 5=v:=⟨_,rfl⟩
  rw[bi,bI,bq] at rG;obtain⟨out,jV⟩:∃ out,out=fl g.ids.l g.ops.l k:=⟨_,rfl⟩
  rw[<-jV] at rG au;obtain⟨zt,dP,Cp⟩:=Ac g.ids.l g.ops.l ar am k;rw[<-jV] at zt dP Cp;have dQ:out.length<=g.ops.l.length:=by
   have:=sw (b:=List.range g.ops.l.length) zt (fun x ak=>List.mem_range.2 (Cp x ak).1);simpa using this
  rcases au with ⟨cx,aF,rfl⟩ | ⟨cx,eE,gh,rfl⟩
  ·obtain⟨ah,rfl⟩:=k6 aY bi bI bq cx;clear aY bi bI bq cx;unfold JT;simp;refine c0 g.ops.l.length (fun i ah l=>l=.cells 2 (ea g) ::rest/\ah 1=.ptr 0 0 2/\ah 3=v3/\ah 4=v4/\ah 5=v5/\ah 6=.bool false/\ah 7=.int .i64 i/\∀ j,j<i->rn g.ids.l g.ops.l out j=false) ?_ (by simp);rintro i ah l aA ⟨rfl,aY,bi,bI,bq,cx,eb,au⟩;obtain⟨ah,rfl⟩:=NK aY bi bI bq cx eb;clear aY bi bI bq cx eb;unfold WY;by_cases ec:i<g.ops.l.length
   ·obtain⟨o,az,eF⟩:=cg ec;have a1:IntKind.i64.wrap ((i:Int)+1)=((i+1:Nat) :Int) :=by rw[IntKind.wrap_i64]; omega
    have c2:cU (.ao 11) (cw g.ops) (.int .i64 (i:Int))=some (.cp (bz o) 0) :=by simp[cw,az]
    obtain⟨kv,i6,fL,oc,od,hD,bg,j2,sf,pq,bD⟩:=rG;obtain⟨Ko,yw,sC,bt,bE,a3,a4⟩:=hD.q.get (k:=.i64) (i:=i) (e:=jp (decide (i∈out))) (by rw[List.getElem?_map,Bu ec]; rfl);have a5:=one_cell (c:=.bool (decide (i∈out))) (by simpa [jp] using a4);have l4:=od.qV (enc:=bb) (xs:=out.map (cb g.ids.l)) (fun x=>ha x) (g7 (out.map (cb g.ids.l))) (by rw[pq,AF]; simp) (kB _);have aiW:ik (g7 (out.map (cb g.ids.l))) :=fun x ak=>by
     rw[kB] at ak;obtain⟨t,aW,rfl⟩:=List.mem_map.1 ak;obtain⟨y,aP,eA⟩:=cg (l:=g.ids.l) (k:=t) (by have:=(Cp t aW).1; omega);rw[hq aP]; exact ay.ids y eA
    have eS:=aaQ (g7 (out.map (cb g.ids.l))) aiW (by rw[kB]; simp; omega) o.bO (ay.ops o eF).ids (ay.ops o eF).len;rw[kB] at eS;have th:=hM o.bO;have za:rn g.ids.l g.ops.l out i=(decide (i∉out)&&rk (out.map (cb g.ids.l)) o.bO.l) :=by unfold rn; rw[vH az]
    simp only[ea] at bE oc od hD l4;by_cases Cw:i∈out
    ·simp[ea,dy,ec,bt,bE,a5,Cw,a1];intro j am;by_cases l0:j=i
     ·subst l0; rw[za]; simp[Cw]
     ·exact au j (by omega)
    ·simp[ea,dy,ec,bt,bE,a5,Cw,a1,c2,bz];refine jc eS (.cons l4 (.cons (.same _ th) .nil)) rfl ?_;by_cases hQ:rk (out.map (cb g.ids.l)) o.bO.l=true
     ·rw[hQ] at za;obtain⟨y,aP,eA⟩:=cg (l:=g.ids.l) (k:=i) (by omega);have tm:cU (.ao 32) (bl g.ids) (.int .i64 (i:Int))=some (.cp (bb y) 0) :=by simp[bl,aP]
      have eJ:=dr (ay.ids y eA);obtain⟨Y,gf⟩:∃ Y,Y=bb y:=⟨_,rfl⟩
      rw[<-gf] at tm eJ;have ajs:bU (rep 32 (.int .u8 0)) 0 Y=Y:=h3 (by rw[eJ]; rfl);obtain⟨l1,fI⟩:∃ l1,l1=bv.cells 2 [bl g.ids,cw g.ops] ::(rest++[bv.cells 1 [ae.int IntKind.i64 (i:Int)],bv.cells 32 Y]) :=⟨_,rfl⟩
      have Iy:l1.length=rest.length+3:=by rw[fI]; simp
      have tP:b0 1 l1 v3 kv (out.map gA) :=by rw[fI]; exact oc.more _
      have J0:b0 32 l1 v4 i6 ((out.map (cb g.ids.l)).map bb) :=by rw[fI]; exact od.more _
      have alm:b0 1 l1 v5 fL ((oJ g.ops.l.length out).map jp) :=by rw[fI]; exact hD.more _
      have rR:out=[]->v3=.aZ/\v4=.aZ:=fun h=>by rw[h] at sf pq; exact⟨iC.1 sf,iC.1 pq⟩
      have auZ:fL<rest.length+1:=by
       rcases hD.lt with h | h
       ·rw[h] at j2; cases j2
       ·simpa using h
      obtain⟨kv,tP,q1,im,sn,X8⟩:∃ kv,b0 1 l1 v3 kv (out.map gA)/\1<=kv/\kv≠fL/\(out=[]\/kv≠i6)/\(kv<rest.length+1\/l1.length<=kv) :=by
       by_cases h:out=[]
       ·have ax:=(rR h).1;rw[ax,h];exact⟨l1.length,.nil _,by omega,by omega,.inl rfl,.inr (Nat.le_refl _)⟩
       ·obtain⟨h1,ag,aq,aK,bg⟩:=bD.resolve_left h;refine⟨kv,tP,h1,aK,.inr aq,.inl ?_⟩;rcases oc.lt with fe | fe
        ·rw[fe] at sf;cases out with
         | nil=>exact absurd rfl h
         | cons=>cases sf
        ·simpa using fe
      obtain⟨acm,tH,ce,aY,a6,bi,bI,bq,cx⟩:=mu (by_:=8) tP (x:=.ao 1 (rest.length+1) 0 1 1 1) (xs:=[gA i]) (by rw[fI]; simp[dj,gA]) (by simp[gA]) (by omega) (by omega) (by rw[jW]; simp; omega);obtain⟨e9,rfl⟩:∃ e9,ce=bv.cells 2 [bl g.ids,cw g.ops] ::e9:=Aa (by rw[bI 0 (by omega) (by omega),fI]; rfl);have y5:(bv.cells 2 [bl g.ids,cw g.ops] ::e9)[rest.length+2]? = some (.cells 32 Y) :=by rw[bI (rest.length+2) (by omega) (by omega),fI]; simp
      have fz:(bv.cells 2 [bl g.ids,cw g.ops] ::e9)[rest.length+1]? = some (.cells 1 [.int .i64 (i:Int)]) :=by rw[bI (rest.length+1) (by omega) (by omega),fI]; simp
      have ii:=alm.frame (l':=bv.cells 2 [bl g.ids,cw g.ops] ::e9) (fun h=>bI fL h (Ne.symm im));rw[fI] at aY;simp[hQ,tm,eJ,ajs,List.take_of_length_le,aY];refine dM.cM ?_;simp;have Tz:e9[rest.length+1]? = some (.cells 32 Y) :=by simpa using y5
      refine⟨⟨Tz,by omega,List.take_of_length_le (by omega)⟩,?_⟩;have U9:acm≠.aZ:=fun h=>by have:=(cx.1 h).2; cases this
      have as4:tH<e9.length+1:=by have:=a6.lt.resolve_left U9; simpa using this
      have Ir:1<=tH/\tH≠fL:=by rcases bq with h | h<;>omega
      obtain⟨i6,J0,q0,vR,t3,t4⟩:∃ i6,b0 32 (bv.cells 2 [bl g.ids,cw g.ops] ::e9) v4 i6 ((out.map (cb g.ids.l)).map bb)/\1<=i6/\i6≠fL/\i6≠tH/\(i6<e9.length+1\/e9.length+1<=i6) :=by
       by_cases h:out=[]
       ·have ax:=(rR h).2;rw[ax,h];simp at bi;exact⟨e9.length+1,.nil _,by omega,by omega,by omega,.inr (Nat.le_refl _)⟩
       ·obtain⟨h1,ag,aq,aK,bg⟩:=bD.resolve_left h;have bL:i6<rest.length+1:=by
         rcases od.lt with fe | fe
         ·rw[fe] at pq;cases out with
          | nil=>exact absurd rfl h
          | cons=>cases pq
         ·simpa using fe
        have et:=sn.resolve_left h;refine⟨i6,J0.frame (fun h=>bI i6 h (Ne.symm et)),ag,bg,by rcases bq with h | h<;>omega,.inl (by simp at bi; omega)⟩
      obtain⟨acn,tI,ek,h9,p2,Sz,Ht,f5,f6⟩:=mu (by_:=32) J0 (x:=.ao 32 (rest.length+1+1) 0 1 1 32) (xs:=[Y]) (by simp[dj,eJ,Tz,List.take_of_length_le]) (by simp[eJ]) (by omega) (by omega) (by rw[jW]; simp; omega);obtain⟨qQ,rfl⟩:∃ qQ,ek=bv.cells 2 [bl g.ids,cw g.ops] ::qQ:=Aa (by rw[Ht 0 (by simp) (by omega)]; rfl);have Va:acn≠.aZ:=fun h=>by have:=(f6.1 h).2; cases this
      have as5:tI<qQ.length+1:=by have:=p2.lt.resolve_left Va; simpa using this
      have d2:=a6.frame (l':=bv.cells 2 [bl g.ids,cw g.ops] ::qQ) (fun h=>Ht tH h (Ne.symm t3));have uu:=ii.frame (l':=bv.cells 2 [bl g.ids,cw g.ops] ::qQ) (fun h=>Ht fL h (Ne.symm vR));obtain⟨p,pi,me,nh,AJ,AK,x2⟩:=XI (k:=i) (x:=true) (X:=.bool true) (enc:=jp) rfl uu (fun _ _=>rfl) (by rw[yM]; exact ec) rfl;simp[h9];refine dM.cM ?_;simp[me,nh];have Hu:tI=i6\/e9.length+1<=tI:=by simpa using f5
      have ass:rest.length+3<=e9.length+1:=by rw[Iy] at bi; simpa using bi
      have k7:1<=tI:=by rcases Hu with h | h<;>omega
      have h5:tI≠fL:=by rcases Hu with h | h<;>omega
      have z3:tH≠tI:=by rcases Hu with h | h<;>omega
      obtain⟨Mc,rfl⟩:∃ Mc,pi=bv.cells 2 [bl g.ids,cw g.ops] ::Mc:=Aa (by rw[x2 0 (by omega)]; rfl);have mU:j4 g.ids.l g.ops.l out=some i:=alL ec (by rw[za]; simp[Cw]) au;have tp:fl g.ids.l g.ops.l (k+1)=out++[i] :=by rw[Kl (by rw[<-jV]; exact mU),<-jV]
      have aS:k<g.ops.l.length:=by
       have fe:=(Ac g.ids.l g.ops.l ar am (k+1)).1;rw[tp] at fe;have:=sw (b:=List.range g.ops.l.length) fe (fun x ak=>List.mem_range.2 (by
        rw[List.mem_append,List.mem_singleton] at ak;rcases ak with ak | rfl
        ·exact (Cp x ak).1
        ·exact ec))
       simp at this; omega
      have dD:(out++[i]).map gA=out.map gA++[gA i] :=by simp
      have lk:((out++[i]).map (cb g.ids.l)).map bb=(out.map (cb g.ids.l)).map bb++[Y] :=by
       have aih:cb g.ids.l i=y:=hq aP;rw[List.map_append,List.map_append,List.map_singleton,List.map_singleton,aih,gf]
      refine⟨g.ops.l.length - (k+1)+1,by omega,k+1,Mc,rfl,?_,by rw[tp]; simp[aF],rfl⟩;rw[tp];refine⟨⟨tH,tI,fL,?_,?_,?_,bg,j2,?_,?_,.inr ⟨Ir.1,k7,z3,Ir.2,h5⟩⟩⟩
      ·rw[dD]; exact d2.frame (fun h=>x2 tH Ir.2)
      ·rw[lk]; exact p2.frame (fun h=>x2 tI h5)
      ·rw[<-afA ec]; exact AJ
      ·cases ax:cS acm with
       | true=>exact absurd (iC.1 ax) U9
       | false=>simp
      ·cases ax:cS acn with
       | true=>exact absurd (iC.1 ax) Va
       | false=>simp
     ·rw[Bool.not_eq_true] at hQ;rw[hQ] at za;simp[hQ,ec,a1];refine⟨rfl,fun j am=>?_⟩;by_cases l0:j=i
      ·subst l0; rw[za]; simp
      ·exact au j (by omega)
   ·have as3:i=g.ops.l.length:=by omega
    simp[ea,dy,ec];have eE:j4 g.ids.l g.ops.l out=none:=alM fun j am=>au j (by omega)
    refine⟨0,by omega,k,by rw[<-jV]; exact rG,by rw[<-jV]; exact eE,by omega,rfl⟩
  ·obtain⟨ah,rfl⟩:=k6 aY bi bI bq cx;clear aY bi bI bq cx;unfold JT;simp;obtain⟨kv,i6,fL,oc,od,hD,bg,j2,sf,pq,bD⟩:=rG;have cI:qK g.ids.l g.ops.l=out:=by
    unfold qK;have:=Kk (k:=k) (by rw[<-jV]; exact eE) (g.ops.l.length - k);rw[show k+(g.ops.l.length - k)=g.ops.l.length by omega,<-jV] at this;exact this
   rw[cI];exact oc.q.xQ (fun x=>rfl) (g7 out) (by rw[sf,AF]) (kB _)
 ·refine⟨0,_,rfl,by simp,?_,.inl ⟨by simp,rfl,rfl⟩⟩;simp;refine⟨⟨0,0,1,.nil 0,.nil 0,?_,by omega,rfl,rfl,rfl,.inl rfl⟩⟩;show b0 _ _ _ _ ((oJ g.ops.l.length []).map jp);have:(oJ g.ops.l.length []).map jp=List.replicate g.ops.l.length [ae.bool false] :=by rw[afz,List.map_replicate]; rfl
  rw[this];exact jC
def Ab (ids:List (List B)) (ops:List bS) :Bool:=decide (∀ o∈ops,rk ids o.bO.l=true)
def oj (ids:List (List B)) (ops:List bS) :Int:=if eV ids=true then (if Ab ids ops=true then (if (qK ids ops).length=ops.length then 0 else 36) else 40) else 32
theorem ant (g:b9) (ay:gT g) (ar:g.ids.l.length=g.ops.l.length) :bT Tryz.prog GS 62 [dv g] (.int .i64 (oj g.ids.l g.ops.l)) :=by
 refine cd Tryz.checked.mixed b2 ?_;apply bH Ra aag;unfold Gx Mm;have e4:=hM g.ids;have ds:=nE g.ops;have mJ:=Bm g;have dy:db (.ao 11) (cw g.ops)=some (.int .i64 g.ops.l.length) :=by simp[cw]
 have bw:=ay.cP;have CK:=aaX g.ids ay.ids ay.li;simp[dv,ea,dy];refine bB CK (by simp[bV,e4]) ?_;by_cases aD:eV g.ids.l=true
 ·have am:=tG aD;have lx:=anq g ay ar am;unfold dv ea at lx mJ;simp[aD];refine c0 g.ops.l.length (fun k ah l=>l=[.cells 2 [bl g.ids,cw g.ops]]/\ah 1=.ptr 0 0 2/\ah 3=.int .i64 k/\∀ (j:Nat) (o:bS),j<k->g.ops.l[j]? = some o->rk g.ids.l o.bO.l=true) ?_ (by simp);rintro k ah l aF ⟨rfl,aY,bi,au⟩;obtain⟨ah,rfl⟩:=ov aY bi;clear aY bi;unfold WJ;by_cases cY:k<g.ops.l.length
  ·obtain⟨o,az,eF⟩:=cg cY;have a1:IntKind.i64.wrap ((k:Int)+1)=((k+1:Nat) :Int) :=by rw[IntKind.wrap_i64]; omega
   have c2:cU (.ao 11) (cw g.ops) (.int .i64 (k:Int))=some (.cp (bz o) 0) :=by simp[cw,az]
   have eS:=aaQ g.ids ay.ids ay.li o.bO (ay.ops o eF).ids (ay.ops o eF).len;have th:=hM o.bO;simp[dy,cY,c2,bz];refine bB eS (by simp[bV,e4,th]) ?_;by_cases hQ:rk g.ids.l o.bO.l=true
   ·simp[hQ,cY,a1];intro j cC ev dw;by_cases hS:j=k
    ·subst hS; rw[az] at dw; obtain rfl:=Option.some.inj dw; exact hQ
    ·exact au j cC (by omega) dw
   ·rw[Bool.not_eq_true] at hQ;simp[hQ];refine a7 (congrArg (ae.int .i64) ?_) rfl;have eE:¬ Ab g.ids.l g.ops.l=true:=fun h=>by
     have:=of_decide_eq_true h o eF;rw[hQ] at this; cases this
    unfold oj;rw[if_pos aD,if_neg eE]
  ·have oZ:k=g.ops.l.length:=by omega
   have f1:Ab g.ids.l g.ops.l=true:=decide_eq_true fun o eF=>by
    obtain⟨j,ev⟩:=List.mem_iff_getElem?.1 eF;exact au j o (by rw[oZ]; exact (List.getElem?_eq_some_iff.1 ev).1) ev
   have dO:(qK g.ids.l g.ops.l).length<=g.ops.l.length:=(Ac g.ids.l g.ops.l ar am _).2.1;have o0:db (.ao 1) (Ho (g7 (qK g.ids.l g.ops.l)))=some (.int .i64 (qK g.ids.l g.ops.l).length) :=by unfold Ho; rw[oa,kB]
   simp[dy,cY];refine bB lx (by simp[bV,mJ]) ?_;by_cases aS:(qK g.ids.l g.ops.l).length<g.ops.l.length
   ·simp[dy,o0,aS];refine a7 (congrArg (ae.int .i64) ?_) rfl;unfold oj;rw[if_pos aD,if_pos f1,if_neg (by omega)]
   ·simp[dy,o0,aS];refine a7 (congrArg (ae.int .i64) ?_) rfl;unfold oj;rw[if_pos aD,if_pos f1,if_pos (by omega)]
 ·rw[Bool.not_eq_true] at aD;simp[aD];refine a7 (congrArg (ae.int .i64) ?_) rfl;unfold oj;rw[aD]; rfl
def mE (g:b9) (k:Nat) :Bool:=match g.ops.l[k]?,g.ids.l[k]? with
 | some o,some x=>decide (pD o=0)&&decide (kt o=x)
 | _,_=>true
def BM (g:b9) :Bool:=decide (∀ k,k<g.ops.l.length->mE g k=true)
theorem wJ (g:b9) :BM g=true<->∀ k,k<g.ops.l.length->mE g k=true:=by unfold BM; rw[decide_eq_true_eq]
def gK (g:b9) :Int:=if 60<g.ops.l.length then 4 else if g.ids.l.length=g.ops.l.length then (if BM g=true then oj g.ids.l g.ops.l else 8) else 8
theorem BN {g:b9} {k:Nat} {o:bS} {x:List B} (az:g.ops.l[k]? = some o) (ak:g.ids.l[k]? = some x) :mE g k=(decide (pD o=0)&&decide (kt o=x)) :=by
 unfold mE; rw[az,ak]
theorem D4 {o:bS} (h:pD o=0) :fV o=0:=by
 unfold pD at h;by_cases aO:fV o=0
 ·exact aO
 ·rw[if_neg aO] at h; exact h
theorem Jr (o:bS) :(kt o).length=32:=by
 unfold kt;split
 ·exact ud _
 ·simp
set_option maxHeartbeats 4000000 in
theorem anh (g:b9) (ay:gT g) :bT Tryz.prog GS 28 [dv g] (.int .i64 (gK g)) :=by
 refine cd Tryz.checked.mixed b2 ?_;apply bH QF ZJ;unfold Gg L5;have e4:=hM g.ids;have ds:=nE g.ops;have mJ:=Bm g;have dy:db (.ao 11) (cw g.ops)=some (.int .i64 g.ops.l.length) :=by simp[cw]
 have hT:db (.ao 32) (bl g.ids)=some (.int .i64 g.ids.l.length) :=by simp[bl]
 have bw:=ay.cP;by_cases oL:60<(g.ops.l.length:Int)
 ·simp[dv,ea,dy,oL];refine a7 (congrArg (ae.int .i64) ?_) rfl;unfold gK; rw[if_pos (by omega)]
 by_cases ar:g.ids.l.length=g.ops.l.length
 ·have mX:=ant g ay ar;unfold dv ea at mX mJ;have c1:(g.ids.l.length:Int)=(g.ops.l.length:Int) :=by omega
  simp[dv,ea,dy,hT,oL,c1];refine c0 g.ops.l.length (fun k ah l=>l=[.cells 2 [bl g.ids,cw g.ops]]/\ah 1=.ptr 0 0 2/\ah 3=.int .i64 k/\∀ j,j<k->mE g j=true) ?_ (by simp);rintro k ah l aF ⟨rfl,aY,bi,au⟩;obtain⟨ah,rfl⟩:=ov aY bi;clear aY bi;unfold Ww;by_cases cY:k<g.ops.l.length
  ·obtain⟨o,az,eF⟩:=cg cY;obtain⟨x,ak,d0⟩:=cg (l:=g.ids.l) (k:=k) (by omega);have iY:=BN az ak;have a1:IntKind.i64.wrap ((k:Int)+1)=((k+1:Nat) :Int) :=by rw[IntKind.wrap_i64]; omega
   have c2:cU (.ao 11) (cw g.ops) (.int .i64 (k:Int))=some (.cp (bz o) 0) :=by simp[cw,az]
   have va:cU (.ao 32) (bl g.ids) (.int .i64 (k:Int))=some (.cp (bb x) 0) :=by simp[bl,ak]
   have ax:=anx o (ay.ops o eF);have oR:=nD o;have bJ:=dr (ay.ids x d0);have dQ:(bz o).length=11:=rfl;have oN:¬ mE g k=true->gK g=8:=fun h=>by
    unfold gK;rw[if_neg (by omega),if_pos ar,if_neg fun aQ=>h ((wJ g).1 aQ k cY)]
   by_cases qr:pD o=0
   ·have aO:=D4 qr;have l3:=ann o (ay.ops o eF) (by have:=xH aO; omega);have jU:kt o=g6 (hg o) :=by unfold kt; rw[if_pos aO]
    rw[<-jU] at l3;have heq:=Jq (Jr o) (ay.ids x d0);change bT Tryz.prog GS 32 [.aV (bz o)] (.aV (bb (kt o))) at l3;obtain⟨I,rG⟩:∃ I,I=bb (kt o) :=⟨_,rfl⟩
    rw[<-rG] at l3 heq;rw[qr] at ax;obtain⟨O,e3⟩:∃ O,O=bz o:=⟨_,rfl⟩
    obtain⟨X,ei⟩:∃ X,X=bb x:=⟨_,rfl⟩
    rw[<-e3] at c2 ax l3 oR dQ;rw[<-ei] at va bJ heq;simp[dy,cY,c2,dQ,List.take_of_length_le];refine bB ax (by simp[bV,ae.closed,oR]) ?_;simp[dQ,va,bJ,c2,List.take_of_length_le];refine bB l3 (by simp[bV,ae.closed,oR]) ?_;by_cases fC:kt o=x
    ·simp[heq,fC,cY,a1,bJ,List.take_of_length_le];intro j am;by_cases hS:j=k
     ·subst hS; rw[iY]; simp[qr,fC]
     ·exact au j (by omega)
    ·have aj:¬ mE g k=true:=fun h=>by rw[iY] at h; simp[fC] at h
     simp[heq,fC,bJ,List.take_of_length_le];exact a7 (congrArg (ae.int .i64) (oN aj).symm) rfl
   ·have aj:¬ mE g k=true:=fun h=>by rw[iY] at h; simp[qr] at h
    simp[dy,cY,c2,dQ,List.take_of_length_le];refine bB ax (by simp[bV,ae.closed,oR]) ?_;simp[qr];exact a7 (congrArg (ae.int .i64) (oN aj).symm) rfl
  ·have oZ:k=g.ops.l.length:=by omega
   simp[dy,cY];refine bB mX (by simp[bV,mJ]) ?_;simp;refine a7 (congrArg (ae.int .i64) ?_) rfl;unfold gK;rw[if_neg (by omega),if_pos ar,if_pos ((wJ g).2 fun j am=>au j (by omega))]
 ·have c1:¬ (g.ids.l.length:Int)=(g.ops.l.length:Int) :=by omega
  simp[dv,ea,dy,hT,oL,c1];refine a7 (congrArg (ae.int .i64) ?_) rfl;unfold gK; rw[if_neg (by omega),if_neg ar]
def mN (ids:List (List B)) (D:List Nat) (p:List B) :Nat:=(D.map fun a=>if p == cb ids a then 1 else 0).sum
def jM (ids:List (List B)) (D:List Nat) (L:List (List B)) :Nat:=(D.map fun a=>L.count (cb ids a)).sum
theorem aoV (ids:List (List B)) (D:List Nat) :jM ids D []=0:=by
 unfold jM
 induction D with
 | nil=>rfl
 | cons a D aM=>rw[List.map_cons,List.sum_cons,aM]; rfl
theorem abQ (ids:List (List B)) (p:List B) (L:List (List B)) :∀ D,jM ids D (p::L)=jM ids D L+mN ids D p
 | []=>rfl
 | a::D=>by
  have aM:=abQ ids p L D;unfold jM mN at aM ⊢;rw[List.map_cons,List.sum_cons,List.map_cons,List.sum_cons,List.map_cons,List.sum_cons,aM,List.count_cons];omega
theorem Nt (ids:List (List B)) (D:List Nat) (a:Nat) (L:List (List B)) :jM ids (D++[a]) L=jM ids D L+L.count (cb ids a) :=by
 unfold jM; rw[List.map_append,List.sum_append]; simp
theorem OD {ids:List (List B)} (am:iL ids) {i j:Nat} (aA:i<ids.length) (eD:j<ids.length) (h:cb ids i=cb ids j) :i=j:=by
 obtain⟨x,ak,_⟩:=cg aA;obtain⟨y,aP,_⟩:=cg eD;rw[hq ak,hq aP] at h;subst h;exact am i j x ak aP
theorem Ud {ids:List (List B)} {p:List B}:∀ {D:List Nat},(∀ a∈D,cb ids a≠p)->mN ids D p=0
 | [],_=>rfl
 | a::D,h=>by
  have aM:=Ud (ids:=ids) (p:=p) (D:=D) fun b aj=>h b (by simp[aj])
  have aI:(p == cb ids a)=false:=by rw[beq_eq_false_iff_ne]; exact Ne.symm (h a (by simp))
  unfold mN at aM ⊢;rw[List.map_cons,List.sum_cons,aM,aI]; rfl
theorem Uc {ids:List (List B)} (am:iL ids) {p:List B}:∀ {D:List Nat},D.Nodup->(∀ a∈D,a<ids.length)->mN ids D p<=1/\(mN ids D p=1<->∃ a∈D,cb ids a=p)
 | [],_,_=>⟨Nat.zero_le _,Iff.intro (fun h=>(by cases h)) (fun ⟨a,aI,_⟩=>(by cases aI))⟩
 | a::D,aH,aj=>by
  rw[List.nodup_cons] at aH;obtain⟨c4,ej⟩:=Uc (p:=p) am aH.2 (fun b bK=>aj b (by simp[bK]));by_cases h:cb ids a=p
  ·have aC:mN ids D p=0:=Ud fun b TG ahv=>aH.1 (by rw[OD am (aj a (by simp)) (aj b (by simp[TG])) (h.trans ahv.symm)]; exact TG)
   have aI:(p == cb ids a)=true:=by rw[h]; simp
   have e:mN ids (a::D) p=1:=by
    unfold mN at aC ⊢;rw[List.map_cons,List.sum_cons,aC,aI]; rfl
   rw[e];exact⟨Nat.le_refl _,fun _=>⟨a,by simp,h⟩,fun _=>rfl⟩
  ·have aI:(p == cb ids a)=false:=by rw[beq_eq_false_iff_ne]; exact Ne.symm h
   have e:mN ids (a::D) p=mN ids D p:=by
    unfold mN;rw[List.map_cons,List.sum_cons,aI]; simp
   rw[e];refine⟨c4,ej.trans ⟨fun ⟨b,fZ,fz⟩=>⟨b,by simp[fZ],fz⟩,fun ⟨b,fZ,fz⟩=>?_⟩⟩;rw[List.mem_cons] at fZ;rcases fZ with rfl | fZ
   ·exact absurd fz h
   ·exact⟨b,fZ,fz⟩
theorem Nu {ids:List (List B)} (am:iL ids) {D:List Nat} (aH:D.Nodup) (aj:∀ a∈D,a<ids.length) :∀ L:List (List B),jM ids D L<=L.length/\(jM ids D L=L.length<->∀ p∈L,∃ a∈D,cb ids a=p)
 | []=>by rw[aoV]; exact⟨Nat.le_refl _,Iff.intro (fun _ p aG=>by cases aG) (fun _=>rfl)⟩
 | p::L=>by
  obtain⟨c4,ej⟩:=Nu am aH aj L;obtain⟨h1,ag⟩:=Uc (p:=p) am aH aj;rw[abQ,List.length_cons];refine⟨by omega,fun h=>?_,fun h=>?_⟩
  ·have a1:jM ids D L=L.length:=by omega
   have b3:mN ids D p=1:=by omega
   intro q bp;rw[List.mem_cons] at bp;rcases bp with rfl | bp
   ·exact ag.1 b3
   ·exact ej.1 a1 q bp
  ·have a1:=ej.2 fun q bp=>h q (by simp[bp])
   have b3:=ag.2 (h p (by simp));omega
structure Eh (ids:List (List B)) (ops:List bS) (cm:List (List Nat)) :Prop where
 len:cm.length=ops.length
 cnt:∀ (a:Nat) (row:List Nat),cm[a]? = some row->∀ k,k<ops.length->row.count k=(df ops k).count (cb ids a)
 lt:∀ (a:Nat) (row:List Nat),cm[a]? = some row->∀ k∈row,k<ops.length
structure pO (ids:List (List B)) (ops:List bS) (row:List Nat) (d j:Nat) (R:List Nat) (W:List Int) :Prop where
 j3:R.Nodup
 mC:∀ k∈R,k<ops.length/\oA ids ops k
 dl:d<=R.length
 wl:W.length=ops.length
 w:∀ k,k<ops.length->W[k]? = some (((df ops k).length:Int) - jM ids (R.take d) (df ops k) - (row.take j).count k)
 r:∀ k,k<ops.length->(k∈R<->W[k]? = some 0)
theorem akD {ids:List (List B)} {ops:List bS} (ar:ids.length=ops.length) (am:iL ids) {cm:List (List Nat)} (aj:Eh ids ops cm) {a:Nat} {row:List Nat} {d j:Nat} {R:List Nat} {W:List Int}
  (h:pO ids ops row d j R W) (aI:R[d]? = some a) (cA:cm[a]? = some row) {k:Nat} (aF:row[j]? = some k) :
  ∃ x:Int,W[k]? = some x/\1<=x/\x<=(df ops k).length/\pO ids ops row d (j+1) (if x - 1=0 then R++[k] else R) (W.set k (x - 1)) :=by
 have gh:=aj.lt a row cA k (List.mem_of_getElem? aF);have Ce:=aj.cnt a row cA k gh;have u6:=(List.getElem?_eq_some_iff.1 aI).1;have gF:R.take (d+1)=R.take d++[a] :=by rw[List.take_add_one,aI]; rfl
 have aiJ:(R.take (d+1)).Nodup:=List.Sublist.nodup (List.take_sublist _ _) h.j3;have nT:∀ b∈R.take (d+1),b<ids.length:=fun b bK=>by have:=(h.mC b (List.mem_of_mem_take bK)).1; omega
 obtain⟨dx,lK⟩:=Nu am aiJ nT (df ops k);rw[gF,Nt,<-Ce] at dx;have qc:(row.take (j+1)).count k=(row.take j).count k+1:=by
  rw[List.take_add_one,aF,List.count_append]; simp
 have jy:(row.take (j+1)).count k<=row.count k:=List.Sublist.count_le _ (List.take_sublist _ _);have bx:=h.w k gh;obtain⟨x,ak⟩:∃ x:Int,x=((df ops k).length:Int) - jM ids (R.take d) (df ops k) - (row.take j).count k:=⟨_,rfl⟩
 rw[<-ak] at bx;have xl:1<=x:=by omega
 have Um:k∉R:=fun hm=>by
  have:=(h.r k gh).1 hm;rw[bx] at this;have:=Option.some.inj this;omega
 refine⟨x,bx,xl,by omega,?_⟩;have Un:k<W.length:=by rw[h.wl]; exact gh
 have zD:(if x - 1=0 then R++[k] else R).take d=R.take d:=by
  split
  ·rw[List.take_append_of_le_length (by omega)]
  ·rfl
 have nW:x - 1=0->oA ids ops k:=fun aO=>by
  have heq:jM ids (R.take (d+1)) (df ops k)=(df ops k).length:=by rw[gF,Nt,<-Ce]; omega
  have eS:=lK.1 heq;have ez:∀ t,t<ids.length->ids[t]? = some (cb ids t) :=fun t aW=>by
   obtain⟨y,aP,_⟩:=cg (l:=ids) aW;rw[aP,hq aP]
  refine .mk k (by omega) (fun p aG=>?_) fun p aG i3 fq=>?_
  ·obtain⟨t,aW,rfl⟩:=eS p aG;exact List.mem_of_getElem? (ez t (nT t aW))
  ·obtain⟨t,aW,rfl⟩:=eS p aG;rw[am i3 t _ fq (ez t (nT t aW))];exact (h.mC t (List.mem_of_mem_take aW)).2
 refine⟨?_,fun y aP=>?_,?_,by simpa using h.wl,fun y aP=>?_,fun y aP=>?_⟩
 ·split
  ·rw[List.nodup_append];refine⟨h.j3,by simp,fun u aL v ax e=>?_⟩;rw[List.mem_singleton] at ax;subst e;rw[ax] at aL;exact Um aL
  ·exact h.j3
 ·split at aP
  ·rename_i aO;rw[List.mem_append,List.mem_singleton] at aP;rcases aP with aP | rfl
   ·exact h.mC y aP
   ·exact⟨gh,nW aO⟩
  ·exact h.mC y aP
 ·split
  ·simp; have:=h.dl; omega
  ·exact h.dl
 ·rw[zD,List.getElem?_set];by_cases vc:k=y
  ·subst vc;rw[if_pos rfl,if_pos Un,qc];congr 1;omega
  ·rw[if_neg vc,h.w y aP,List.take_add_one,aF,List.count_append];have:([k] :List Nat).count y=0:=by rw[List.count_singleton]; simp[vc]
   simp only[Option.toList_some,this,Nat.add_zero]
 ·rw[List.getElem?_set];by_cases vc:k=y
  ·subst vc;rw[if_pos rfl,if_pos Un];by_cases aO:x - 1=0
   ·rw[if_pos aO]; simp[aO]
   ·rw[if_neg aO];exact⟨fun hm=>absurd hm Um,fun aQ=>absurd (Option.some.inj aQ) aO⟩
  ·rw[if_neg vc,<-h.r y aP];split
   ·rw[List.mem_append,List.mem_singleton];exact⟨fun h=>h.resolve_right (Ne.symm vc),.inl⟩
   ·exact Iff.rfl
theorem akA {ids:List (List B)} {ops:List bS} {cm:List (List Nat)} (aj:Eh ids ops cm) {a:Nat} {row ss:List Nat} {d:Nat} {R:List Nat} {W:List Int}
  (h:pO ids ops row d row.length R W) (aI:R[d]? = some a) (cA:cm[a]? = some row) :pO ids ops ss (d+1) 0 R W:=by
 have gF:R.take (d+1)=R.take d++[a] :=by rw[List.take_add_one,aI]; rfl
 refine⟨h.j3,h.mC,(List.getElem?_eq_some_iff.1 aI).1,h.wl,fun k aF=>?_,h.r⟩;rw[h.w k aF,gF,Nt,List.take_length,aj.cnt a row cA k aF,List.take_zero,List.count_nil];congr 1;omega
theorem akB {ids:List (List B)} {ops:List bS} {row ss:List Nat} {d:Nat} {R:List Nat} {W:List Int} (h:pO ids ops row d 0 R W) :pO ids ops ss d 0 R W:=
 ⟨h.j3,h.mC,h.dl,h.wl,fun k aF=>by rw[h.w k aF,List.take_zero,List.take_zero],h.r⟩
theorem akC {ids:List (List B)} {ops:List bS} (ar:ids.length=ops.length) :pO ids ops [] 0 0 ((List.range ops.length).filter fun k=>(df ops k).isEmpty) ((List.range ops.length).map fun k=>((df ops k).length:Int)) :=by
 refine⟨List.Sublist.nodup List.filter_sublist List.nodup_range,fun k aF=>?_,Nat.zero_le _,by simp,fun k aF=>?_,fun k aF=>?_⟩
 ·rw[List.mem_filter,List.mem_range] at aF;have aO:df ops k=[] :=List.isEmpty_iff.1 aF.2;exact⟨aF.1,.mk k (by omega) (fun p aG=>by rw[aO] at aG; cases aG) fun p aG=>by rw[aO] at aG; cases aG⟩
 ·rw[List.getElem?_map,List.getElem?_range aF];simp[jM]
 ·rw[List.mem_filter,List.mem_range,List.getElem?_map,List.getElem?_range aF];simp only[Option.map_some,Option.some.injEq,aF,true_and,List.isEmpty_iff];constructor
  ·intro h; rw[h]; rfl
  ·intro h; exact List.length_eq_zero_iff.1 (by omega)
theorem akz {ids:List (List B)} {ops:List bS} (ar:ids.length=ops.length) (am:iL ids) {row:List Nat} {R:List Nat} {W:List Int} (h:pO ids ops row R.length 0 R W) :
  R.length<=ops.length/\(R.length=ops.length<->(qK ids ops).length=ops.length) :=by
 have dO:R.length<=ops.length:=by
  have:=sw (b:=List.range ops.length) h.j3 fun x ak=>List.mem_range.2 (h.mC x ak).1
  simpa using this
 refine⟨dO,?_⟩;rw[XG ar am];constructor
 ·intro aw i aA;exact (h.mC i (Xp h.j3 aw (fun i aA=>(h.mC i aA).1) i aA)).2
 ·intro eS;have ec:∀ i,oA ids ops i->i<ops.length->i∈R:=by
   intro i ay
   induction ay with
   | mk i aA aG ay aM=>
    intro aS;rw[h.r i aS,h.w i aS,List.take_length];have B2:=(Nu am h.j3 (fun a aI=>by have:=(h.mC a aI).1; omega) (df ops i)).2.2 fun p zy=>by
     obtain⟨cJ,ev⟩:=List.mem_iff_getElem?.1 (aG p zy);exact⟨cJ,aM p zy cJ ev (by have:=(List.getElem?_eq_some_iff.1 ev).1; omega),hq ev⟩
    rw[B2];simp
  have:=sw (a:=List.range ops.length) (b:=R) List.nodup_range fun i aA=>ec i (eS i (List.mem_range.1 aA)) (List.mem_range.1 aA)
  simp at this;omega
structure jO (l:av) (vs:List ae) (cm:List (List Nat)) (c5:Nat->Nat) :Prop where
 mg:vs.length=cm.length
 own:∀ (a:Nat) (v:ae) (row:List Nat),vs[a]? = some v->cm[a]? = some row->b0 1 l v (c5 a) (row.map gA)/\cS v=row.isEmpty/\(row=[]\/3<=c5 a)
 apart:∀ (a b:Nat) (kz lH:List Nat),a≠b->cm[a]? = some kz->cm[b]? = some lH->kz≠[]->lH≠[]->c5 a≠c5 b
def mr (cm:List (List Nat)) (c5:Nat->Nat) (b:Nat) :Prop:=∀ (a:Nat) (row:List Nat),cm[a]? = some row->row≠[]->c5 a≠b
theorem jO.lt {l:av} {vs:List ae} {cm:List (List Nat)} {c5:Nat->Nat} (h:jO l vs cm c5) {a:Nat} {row:List Nat} (aD:cm[a]? = some row) (b7:row≠[]) :c5 a<l.length:=by
 have aI:a<vs.length:=by rw[h.mg]; exact (List.getElem?_eq_some_iff.1 aD).1
 obtain⟨o,n,_⟩:=h.own a vs[a] row (List.getElem?_eq_getElem aI) aD;rcases o.lt with h1 | h1
 ·rw[h1] at n;cases row with
  | nil=>exact absurd rfl b7
  | cons=>cases n
 ·exact h1
theorem jO.frame {l l' : av} {vs:List ae} {cm:List (List Nat)} {c5:Nat->Nat} (h:jO l vs cm c5) (aJ:∀ b,b<l.length->(∃ a row,cm[a]? = some row/\row≠[]/\c5 a=b)->l'[b]? = l[b]?) :jO l' vs cm c5:=by
 refine⟨h.mg,fun a v row ax aD=>?_,h.apart⟩;obtain⟨o,n,t⟩:=h.own a v row ax aD;refine⟨?_,n,t⟩;by_cases b7:row=[]
 ·subst b7;have:=iC.1 n;subst this;exact .nil _
 ·exact o.frame fun ar=>aJ _ ar ⟨a,row,aD,b7,rfl⟩
theorem jO.more {l:av} {vs:List ae} {cm:List (List Nat)} {c5:Nat->Nat} (h:jO l vs cm c5) (x:av) :jO (l++x) vs cm c5:=h.frame fun b aj _=>List.getElem?_append_left aj
theorem jO.app {l:av} {vs:List ae} {cm:List (List Nat)} {c5:Nat->Nat} (h:jO l vs cm c5) {a k b:Nat} {v:ae} {row:List Nat} (ax:vs[a]? = some v) (aD:cm[a]? = some row) (aj:l[b]? = some (.cells 1 [.int .i64 (k:Int)])) (aq:3<=l.length) (dk:(row.length+1)*8<=cQ) :
  ∃ bc l' zU,iR l 1 8 v (.ao 1 b 0 1 1 1)=some (bc,l')/\jO l' (vs.set a bc) (cm.set a (row++[k])) zU/\l.length<=l'.length/\bc.cells=some [bc] ∧
   ∀ c,c<l.length->mr cm c5 c->l'[c]? = l[c]?/\mr (cm.set a (row++[k])) zU c:=by
 obtain⟨o,n,t⟩:=h.own a v row ax aD;have gZ:a<cm.length:=(List.getElem?_eq_some_iff.1 aD).1;obtain⟨j,Xx,kv,JI,Vq⟩:∃ j,b0 1 l v j (row.map gA)/\3<=j/\(∀ en ss,en≠a->cm[en]? = some ss->ss≠[]->c5 en≠j)/\∀ c,c<l.length->mr cm c5 c->j≠c:=by
  by_cases b7:row=[]
  ·subst b7;have:=iC.1 n;subst this;exact⟨l.length,.nil _,aq,fun en ss _ jD rT=>by have:=h.lt jD rT; omega,fun c al _=>by omega⟩
  ·exact⟨c5 a,o,t.resolve_left b7,fun en ss UE jD rT=>h.apart en a ss row UE jD aD rT b7,fun c _ az=>az a row aD b7⟩
 obtain⟨bc,cJ,l',aY,a6,bi,bI,bq,cx⟩:=mu (by_:=8) Xx (x:=.ao 1 b 0 1 1 1) (xs:=[gA k]) (by simp[dj,aj,gA]) (by simp[gA]) (by omega) (by omega) (by simpa using dk);have gM:cS bc=false:=by
  cases aQ:cS bc with
  | true=>have:=(cx.1 (iC.1 aQ)).2; cases this
  | false=>rfl
 refine⟨bc,l',fun x=>if x=a then cJ else c5 x,aY,⟨by simp[h.mg],fun x w Nc bx jD=>?_,fun x y t6 abv m1 ak aP mU IH=>?_⟩,bi,a6.cells,fun c al az=>⟨bI c al (fun e=>Vq c al az e.symm),fun x t6 ak mU=>?_⟩⟩
 ·by_cases i2:x=a
  ·subst i2;rw[List.getElem?_set_self (by rw[h.mg]; exact gZ)] at bx;rw[List.getElem?_set_self gZ] at jD;obtain rfl:=Option.some.inj bx;obtain rfl:=Option.some.inj jD;simp only[if_true];refine⟨by rw[List.map_append]; exact a6,by rw[gM]; simp,.inr ?_⟩;rcases bq with e | e<;>omega
  ·rw[List.getElem?_set_ne (Ne.symm i2)] at bx jD;simp only[if_neg i2];obtain⟨cC,f3,fp⟩:=h.own x w Nc bx jD;refine⟨?_,f3,fp⟩;by_cases b7:Nc=[]
   ·subst b7;have:=iC.1 f3;subst this;exact .nil _
   ·exact cC.frame fun ar=>bI _ ar (JI x Nc i2 jD b7)
 ·by_cases i2:x=a
  ·subst i2;rw[List.getElem?_set_ne m1] at aP;simp only[if_true,if_neg (Ne.symm m1)];have:=h.lt aP IH;have:=JI y abv (Ne.symm m1) aP IH;rcases bq with e | e<;>omega
  ·rw[List.getElem?_set_ne (Ne.symm i2)] at ak;simp only[if_neg i2];by_cases Jn:y=a
   ·subst Jn;simp only[if_true];have:=h.lt ak mU;have:=JI x t6 i2 ak mU;rcases bq with e | e<;>omega
   ·rw[List.getElem?_set_ne (Ne.symm Jn)] at aP;simp only[if_neg Jn];exact h.apart x y t6 abv m1 ak aP mU IH
 ·by_cases i2:x=a
  ·subst i2;simp only[if_true];have:=Vq c al az;rcases bq with e | e<;>omega
  ·rw[List.getElem?_set_ne (Ne.symm i2)] at ak;simp only[if_neg i2];exact az x t6 ak mU
end Op
end Go.cj

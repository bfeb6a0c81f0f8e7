/-
  op.Message: walked.
-/
import Derived.Test.YtboebmmklamaeaaGreatDoorVj
set_option linter.unusedVariables false
set_option linter.unusedSimpArgs false
set_option linter.unnecessarySimpa false
namespace Go.cn
open Go Go.Proofs
set_option maxRecDepth 100000
namespace Op
open hA
def gI (o:bQ) :bQ:={ o with e:=0#32,s:=0#32 }
theorem ado (o:bQ) (ay:kF o) (hk:fY (gI o)=0) {l:av} {K:ae->av->Prop} (a8:∀ w l',cw 1 cd l l' w (jC o) false->K (.bU [w,.int .i64 0]) l') :
  dh Tryz.prog GS 108 [.aV (bD o)] l (c:=⟨K⟩) :=by
 apply bH Qk Zc;unfold FK LS;have aC:cT=140737488355328:=rfl;have JK:=hw o.ha.toNat
 have qL:=hw o.ii.toNat
 have g3:=AW ay.ids;have fj:kF (gI o) :=⟨ay.ids,ay.len,ay.val,ay.key⟩
 have dW:=ES (gI o) fj;rw[hk] at dW;have sl:o.bO.l.length<=4:=ym (o:=gI o) hk;have Dt:eU o.bO.l=true:=by
  unfold fY at hk;have aZ:(gI o).bO=o.bO:=rfl;rw[aZ,if_neg (by omega)] at hk;cases ap:eU o.bO.l with
  | true=>rfl
  | false=>rw[ap] at hk; cases hk
 have Kf:(BitVec.setWidth 64 o.ha).toNat=o.ha.toNat:=by rw[BitVec.toNat_setWidth]; exact Nat.mod_eq_of_lt (by have:=o.ha.isLt; omega)
 have aim:=mz (gI o);have aP:l.length<(l++[bt.cells 11 (bD (gI o))]).length:=by simp
 have fC:(l++[bt.cells 11 (bD (gI o))])[l.length]? = some (.cells 11 (bD (gI o))) :=by simp
 simp[bD];refine bC dW (show bM [ae.aV (bD (gI o))]=true by simp[bM,ae.closed,aim]) ?_;simp;refine aqu o.bO ay.ids (by omega) Dt fun cb l1 h1=>?_
 have qM:l1[l.length]? = some (.cells 11 (bD (gI o))) :=by rw[h1.same _ aP]; exact fC
 have oA:l.length<l1.length:=by have:=h1.le; simp at this; omega
 have vR:=qM;simp[bD,gI] at vR;have ajN:(l1++[bt.cells 1 [ae.int .u8 111]])[l.length]? = some (.cells 11 (bD (gI o))) :=by rw[List.getElem?_append_left oA]; exact qM
 have atP:l.length<(l1++[bt.cells 1 [ae.int .u8 111]]).length:=by simp; omega
 have VQ:=ajN;simp[bD,gI] at VQ;simp[VQ];have ajS:(l1++[bt.cells 1 [ae.int .u8 111],bt.cells 1 [ae.int .u8 (u o.act.kind)]])[l.length]? = some (.cells 11 (bD (gI o))) :=by rw[List.getElem?_append_left oA]; exact qM
 have ajO:(l1++[bt.cells 1 [ae.int .u8 111],bt.cells 1 [ae.int .u8 (u o.act.kind)]])[l1.length]? = some (.cells 1 [.int .u8 111]) :=by simp
 have vV:(l1++[bt.cells 1 [ae.int .u8 111],bt.cells 1 [ae.int .u8 (u o.act.kind)]])[l1.length+1]? = some (.cells 1 [.int .u8 (u o.act.kind)]) :=by simp
 have r8:(l1++[bt.cells 1 [ae.int .u8 111],bt.cells 1 [ae.int .u8 (u o.act.kind)]]).length=l1.length+2:=by simp
 refine wy _ fun w2 ce ag=>?_
 rw[Kf] at ag;have Dg:=ag.le;rw[r8] at Dg;have qN:ce[l.length]? = some (.cells 11 (bD (gI o))) :=by rw[ag.same _ (by rw[r8]; omega)]; exact ajS
 have Uh:ce[l1.length]? = some (.cells 1 [.int .u8 111]) :=by rw[ag.same _ (by rw[r8]; omega)]; exact ajO
 have Ui:ce[l1.length+1]? = some (.cells 1 [.int .u8 (u o.act.kind)]) :=by rw[ag.same _ (by rw[r8]; omega)]; exact vV
 have pw:=qN;simp[bD,gI] at pw;simp[pw,Uh,Ui];refine wy _ fun eg eO ap=>?_
 have Vt:=ap.le;have cL:eO[l.length]? = some (.cells 11 (bD (gI o))) :=by rw[ap.same _ (by omega)]; exact qN
 have Uj:eO[l1.length]? = some (.cells 1 [.int .u8 111]) :=by rw[ap.same _ (by omega)]; exact Uh
 have Uk:eO[l1.length+1]? = some (.cells 1 [.int .u8 (u o.act.kind)]) :=by rw[ap.same _ (by omega)]; exact Ui
 have tY:=cL;simp[bD,gI] at tY;simp[tY,Uj,Uk,h1.cells,ag.cells,ap.cells,bS];obtain⟨L,gx⟩:∃ L,L=eO++[bt.cells 5 [.ao 1 l1.length 0 1 1 1,w2,cb,eg,.ao 1 (l1.length+1) 0 1 1 1]] :=⟨_,rfl⟩
 have vq:eO.length<=L.length:=by rw[gx]; simp
 have ot:∀ b,b<eO.length->L[b]? = eO[b]?:=fun b ai=>by rw[gx,List.getElem?_append_left ai]
 have IV:L[eO.length]? = some (.cells 5 [.ao 1 l1.length 0 1 1 1,w2,cb,eg,.ao 1 (l1.length+1) 0 1 1 1]) :=by rw[gx]; simp
 rw[<-gx];have E3:lL L (.ao 1 l1.length 0 1 1 1) [111#8] :=YH (by rw[ot _ (by omega)]; exact Uj);have ad3:lL L (.ao 1 (l1.length+1) 0 1 1 1) [o.act.kind] :=YH (by rw[ot _ (by omega)]; exact Uk);have E4:lL L w2 (ed o.ha.toNat) :=((yh ag).frame Vt ap.same).frame vq ot;have E5:lL L cb (pJ o.bO.l) :=((((yh h1).frame (l1:=l1++[bt.cells 1 [ae.int .u8 111],bt.cells 1 [ae.int .u8 (u o.act.kind)]]) (by rw[r8]; omega) (fun b ai=>List.getElem?_append_left ai)).frame (by rw[r8]; exact Dg) ag.same).frame Vt ap.same).frame vq ot;have ad2:lL L eg (ed o.ii.toNat) :=(yh ap).frame vq ot;have VL:L[l.length]? = some (.cells 11 (bD (gI o))) :=by rw[ot _ (by omega)]; exact cL
 obtain⟨M,lX⟩:∃ M,M=h4 [[111#8],ed o.ha.toNat,pJ o.bO.l,ed o.ii.toNat,[o.act.kind]] :=⟨_,rfl⟩
 have IX:M=[111#8]++ed o.ha.toNat++pJ o.bO.l++ed o.ii.toNat++[o.act.kind] :=by rw[lX]; simp[h4]
 have ahH:M.length<=40000:=by rw[IX]; simp only[List.length_append,List.length_cons,List.length_nil]; omega
 have IW:M.length≠0:=by rw[IX]; simp
 refine Te (bs:=[[111#8],ed o.ha.toNat,pJ o.bO.l,ed o.ii.toNat,[o.act.kind]]) IV rfl rfl ?_ (by rw[<-lX]; omega) (by omega) fun nV jy aJ=>?_
 ·intro k w s bB ar;rcases k with _ | _ | _ | _ | _ | k
  ·obtain rfl:=Option.some.inj bB; obtain rfl:=Option.some.inj ar; exact E3
  ·obtain rfl:=Option.some.inj bB; obtain rfl:=Option.some.inj ar; exact E4
  ·obtain rfl:=Option.some.inj bB; obtain rfl:=Option.some.inj ar; exact E5
  ·obtain rfl:=Option.some.inj bB; obtain rfl:=Option.some.inj ar; exact ad2
  ·obtain rfl:=Option.some.inj bB; obtain rfl:=Option.some.inj ar; exact ad3
  ·cases bB
 rw[<-lX,decide_eq_false IW] at aJ;have ahG:l.length<=L.length:=by omega
 have xf:cw 1 cd l jy nV M false:=aJ.base ahG fun b ai=>by
  have fh:b<l1.length:=by omega
  rw[ot b (by omega),ap.same b (by omega),ag.same b (by rw[r8]; omega),List.getElem?_append_left fh,h1.same b (by simp; omega),List.getElem?_append_left ai]
 have Dm:jy[l.length]? = some (.cells 11 (bD (gI o))) :=by rw[aJ.same _ (by omega)]; exact VL
 have ajg:l.length<jy.length:=e9 Dm;have xI:=Dm;simp[bD,gI] at xI;have dt:jC o=M++(if o.act.kind=1#8 then [] else ij (fg o.act.key))++(if o.act.kind=4#8 then ik o.act.val else []) :=by rw[IX]; rfl
 have kt:=yJ (fg o.act.key);rw[oX] at kt;have Jy:=ay.key;have ja:=BB o.act.val;have akg:=ay.val.2.2;have al:tx (.str o.act.key)=some (.b0 1 ((fg o.act.key).map cd)) :=by
  show some (ae.b0 1 (o.act.key.map fun b=>[iq b]))=_;rw[EH]
 by_cases cX:o.act.kind=1#8
 ·have aZ:(u o.act.kind:Int)=1:=(hL o.act.kind).2 cX;have jm:¬ o.act.kind=4#8:=by rw[cX]; decide
  rw[if_pos cX,if_neg jm,List.append_nil,List.append_nil] at dt;simp[xI,aZ];exact a8 _ _ (by rw[dt]; exact xf)
 ·have aZ:¬ (u o.act.kind:Int)=1:=fun h=>cX ((hL o.act.kind).1 h)
  rw[if_neg cX] at dt;simp[xI,aZ,al];refine adl (some (fg o.act.key)) (by simpa [oX] using Jy) (by simp[dv]) (by simp) (fun l' _ _=>by simp[dv]) fun ER kx hd=>?_
  obtain⟨aqp,KW,a9,tf,_⟩:=(xf.frame hd.le hd.same).app (by_:=1) (x:=ER) (xs:=ij (fg o.act.key)) hd.contents (by simp[cd]) (by omega) (by omega) (by rw[aC]; omega);have aew:=(aJ.frame hd.le hd.same).app (by_:=1) (x:=ER) (xs:=ij (fg o.act.key)) hd.contents (by simp[cd]) (by omega) (by omega) (by rw[aC]; omega);obtain⟨axw,avt,Po,B5,_⟩:=aew;rw[a9] at Po;obtain⟨rfl,rfl⟩:=Prod.mk.inj (Option.some.inj Po);have JX:KW[l.length]? = some (.cells 11 (bD (gI o))) :=by rw[B5.same _ (by omega)]; exact VL
  have vT:=JX;simp[bD,gI] at vT;simp[a9];refine dK.cM ?_;simp only[Bool.false_and] at tf;by_cases jm:o.act.kind=4#8
  ·have lR:(u o.act.kind:Int)=4:=(uO o.act.kind).2 jm;rw[if_pos jm] at dt;have UA:jk o.act=true:=by
    cases h:jk o.act with
    | true=>rfl
    | false=>
     unfold fY at hk;have b4:(gI o).bO=o.bO:=rfl;have dC:(gI o).act=o.act:=rfl;rw[b4,if_neg (by omega),Dt,if_pos rfl] at hk;unfold r1 at hk;rw[dC,h] at hk;simp at hk
   rw[y6 jm,Bool.and_eq_true] at UA;simp[vT,lR];refine aqB o.act.val ay.val UA.2 fun O5 alk lV=>?_
   obtain⟨aqo,alm,Fe,Fp,_⟩:=(tf.frame lV.le lV.same).app (by_:=1) (x:=O5) (xs:=ik o.act.val) lV.contents (by simp[cd]) (by omega) (by omega) (by rw[aC]; simp only[List.length_append]; omega);simp[Fe];refine dK.cM ?_;simp;exact a8 _ _ (by rw[dt]; exact Fp)
  ·have lR:¬ (u o.act.kind:Int)=4:=fun h=>jm ((uO o.act.kind).1 h)
   rw[if_neg jm,List.append_nil] at dt;simp[vT,lR];exact a8 _ _ (by rw[dt]; exact tf)
theorem PS {o:bQ} (h:fY o=0) :fY (gI o)=0:=by
 unfold fY at h ⊢;have aZ:(gI o).bO=o.bO:=rfl;rw[aZ];have az:r1 o=true->r1 (gI o)=true:=by
  unfold r1 gI;simp only[Bool.and_eq_true];rintro⟨a,b,c,d,e⟩;exact⟨a,b,c,by decide,by decide⟩
 split at h
 ·cases h
 ·rename_i h1;rw[if_neg h1];split at h
  ·rename_i ag;rw[if_pos ag];split at h
   ·rename_i ap;rw[if_pos (az ap)]
   ·cases h
  ·cases h
theorem Tx {o:bQ} (h:fY o=0) :jk o.act=true:=by
 unfold fY at h;split at h
 ·cases h
 ·split at h
  ·split at h
   ·rename_i ap;unfold r1 at ap;simp only[Bool.and_eq_true] at ap;exact ap.2.2.1
   ·cases h
  ·cases h
theorem KQ {s:List UInt8} (h:gu s=true) :s.length<=20:=by
 unfold gu at h;simp only[Bool.and_eq_true,decide_eq_true_eq] at h;omega
theorem Tz {o:bQ} (ay:kF o) (h:fY o=0) :(hI o).length<=1000:=by
 have h1:=hw o.ha.toNat
 have ag:=hw o.ii.toNat
 have ap:=AW ay.ids;have aJ:=yJ (fg o.act.key);rw[oX] at aJ;have bL:=BB o.act.val;have aE:=ym h;have aw:=hw o.e.toNat
 have ar:=hw o.s.toNat
 have aG:=Tx h;have aY:(if o.act.kind=1#8 then [] else ij (fg o.act.key)).length<=100:=by
  split
  ·simp
  ·rename_i cX;have:o.act.key.length<=20:=by
    by_cases dB:o.act.kind=2#8
    ·rw[y5 dB,Bool.and_eq_true] at aG; exact KQ aG.1
    ·by_cases kf:o.act.kind=3#8
     ·rw[Fg kf,Bool.and_eq_true] at aG; exact KQ aG.1
     ·by_cases jm:o.act.kind=4#8
      ·rw[y6 jm,Bool.and_eq_true] at aG; exact KQ aG.1
      ·rw[Fh cX dB kf jm] at aG; cases aG
   omega
 have a2:(if o.act.kind=4#8 then ik o.act.val else []).length<=100:=by
  split
  ·rename_i jm;rw[y6 jm,Bool.and_eq_true] at aG;have ax:=aG.2;have:o.act.val.text.length<=30:=by
    by_cases ci:o.act.val.kind=1#8
    ·rw[O1 ci] at ax;simp only[Bool.and_eq_true,decide_eq_true_eq] at ax;rw[ax.2]; simp
    ·by_cases b6:o.act.val.kind=2#8
     ·rw[O2 b6] at ax;simp only[Bool.and_eq_true,decide_eq_true_eq] at ax;rw[ax.2.2]; simp
     ·by_cases df:o.act.val.kind=3#8
      ·by_cases au:o.act.val.text.length<=30
       ·exact au
       ·rw[adh df] at ax;unfold rq at ax;rw[if_neg au] at ax;simp only[Bool.and_eq_true,decide_eq_true_eq,p7] at ax;have:=ax.1;rw[df] at this;exact absurd this (by decide)
      ·rw[O3 ci b6 df] at ax; cases ax
   omega
  ·simp
 unfold hI jC opHead;simp only[List.length_append,List.length_cons,List.length_nil];omega
theorem aqt (o:bQ) (ay:kF o) (hk:fY o=0) {l:av} {K:ae->av->Prop} (a8:∀ w l',cw 1 cd l l' w (hI o) false->K (.bU [w,.int .i64 0]) l') :
  dh Tryz.prog GS 72 [.aV (bD o)] l (c:=⟨K⟩) :=by
 apply bH HH NF;unfold B4 El;have dW:=ES o ay;rw[hk] at dW;have ez:=mz o;have jq:=Tz ay hk;have hT:(BitVec.setWidth 64 o.e).toNat=o.e.toNat:=by rw[BitVec.toNat_setWidth]; exact Nat.mod_eq_of_lt (by have:=o.e.isLt; omega)
 have px:(BitVec.setWidth 64 o.s).toNat=o.s.toNat:=by rw[BitVec.toNat_setWidth]; exact Nat.mod_eq_of_lt (by have:=o.s.isLt; omega)
 have aP:l.length<(l++[bt.cells 11 (bD o)]).length:=by simp
 have fC:(l++[bt.cells 11 (bD o)])[l.length]? = some (.cells 11 (bD o)) :=by simp
 simp[bD];refine bC dW (show bM [ae.aV (bD o)]=true by simp[bM,ae.closed,ez]) ?_;simp;refine ado o ay (PS hk) fun cb l1 h1=>?_
 have qM:l1[l.length]? = some (.cells 11 (bD o)) :=by rw[h1.same _ aP]; exact fC
 have oA:l.length<l1.length:=e9 qM;have vR:=qM;simp[bD] at vR;simp[vR];refine wy _ fun w2 ce ag=>?_
 rw[hT] at ag;have qN:ce[l.length]? = some (.cells 11 (bD o)) :=by rw[ag.same _ oA]; exact qM
 have pw:=qN;simp[bD] at pw;simp[pw];refine wy _ fun eg eO ap=>?_
 rw[px] at ap;simp[h1.cells,ag.cells,ap.cells,bS];obtain⟨L,gx⟩:∃ L,L=eO++[bt.cells 3 [cb,w2,eg]] :=⟨_,rfl⟩
 have vq:eO.length<=L.length:=by rw[gx]; simp
 have ot:∀ b,b<eO.length->L[b]? = eO[b]?:=fun b ai=>by rw[gx,List.getElem?_append_left ai]
 have IV:L[eO.length]? = some (.cells 3 [cb,w2,eg]) :=by rw[gx]; simp
 rw[<-gx];have E3:lL L cb (jC o) :=(((yh h1).frame ag.le ag.same).frame ap.le ap.same).frame vq ot;have E4:lL L w2 (ed o.e.toNat) :=((yh ag).frame ap.le ap.same).frame vq ot;have E5:lL L eg (ed o.s.toNat) :=(yh ap).frame vq ot;have lX:h4 [jC o,ed o.e.toNat,ed o.s.toNat]=hI o:=by simp[h4,hI]
 have IW:(hI o).length≠0:=by unfold hI jC opHead; simp
 refine Te (bs:=[jC o,ed o.e.toNat,ed o.s.toNat]) IV rfl rfl ?_ (by rw[lX]; omega) (by omega) fun nV jy aJ=>?_
 ·intro k w s bB ar;rcases k with _ | _ | _ | k
  ·obtain rfl:=Option.some.inj bB; obtain rfl:=Option.some.inj ar; exact E3
  ·obtain rfl:=Option.some.inj bB; obtain rfl:=Option.some.inj ar; exact E4
  ·obtain rfl:=Option.some.inj bB; obtain rfl:=Option.some.inj ar; exact E5
  ·cases bB
 rw[lX,decide_eq_false IW] at aJ;simp;refine a8 _ _ (aJ.base ?_ fun b ai=>?_)
 ·have:=ag.le; have:=ap.le; omega
 ·have:=ag.le; have:=ap.le;rw[ot b (by omega),ap.same b (by omega),ag.same b (by omega),h1.same b (by simp; omega),List.getElem?_append_left ai]
theorem aqs (o:bQ) (ay:kF o) (hk:¬ fY o=0) :bR Tryz.prog GS 72 [.aV (bD o)] (.bU [.aX,.int .i64 (fY o)]) :=by
 refine cf Tryz.checked.mixed b2 ?_;apply bH HH NF;unfold B4 El;have dW:=ES o ay;have ez:=mz o;obtain⟨E,e1⟩:∃ E,E=bD o:=⟨_,rfl⟩
 have r6:E.length=11:=by rw[e1]; rfl
 rw[<-e1] at dW ez ⊢;simp[r6,List.take_of_length_le];refine bC dW (by simp[bM,ae.closed,ez]) ?_;simp[hk];exact a1 rfl rfl
theorem adn (o:bQ) (ay:kF o) :bR Tryz.prog GS 38 [.aV (bD o)] (.bU [fk (ib o),.int .i64 (fY o)]) :=by
 refine cf Tryz.checked.mixed b2 ?_;apply bH RT aaM;unfold Hj Ng ib;have ez:=mz o;have aB:(rep 32 (.int .u8 0) :List ae)=(List.replicate 32 0#8).map bI:=by simp[rep]
 obtain⟨E,e1⟩:∃ E,E=bD o:=⟨_,rfl⟩
 have r6:E.length=11:=by rw[e1]; rfl
 by_cases aT:fY o=0
 ·have jq:=Tz ay aT;have eT:(hy (hI o)).length=32:=sZ _;rw[<-e1];simp[r6,List.take_of_length_le];rw[e1];refine aqt o ay aT fun cb l1 h1=>?_
  rw[<-e1] at h1;have fC:l1[1]? = some (.cells 32 (rep 32 (.int .u8 0))) :=by rw[h1.same 1 (by simp)]; rfl
  simp;refine iF (acM (some (hI o)) (by simp; omega)) (.cons (h1.pW (fun _=>rfl) (some (hI o)) rfl rfl) .nil) (by simp[ae.flat,kM,fk,w6 bI (fun _=>rfl)]) ?_;have ss:bS (rep 32 (.int .u8 0)) 0 ((hy (hI o)).map bI)=(hy (hI o)).map bI:=g8 (by rw[List.length_map,eT]; rfl);have l8:(l1.set 1 (bt.cells 32 ((hy (hI o)).map bI)))[1]? = some (.cells 32 ((hy (hI o)).map bI)) :=List.getElem?_set_self (e9 fC);simp[fC,fk,eT,ss,l8,List.take_of_length_le];exact a1 (by rw[if_pos aT,aT]) (by simp[ae.closed,bM,kK bI (fun _=>rfl)])
 ·have UZ:=aqs o ay aT;rw[<-e1] at UZ ez ⊢;simp[r6,List.take_of_length_le];refine bC UZ (by simp[bM,ae.closed,ez]) ?_;simp[aT,fk,aB];exact a1 rfl (by simp only[ae.closed,bM,kK bI (fun _=>rfl),Bool.and_self])
end Op
end Go.cn

namespace Go.cn
open Go Go.Proofs Go.RowKit
set_option maxRecDepth 100000
namespace Op
open hA
theorem ac6 {P:Program} {t:TypeId} {ts:List TypeId} {cs:List ae} (aM:P.underlying t=some .string) (h:dE P (t::ts) cs) :∃ s cs',cs=.str s::cs'/\dE P ts cs':=by
 cases h
 case str s cs' ar oL h=>exact⟨_,_,rfl,h⟩
 all_goals (exfalso; simp_all; done)
theorem ac8 {ts:List TypeId} {cs:List ae} (h:dE Tryz.prog (5::ts) cs) :∃ (x:B) (cs' : List ae),cs=bI x::cs'/\dE Tryz.prog ts cs':=by
 obtain⟨k,ve,rfl,h1,ag,ap⟩:=yL (k:=.u8) (by kernel_rfl) h;have bd:(0:Int)<=k:=h1;have bL:k<=255:=ag;refine⟨BitVec.ofNat 8 k.toNat,ve,?_,ap⟩;have:((BitVec.ofNat 8 k.toNat).toNat:Int)=k:=by
  rw[BitVec.toNat_ofNat,Nat.mod_eq_of_lt (by omega)]; omega
 simp[bI,u]; omega
theorem ap1 {ts:List TypeId} {cs:List ae} (h:dE Tryz.prog (71::ts) cs) :∃ (x:List B) (cs' : List ae),cs=x.map bI++cs'/\x.length=32/\dE Tryz.prog ts cs':=by
 have h1:=ap0 (e:=5) (n:=32) (by kernel_rfl) h;exact ac4 (by kernel_rfl) 32 h1
theorem ac5 {ts:List TypeId} {cs:List ae} (h:dE Tryz.prog (26::ts) cs) :∃ (s:fz) (cs' : List ae),cs=bc s::cs'/\hx s/\dE Tryz.prog ts cs':=by
 obtain⟨s,cs',rfl,_,h1,ag⟩:=OV (e:=71) (z:=32) (enc:=a7) (Q:=fun x=>x.length=32) (by kernel_rfl) (by kernel_rfl) (fun r aC=>by
  obtain⟨x,cs',rfl,aj,ap⟩:=ap1 aC;rw[EL ap,List.append_nil];exact⟨x,rfl,aj⟩) h
 exact⟨s,cs',rfl,h1,ag⟩
theorem OW {ts:List TypeId} {cs:List ae} (h:dE Tryz.prog (25::ts) cs) :∃ (x:D) (cs' : List ae),cs=bE x::cs'/\dE Tryz.prog ts cs':=by
 obtain⟨k,ve,rfl,h1,ag,ap⟩:=yL (k:=.u32) (by kernel_rfl) h;have bd:(0:Int)<=k:=h1;have bL:k<=4294967295:=ag;refine⟨BitVec.ofNat 32 k.toNat,ve,?_,ap⟩;have:((BitVec.ofNat 32 k.toNat).toNat:Int)=k:=by
  rw[BitVec.toNat_ofNat,Nat.mod_eq_of_lt (by omega)]; omega
 simp[bE,u]; omega
structure Fb (o:bQ) :Prop where
 ids:hx o.bO
 me:-9223372036854775808<=o.act.val.num
 q5:o.act.val.num<9223372036854775808
theorem ap4 {ts:List TypeId} {cs:List ae} (h:dE Tryz.prog (29::ts) cs) :∃ (v:hN) (cs' : List ae),cs=[bI v.kind,.int .i64 v.num,dG v.bits,.str v.text]++cs'/\(-9223372036854775808<=v.num/\v.num<9223372036854775808)/\dE Tryz.prog ts cs':=by
 have h1:=Bx (fs:=[5,2,27,9]) (by kernel_rfl) h;obtain⟨k,_,rfl,ag⟩:=ac8 h1;obtain⟨n,_,rfl,pu,pv,ap⟩:=yL (k:=.i64) (by kernel_rfl) ag;obtain⟨b,_,rfl,aJ⟩:=ac7 ap;obtain⟨s,_,rfl,bd⟩:=ac6 (by kernel_rfl) aJ;have bL:n<=9223372036854775807:=pv;exact⟨⟨k,n,b,s⟩,_,rfl,⟨pu,by show n<9223372036854775808; omega⟩,bd⟩
theorem apZ {ts:List TypeId} {cs:List ae} (h:dE Tryz.prog (31::ts) cs) :∃ (a:Act) (cs' : List ae),cs=[bI a.kind,.str a.key,bI a.val.kind,.int .i64 a.val.num,dG a.val.bits,.str a.val.text]++cs'/\(-9223372036854775808<=a.val.num/\a.val.num<9223372036854775808)/\dE Tryz.prog ts cs':=by
 have h1:=Bx (fs:=[5,9,29]) (by kernel_rfl) h;obtain⟨k,_,rfl,ag⟩:=ac8 h1;obtain⟨s,_,rfl,ap⟩:=ac6 (by kernel_rfl) ag;obtain⟨v,_,rfl,ax,aJ⟩:=ap4 ap;exact⟨⟨k,s,v⟩,_,rfl,ax,aJ⟩
theorem ap2 {ts:List TypeId} {cs:List ae} (h:dE Tryz.prog (35::ts) cs) :∃ (o:bQ) (cs' : List ae),cs=bD o++cs'/\Fb o/\dE Tryz.prog ts cs':=by
 have h1:=Bx (fs:=[25,26,27,31,33]) (by kernel_rfl) h;obtain⟨a,_,rfl,ag⟩:=OW h1;obtain⟨p,_,rfl,aE,ap⟩:=ac5 ag;obtain⟨n,_,rfl,aJ⟩:=ac7 ap;obtain⟨c,_,rfl,al,bd⟩:=apZ aJ;have bL:=Bx (fs:=[25,25]) (by kernel_rfl) bd;obtain⟨x,_,rfl,eN⟩:=OW bL;obtain⟨y,cs',rfl,hd⟩:=OW eN;exact⟨⟨a,p,n,c,x,y⟩,cs',by simp[bD],⟨aE,al.1,al.2⟩,hd⟩
end Op
end Go.cn

namespace Go.cn
open Go Go.Proofs
set_option maxRecDepth 100000
open hA Op
def yq (a n:Nat) :Nat->Nat
 | 0=>1
 | k+1=>match Nat.beq (n / 2 ^ (63 - k) % 2) 1 with
  | true=>((yq a n k) ^ 2 % 1000000007)*a % 1000000007
  | false=>(yq a n k) ^ 2 % 1000000007
theorem LC (a n:Nat) (aH:n<2 ^ 64) :∀ k,k<=64->yq a n k=fm a (n / 2 ^ (64 - k))
 | 0,_=>by
  have:n / 2 ^ (64 - 0)=0:=Nat.div_eq_of_lt aH;rw[this]; rfl
 | k+1,hk=>by
  have aL:=LC a n aH k (by omega);have ai:=UC n k (by omega);have e:64 - (k+1)=63 - k:=by omega
  rw[e];unfold yq;rw[aL,Nat.pow_two,YR];split
  ·rename_i h;have h1:=Nat.eq_of_beq_eq_true h;rw[YP,ai,h1]
  ·rename_i h;have h1:n / 2 ^ (63 - k) % 2≠1:=fun aN=>by rw[aN] at h; cases h
   rw[ai];congr 1; omega
def YO:List ae->Option ae
 | [.int .u32 x,.int .u64 n]=>match decide (0<=x)&&(decide (x<4294967296)&&(decide (0<=n)&&decide (n<18446744073709551616))) with
  | true=>some (.int .u32 ((yq x.toNat n.toNat 64:Nat) :Int))
  | false=>none
 | _=>none
abbrev LF:FuncId × Bool × (List ae->Option ae) :=(183,false,YO)
theorem YS:rE Tryz.prog GS LF:=by
 intro args r h;refine⟨?_,fun h=>by cases h⟩;simp only[YO] at h;split at h
 ·rename_i x n;split at h
  ·rename_i al;cases h;simp only[Bool.and_eq_true,decide_eq_true_eq] at al;obtain⟨h1,ag,ap,aJ⟩:=al;have aj:(ae.int .u32 x)=bE (BitVec.ofNat 32 x.toNat) :=by
    have:((BitVec.ofNat 32 x.toNat).toNat:Int)=x:=by
     rw[BitVec.toNat_ofNat,Nat.mod_eq_of_lt (by omega)]; omega
    simp[bE,u]; omega
   have aH:(ae.int .u64 n)=dG (BitVec.ofNat 64 n.toNat) :=by
    have:((BitVec.ofNat 64 n.toNat).toNat:Int)=n:=by
     rw[BitVec.toNat_ofNat,Nat.mod_eq_of_lt (by omega)]; omega
    simp[dG,u]; omega
   have aE:=Ef (BitVec.ofNat 32 x.toNat) (BitVec.ofNat 64 n.toNat);have aC:bE (gm (BitVec.ofNat 32 x.toNat) (BitVec.ofNat 64 n.toNat).toNat)=.int .u32 ((yq x.toNat n.toNat 64:Nat) :Int) :=by
    have aZ:(BitVec.ofNat 32 x.toNat).toNat=x.toNat:=by rw[BitVec.toNat_ofNat,Nat.mod_eq_of_lt (by omega)]
    have b4:(BitVec.ofNat 64 n.toNat).toNat=n.toNat:=by rw[BitVec.toNat_ofNat,Nat.mod_eq_of_lt (by omega)]
    show ae.int .u32 (u _)=_;unfold u;rw[pV,aZ,b4,LC _ _ (by omega) 64 (Nat.le_refl _)];simp
   rw[aj,aH,<-aC];exact aE
  ·cases h
 ·cases h
def DS:List (List ae)->Option (List eD)
 | []=>some []
 | [c] ::r=>match zf c with
  | some s=>match Nat.ble s.l.length 10000 with
   | true=>match DS r with | some l=>some (s::l) | none=>none
   | false=>none
  | none=>none
 | _=>none
theorem X4:∀ {es:List (List ae)} {l:List eD},DS es=some l->(es=l.map fun s=>[cE s])/\∀ s∈l,s.l.length<=10000
 | [],l,h=>by cases h; exact⟨rfl,fun s ar=>by cases ar⟩
 | e::r,l,h=>by
  unfold DS at h;split at h
  ·rename_i aZ; cases aZ
  ·rename_i c cx aZ;cases aZ;split at h
   ·rename_i s ar;split at h
    ·rename_i ai;split at h
     ·rename_i l' au;cases h;obtain⟨h1,ag⟩:=X4 au;refine⟨by rw[FC ar,h1]; rfl,fun x aj=>?_⟩;rcases List.mem_cons.1 aj with ap | ap
      ·rw[ap]; exact Nat.le_of_ble_eq_true ai
      ·exact ag x ap
     ·cases h
    ·cases h
   ·cases h
  ·cases h
def YI:List ae->Option ae
 | [.b0 1 es]=>match DS es with
  | some cm=>match Nat.ble cm.length 20 with
   | true=>some (.bU [fk (hy (bytesOf cm)),.int .i64 0])
   | false=>none
  | none=>none
 | _=>none
abbrev Ly:FuncId × Bool × (List ae->Option ae) :=(111,false,YI)
theorem YJ:rE Tryz.prog GS Ly:=by
 intro args r h;refine⟨?_,fun h=>by cases h⟩;simp only[YI] at h;split at h
 ·split at h
  ·rename_i es cm kW;split at h
   ·rename_i aH;cases h;obtain⟨h1,ag⟩:=X4 kW;rw[h1];exact LA cm (Nat.le_of_ble_eq_true aH) ag
   ·cases h
  ·cases h
 ·cases h
end Go.cn

namespace Go.cn
open Go Go.Proofs
set_option maxRecDepth 100000
namespace Op
open hA
section
variable {α:Type} {z:Nat} {enc:α->List ae}
theorem amJ {l:av} {v:ae} {j k:Nat} {bl:List α} {zr:List ae} (qU:zr.length=z) (h:bX z l v j (bl.map enc)) (hk:k<bl.length) :
  ∃ v3 eO r,fQ (.ao z) v (some (.int .i64 (k:Int))) none none=some v3/\qm zr l v3=some eO/\fQ (.ao z) v none (some (.int .i64 (k:Int))) none=some r ∧
   bX z eO r j ((bl.take k).map enc)/\cU r=false/\eO.length=l.length/\∀ b,b≠j->eO[b]? = l[b]?:=by
 generalize aw:bl.map enc=es at h;cases h with
 | nil j=>rw[List.map_eq_nil_iff] at aw; subst aw; simp at hk
 | ao j n cap sz cs es ai au aH aB al c3 cp=>
  subst aw;have qK:bl.length=n:=by simpa using aH
  have gA:iN (.int .i64 (k:Int)) n=some k:=by
   show (if 0<=(k:Int)/\(k:Int)<=(n:Int) then some (k:Int).toNat else none)=some k;rw[if_pos ⟨by omega,by omega⟩]; simp
  have fU:iN (.int .i64 (k:Int)) cap=some k:=by
   show (if 0<=(k:Int)/\(k:Int)<=(cap:Int) then some (k:Int).toNat else none)=some k;rw[if_pos ⟨by omega,by omega⟩]; simp
  have ev:gd n cap (some (.int .i64 (k:Int))) none none=some (k,n,cap) :=by
   show (match iN (.int .i64 (k:Int)) n with | none=>none | some l=>some (l,n,cap))=_;rw[gA]
  have dU:gd n cap none (some (.int .i64 (k:Int))) none=some (0,k,cap) :=by
   show (match iN (.int .i64 (k:Int)) cap with | none=>none | some h=>some (0,h,cap))=_;rw[fU]
  have dW:¬ cap=k:=by omega
  have xm:¬ cap=0:=by omega
  have eR:j<l.length:=e9 ai;have fE:k*z<=n*z:=Nat.mul_le_mul_right _ (by omega);have jY:n*z<=cap*z:=Nat.mul_le_mul_right _ al;have oI:(dm zr (n - k)).length=(n - k)*z:=by rw[yy,qU]
  have ajh:k*z+(n - k)*z=n*z:=by rw[<-Nat.add_mul]; congr 1; omega
  refine⟨.ao z j (k*z) (n - k) (cap - k) sz,l.set j (.cells sz (bS cs (k*z) (dm zr (n - k)))),.ao z j 0 k cap sz,?_,?_,?_,?_,rfl,by simp,fun b g1=>by rw[List.getElem?_set_ne (fun h=>g1 h.symm)]⟩
  ·rw[ws,ev]; simp[dW]
  ·unfold qm;simp only;rw[if_neg (by omega)];simp[ai,qU]
  ·rw[ws,dU]; simp[xm]
  ·refine .ao j k cap sz _ _ (List.getElem?_set_self eR) (by rw[p1 (by omega),oI]; omega) (by simp; omega) (fun e aw=>?_) (by omega) c3 ?_
   ·obtain⟨y,aK,rfl⟩:=List.mem_map.1 aw;exact aB _ (List.mem_map_of_mem (List.mem_of_mem_take aK))
   ·unfold bS;rw[List.append_assoc,List.take_append_of_le_length (by rw[List.length_take]; omega),List.take_take,Nat.min_self];have aZ:cs.take (k*z)=(cs.take (n*z)).take (k*z) :=by rw[List.take_take,Nat.min_eq_left fE]
    have b4:bl.map enc=(bl.take k).map enc++(bl.drop k).map enc:=by rw[<-List.map_append,List.take_append_drop]
    have dC:((bl.take k).map enc).flatten.length=k*z:=by
     rw[lk (z:=z) (fun e aw=>by obtain⟨y,aK,rfl⟩:=List.mem_map.1 aw; exact aB _ (List.mem_map_of_mem (List.mem_of_mem_take aK)))];rw[List.length_map,List.length_take,Nat.min_eq_left (by omega)]
    rw[aZ,cp,b4,List.flatten_append,List.take_append_of_le_length (by omega),List.take_of_length_le (by omega)]
theorem Yz {bl:List α} (aB:∀ y∈bl,(enc y).length=z) (k:Nat) (hk:k<=bl.length) {n:Nat} (aH:bl.length=n) {cs:List ae} (cp:cs.take (n*z)=(bl.map enc).flatten) (au:n*z<=cs.length) :
  cs.take (k*z)=((bl.take k).map enc).flatten/\(cs.drop (k*z)).take (n*z - k*z)=((bl.drop k).map enc).flatten:=by
 have fE:k*z<=n*z:=Nat.mul_le_mul_right _ (by omega);have b4:bl.map enc=(bl.take k).map enc++(bl.drop k).map enc:=by rw[<-List.map_append,List.take_append_drop]
 have dC:((bl.take k).map enc).flatten.length=k*z:=by
  rw[lk (z:=z) (fun e aw=>by obtain⟨y,aK,rfl⟩:=List.mem_map.1 aw; exact aB _ (List.mem_of_mem_take aK))];rw[List.length_map,List.length_take,Nat.min_eq_left (by omega)]
 have aZ:cs.take (k*z)=(cs.take (n*z)).take (k*z) :=by rw[List.take_take,Nat.min_eq_left fE]
 constructor
 ·rw[aZ,cp,b4,List.flatten_append,List.take_append_of_le_length (by omega),List.take_of_length_le (by omega)]
 ·rw[<-List.drop_take,cp,b4,List.flatten_append,List.drop_append_of_le_length (by omega),List.drop_of_length_le (by omega),List.nil_append]
theorem YA {l:av} {v:ae} {j k:Nat} {bl:List α} {x:α} {X:ae} (dN:X.cells=some (enc x)) (h:bX z l v j (bl.map enc)) (aB:∀ y∈bl,(enc y).length=z) (hk:k<bl.length) (aj:(enc x).length=z) :
  ∃ p l',cS (.ao z) v (.int .i64 (k:Int))=some p/\jF z l p (X)=some l'/\bX z l' v j ((bl.set k x).map enc)/\l'.length=l.length/\∀ b,b≠j->l'[b]? = l[b]?:=by
 generalize aw:bl.map enc=es at h;cases h with
 | nil j=>rw[List.map_eq_nil_iff] at aw; subst aw; simp at hk
 | ao j n cap sz cs es ai au aH kY al c3 cp=>
  subst aw;have qK:bl.length=n:=by simpa using aH
  have eR:j<l.length:=e9 ai;have bF:=aj;have fE:(k+1)*z<=n*z:=Nat.mul_le_mul_right _ (by omega);have jY:n*z<=cap*z:=Nat.mul_le_mul_right _ al;have ar:(k+1)*z=k*z+z:=by rw[Nat.succ_mul]
  obtain⟨f1,_⟩:=Yz aB k (by omega) qK cp (by omega);obtain⟨_,f2⟩:=Yz aB (k+1) (by omega) qK cp (by omega);refine⟨.ptr j (k*z) sz,l.set j (.cells sz (bS cs (k*z) (enc x))),?_,?_,?_,by simp,fun b g1=>by rw[List.getElem?_set_ne (fun h=>g1 h.symm)]⟩
  ·simp[cS]; omega
  ·unfold jF;simp[ai,dN,bF];omega
  ·refine .ao j n cap sz _ _ (List.getElem?_set_self eR) (by rw[p1 (by omega),bF]; omega) (by simp; omega) (fun e aw=>?_) al c3 ?_
   ·obtain⟨y,aK,rfl⟩:=List.mem_map.1 aw;rcases List.mem_or_eq_of_mem_set aK with h | h
    ·exact aB _ h
    ·rw[h]; exact bF
   ·have l8:bl.set k x=bl.take k++(x::bl.drop (k+1)) :=by rw[List.set_eq_take_append_cons_drop,if_pos hk]
    rw[l8,List.map_append,List.map_cons,List.flatten_append,List.flatten_cons,<-f1,<-f2];unfold bS;have t1:(cs.take (k*z)).length=k*z:=by rw[List.length_take]; omega
    have hK:(cs.take (k*z)).take (n*z)=cs.take (k*z) :=List.take_of_length_le (by rw[t1]; omega);have jf:(enc x).take (n*z - k*z)=enc x:=List.take_of_length_le (by rw[bF]; omega);rw[List.append_assoc,bF,<-ar,List.take_append,t1,hK,List.take_append,jf,bF,show n*z - k*z - z=n*z - (k+1)*z by omega]
end
end Op
end Go.cn

namespace Go.cn
open Go Go.Proofs
set_option maxRecDepth 100000
namespace Op
theorem TM {α:Type} {enc:α->List ae} {z:Nat} {a:List α} (h:∀ x∈a,(enc x).length=z) :(a.map enc).flatten.length=a.length*z:=by
 rw[lk (z:=z) (fun e aw=>by obtain⟨y,aK,rfl⟩:=List.mem_map.1 aw; exact h y aK),List.length_map]
theorem amM {α:Type} {enc:α->List ae} {z:Nat} {l:av} {b n:Nat} {a:List α} (aG:∀ x∈a,(enc x).length=z) (aH:a.length=n) (ai:l[b]? = some (.cells (n*z) (a.map enc).flatten)) :bX z l (.ao z b 0 n n (n*z)) b (a.map enc) :=by
 have fv:=TM aG;refine .ao b n n (n*z) _ _ ai (by rw[fv,aH]) (by simp[aH]) (fun e aw=>?_) (Nat.le_refl _) (Nat.le_refl _) ?_
 ·obtain⟨y,aK,rfl⟩:=List.mem_map.1 aw; exact aG y aK
 ·rw[List.take_of_length_le (by rw[fv,aH]; omega)]
end Op
end Go.cn

namespace Go.cn
open Go Go.Proofs
set_option maxRecDepth 100000
namespace Op
open hA
theorem aej {l:List D} {k:Nat} {x:D} (h:l[k]? = some x) (aE:(l.take k).all fG=true) :(l.take (k+1)).all fG=fG x:=by
 rw[List.take_add_one,h,List.all_append,aE]; simp
theorem aeh {l:List D} {k:Nat} {x:D} (h:l[k]? = some x) (aj:fG x=false) :l.all fG=false:=by
 cases aN:l.all fG with
 | false=>rfl
 | true=>rw[List.all_eq_true.1 aN x (List.mem_of_getElem? h)] at aj; cases aj
structure adD (l:List D) (k:Nat) (ah:bi) (h:av) :Prop where
 bw:ah 5=cO 1 eF (some l)
 cl:ah 6=.int .i64 l.length
 dx:ah 7=.int .i64 k
 aE:(l.take k).all fG=true
theorem Ua (l:List D) (au:l.length<=1000) :bR Tryz.prog GS 190 [cO 1 eF (some l)] (.bool (l.all fG)) :=by
 refine cf Tryz.checked.mixed b2 ?_;apply bH Rr aak;unfold GU MT;have bA:c8 (.ao 1) (cO 1 eF (some l))=some (.int .i64 l.length) :=oP _;simp[bA];refine c7 l.length (adD l) ?_ ⟨by simp,by simp,by simp,by simp⟩;rintro k ah h hk ⟨bw,cl,dx,aE⟩;obtain⟨ah,rfl⟩:=kD bw cl dx;clear bw cl dx;unfold Xf;by_cases h:k<l.length
 ·obtain⟨x,aj,_⟩:=ck h;have cV:cS (.ao 1) (cO 1 eF (some l)) (.int .i64 k)=some (.cq (eF x) 0) :=by rw[pB]; simp[aj]
  have eW:IntKind.i64.wrap ((k:Int)+1)=(k+1:Nat) :=wrap_i64 (by omega) (by omega);simp[h,cV,eF];refine bC (KG x) rfl ?_;cases az:fG x with
  | false=>
   have:=aeh aj az;simp;exact a1 (by rw[this]) rfl
  | true=>
   simp[eW];exact⟨by omega,by simp,by simp,by simp,by rw[aej aj aE]; exact az⟩
 ·have eH:k=l.length:=by omega
  subst eH;rw[List.take_length] at aE;simp;exact a1 (by rw[aE]) rfl
theorem an5 {l:av} {b:Nat} {x:D} (h:l[b]? = some (.cells 1 [bE x])) :fy (b3 l) (.ao 1 b 0 1 1 1) (cO 1 eF (some [x])) :=by
 refine Bg (rest:=[]) (es:=[[bE x]]) (by simpa using h) rfl (by simp) (by simp[bM,ae.closed])
def Bb (a b:D) :D:=BitVec.ofNat 32 (a.toNat*b.toNat % 1000000007)
theorem ag9 (a b:D) :bR Tryz.prog GS 166 [bE a,bE b] (.bU [bE (if fG a&&fG b then Bb a b else 0#32),.int .i64 (if fG a&&fG b then 0 else 2)]) :=by
 refine cf Tryz.checked.mixed b2 ?_;apply bH Q5 ZX;unfold Gt MB;simp;refine iF (Ua [a,b] (by simp)) (.cons (Bh (by simp)) .nil) rfl ?_;cases aG:fG a with
 | false=>
  simp[aG];exact a1 rfl rfl
 | true=>
  cases ai:fG b with
  | false=>
   simp[aG,ai];exact a1 rfl rfl
  | true=>
   have aP:a.toNat<1000000007:=by unfold fG at aG; simp at aG; exact aG.1.2
   simp[aG,ai];refine iF (Lb [a,b] (by simp)) (.cons (.same _ rfl) (.cons (Bh (by simp)) .nil)) rfl ?_;simp[La a b aP];exact a1 rfl rfl
theorem aha (a:D) (n:Q) :bR Tryz.prog GS 165 [bE a,dG n] (.bU [bE (if fG a then gm a n.toNat else 0#32),.int .i64 (if fG a then 0 else 2)]) :=by
 refine cf Tryz.checked.mixed b2 ?_;apply bH Q4 ZW;unfold Gs MA;simp;refine iF (Ua [a] (by simp)) (.cons (an5 (by simp)) .nil) rfl ?_;cases aG:fG a with
 | false=>
  simp[aG];exact a1 rfl rfl
 | true=>
  simp[aG];refine bC (Ef a n) rfl ?_;simp;exact a1 rfl rfl
theorem ag8 (n:Q) :bR Tryz.prog GS 167 [dG n] (bE (gm 4#32 n.toNat)) :=by
 refine cf Tryz.checked.mixed b2 ?_;apply bH Q6 ZY;unfold Gu MC;simp;refine bC (Ef 4#32 n) rfl ?_;simp;exact a1 rfl rfl
theorem N4 (a:D) (n:Q) :bR Tryz.prog GS 175 [bE a,dG n] (bE (gm a n.toNat)) :=by
 refine cf Tryz.checked.mixed b2 ?_;apply bH Q9 Z1;unfold Gy MF;have bd:(a.setWidth 64:Q).toNat=a.toNat:=by rw[BitVec.toNat_setWidth]; omega
 have bL:=wk a.toNat n.toNat
 have eN:(BitVec.ofNat 64 (fm a.toNat n.toNat)).setWidth 32=gm a n.toNat:=by
  apply BitVec.eq_of_toNat_eq;rw[pV,BitVec.toNat_setWidth,BitVec.toNat_ofNat];omega
 have aE:=YT (a.setWidth 64) n (by rw[bd]; exact a.isLt);rw[bd] at aE;simp;refine bC aE rfl ?_;simp[eN];exact a1 rfl rfl
theorem anG (n:Q) :bR Tryz.prog GS 143 [dG n] (bE (gm 4#32 n.toNat)) :=by
 refine cf Tryz.checked.mixed b2 ?_;apply bH QK ZC;unfold F9 Mi;simp;refine bC (N4 4#32 n) rfl ?_;simp;exact a1 rfl rfl
theorem anM (a:D) :bR Tryz.prog GS 174 [bE a] (.bU [bE (if fG a then gm a 500000002 else 0#32),.int .i64 (if fG a then 0 else 2)]) :=by
 refine cf Tryz.checked.mixed b2 ?_;apply bH Q8 Z0;unfold Gx ME;simp;refine bC (abZ a) rfl ?_;cases aG:fG a with
 | false=>
  simp;exact a1 rfl rfl
 | true=>
  simp;refine bC (N4 a 500000002#64) rfl ?_;simp;exact a1 rfl rfl
theorem anU (a b:D) :bR Tryz.prog GS 176 [bE a,bE b] (bE (Bb a b)) :=by
 refine cf Tryz.checked.mixed b2 ?_;apply bH Ra Z2;unfold Gz MG;have bd:∀ a:D,(a.setWidth 64:Q).toNat=a.toNat:=fun a=>by rw[BitVec.toNat_setWidth]; omega
 have eN:((a.setWidth 64:Q)*b.setWidth 64 % 1000000007#64).setWidth 32=Bb a b:=by
  apply BitVec.eq_of_toNat_eq;rw[BitVec.toNat_setWidth,yc _ _ (by rw[bd]; exact a.isLt) (by rw[bd]; exact b.isLt),bd,bd];unfold Bb;rw[BitVec.toNat_ofNat]
 simp[Er,eN];exact a1 rfl rfl
def tg (l:List B) :Q:=l.foldl (fun n x=>(n <<< 8) ||| x.setWidth 64) 0#64
theorem PZ (l:List B) (k:Nat) (x:B) (h:l[k]? = some x) :tg (l.take (k+1))=(tg (l.take k) <<< 8) ||| x.setWidth 64:=by
 rw[List.take_add_one,h]; simp[tg,List.foldl_append]
theorem aoS (a:Q) (x:B) :(a <<< 8) ||| x.setWidth 64=256#64*a+x.setWidth 64:=by
 apply BitVec.eq_of_toNat_eq;have aj:x.toNat<256:=x.isLt;have aG:=a.isLt;rw[BitVec.toNat_or,BitVec.toNat_shiftLeft,BitVec.toNat_add,BitVec.toNat_mul,BitVec.toNat_setWidth];have h1:x.toNat % 2 ^ 64=x.toNat:=Nat.mod_eq_of_lt (by omega);have ag:a.toNat <<< 8 % 2 ^ 64=(a.toNat % 2 ^ 56) <<< 8:=by rw[Nat.shiftLeft_eq,Nat.shiftLeft_eq]; omega
 have ap:=Nat.shiftLeft_add_eq_or_of_lt (b:=x.toNat) (i:=8) (by omega) (a.toNat % 2 ^ 56);rw[h1,ag,<-ap,Nat.shiftLeft_eq];have aJ:(256#64).toNat=256:=rfl;rw[aJ];omega
def iv (n:D) :List B:=[(n >>> 24).setWidth 8,(n >>> 16).setWidth 8,(n >>> 8).setWidth 8,n.setWidth 8]
def kN (l:List D) :List B:=l.flatMap iv
theorem ag4 {l:List D} {k:Nat} {x:D} (h:l[k]? = some x) :kN (l.take (k+1))=kN (l.take k)++iv x:=by
 unfold kN; rw[List.take_add_one,h,List.flatMap_append]; simp
theorem TW (l:List D) :(kN l).length=4*l.length:=by
 induction l with
 | nil=>rfl
 | cons x l aL=>unfold kN at aL ⊢; rw[List.flatMap_cons,List.length_append,aL,List.length_cons]; simp[iv]; omega
def zZ (b:List B) :Q:=tg ((hy b).take 8)
theorem an6 {l:av} {b:Nat} {v m bf cu:ae} (h:l[b]? = some (.cells 2 [v,m])) (h1:fy (b3 l) v bf) (ag:fy (b3 l) m cu) :fy (b3 l) (.ao 1 b 0 2 2 2) (.b0 1 [[bf],[cu]]) :=by
 refine .ao 1 b 0 2 2 2 [v,m] [[bf],[cu]] (mv.2 h) rfl (by simp) (by simp) (fun i j e c c' aw am al=>?_);rcases i with _ | _ | i
 ·simp at aw; subst aw;rcases j with _ | j
  ·simp at am al; subst am al; exact h1
  ·simp at am
 ·simp at aw; subst aw;rcases j with _ | j
  ·simp at am al; subst am al; exact ag
  ·simp at am
 ·simp at aw
theorem ao3 {b:Nat}:fQ (.arr 32 1) (.ptr b 0 32) none (some (.int .i64 8)) none=some (.ao 1 b 0 8 32 32) :=by
 have:gd 32 32 none (some (.int .i64 8)) none=some (0,8,32) :=rfl;simp only[fQ,this]; rfl
structure adO (gj:B) (m:eD) (eZ:List D) (k:Nat) (ah:bi) (l:av) :Prop where
 aY:ah 1=cE m
 rX:ah 21=cO 1 eF (some eZ)
 Iy:ah 22=.int .i64 eZ.length
 xc:ah 23=.int .i64 k
 ex:∃ v,ah 8=v/\cw 1 cd [] l v (gj::kN (eZ.take k)) false
structure adE (d:List B) (e:Int) (k:Nat) (ah:bi) (l:av) :Prop where
 hC:ah 12=.int .i64 e
 kO:ah 13=dG (tg (d.take k))
 Iz:∃ b n,ah 49=.ao 1 b 0 8 n n/\l[b]? = some (.cells n (d.map bI))/\n=32
 IA:ah 50=.int .i64 8
 IB:ah 51=.int .i64 k
set_option maxHeartbeats 1000000 in
theorem ah2 (gj:B) (m:eD) (hm:m.l.length<=9991) (eZ:List D) (au:eZ.length<=10) :bR Tryz.prog GS 192 [bI gj,cE m,cO 1 eF (some eZ)] (.bU [dG (zZ (gj::(kN eZ++m.l))),.int .i64 0]) :=by
 refine cf Tryz.checked.mixed b2 ?_;apply bH Rt aam;unfold GX MV;have aC:cT=140737488355328:=rfl;have bA:c8 (.ao 1) (cE m)=some (.int .i64 m.l.length) :=oP _;have ajd:c8 (.ao 1) (cO 1 eF (some eZ))=some (.int .i64 eZ.length) :=oP _;have fL:¬ (9991:Int)<(m.l.length:Int) :=by omega
 have IJ:¬ 9991<m.l.length:=by omega
 have fV:=lh m;simp[bA,ajd,fL,IJ];refine c7 eZ.length (adO gj m eZ) ?_ ⟨by simp,by simp,by simp,by simp,_,rfl,⟨0,pT (n:=1) (a:=[gj]) rfl rfl,by simp,by simp,.inr (by simp),rfl⟩⟩;rintro k ah l hk ⟨aY,rX,Iy,xc,v,ek,fj⟩;obtain⟨ah,rfl⟩:=k7 aY ek rX Iy xc;clear aY ek rX Iy xc;unfold Xh;by_cases h:k<eZ.length
 ·obtain⟨x,aj,_⟩:=ck h;have cV:cS (.ao 1) (cO 1 eF (some eZ)) (.int .i64 k)=some (.cq (eF x) 0) :=by rw[pB]; simp[aj]
  have eW:IntKind.i64.wrap ((k:Int)+1)=(k+1:Nat) :=wrap_i64 (by omega) (by omega);have ar:=ag4 aj;have fv:=TW (eZ.take k);rw[List.length_take] at fv;obtain⟨bf,l',bj,bz,a3⟩:=(fj.more [bt.cells 4 ((iv x).map bI)]).app (by_:=1) (x:=.ao 1 l.length 0 4 4 4) (xs:=iv x) (by rw[w1]; simp[dv,iv]) (fun y _=>rfl) (by omega) (by omega) (by rw[aC]; simp[iv]; omega);rw[show (iv x).map bI=[.int .u8 (u (BitVec.setWidth 8 (x >>> 24))),.int .u8 (u (BitVec.setWidth 8 (x >>> 16))),.int .u8 (u (BitVec.setWidth 8 (x >>> 8))),.int .u8 (u (BitVec.setWidth 8 x))] from rfl] at bj;simp[h,cV,eF,eW,bj];refine dK.cM ?_;simp[eW];exact⟨by omega,by simp,by simp,by simp,by simp,bf,by simp,by rw[ar,<-List.cons_append]; exact bz⟩
 ·have eH:k=eZ.length:=by omega
  subst eH;rw[List.take_length] at fj;have fv:=TW eZ;have aE:=LA [some (gj::kN eZ),m] (by simp) (fun s ar=>by
   rcases List.mem_cons.1 ar with h | h
   ·rw[h]; show (gj::kN eZ).length<=_; simp; omega
   ·rw[List.mem_singleton.1 h]; omega)
  have dO:bytesOf [some (gj::kN eZ),m]=gj::(kN eZ++m.l) :=by simp[bytesOf]
  rw[dO] at aE;have Ax:=fj.cells;have xE:(cE m).cells=some [cE m] :=by cases m<;>rfl
  obtain⟨h3,vz⟩:∃ h3,h3=hy (gj::(kN eZ++m.l)) :=⟨_,rfl⟩
  have vA:h3.length=32:=by rw[vz]; exact sZ _
  rw[<-vz] at aE;have Jg:(h3.map bI).length=32:=by simp[vA]
  have Jr:fk h3=.aV (h3.map bI) :=rfl;rw[Jr] at aE;have sq:bS (rep 32 (.int .u8 0)) 0 (h3.map bI)=h3.map bI:=g8 (by rw[Jg]; rfl);have eT:∀ b,fQ (.arr 32 1) (.ptr b 0 32) none (some (.int .i64 8)) none=some (.ao 1 b 0 8 32 32) :=fun b=>ao3 (b:=b)
  simp[Ax,xE];refine iF aE (.cons (an6 (by simp) ((fj.more _).pW (fun _=>rfl) (some (gj::kN eZ)) rfl rfl) (.same _ fV)) .nil) (by simp[ae.flat,kM,fk,w6 bI (fun _=>rfl)]) ?_;simp[vA,sq,eT];refine c7 8 (adE h3 0) ?_ ⟨by simp,by simp[tg],⟨l.length+1,32,by simp,by simp[List.getElem?_append],rfl⟩,by simp,by simp⟩;clear fj;rintro k ah l hk ⟨hC,kO,⟨b,n,Iz,ai,rfl⟩,IA,IB⟩;obtain⟨ah,rfl⟩:=k7 hC kO Iz IA IB;clear hC kO Iz IA IB;unfold Xi;by_cases h:k<8
  ·obtain⟨x,aj,_⟩:=ck (l:=h3) (k:=k) (by omega);have eW:IntKind.i64.wrap ((k:Int)+1)=(k+1:Nat) :=wrap_i64 (by omega) (by omega);have ar:=PZ h3 k x aj;have eH:(k:Int)<8:=by omega
   have at6:(h3.map bI)[k]? = some (bI x) :=by rw[List.getElem?_map,aj]; rfl
   simp[h,eH,ai,eW,aj];exact⟨by simp,by simp[ar],⟨b,32,by simp,by simpa using ai,rfl⟩,by simp,by simp⟩
  ·have ht:k=8:=by omega
   subst ht;simp;exact a1 (by unfold zZ; rw[vz]) rfl
def zk (r y:D) (m:List B) :D:=(zZ (99#8::(kN [r,y]++m)) % 500000003#64).setWidth 32
theorem ab3 (x:Q) :cr .rem .u64 (u x) .u64 500000003=some (.int .u64 (u (x % 500000003#64))) :=wO x 500000003#64 (by decide)
theorem aqr (r y:D) (m:eD) (hm:m.l.length<=9991) :bR Tryz.prog GS 168 [bE r,bE y,cE m] (.bU [bE (zk r y m.l),.int .i64 0]) :=by
 refine cf Tryz.checked.mixed b2 ?_;apply bH Q7 ZZ;unfold Gv MD;have fV:=lh m;simp;refine iF (ah2 99#8 m hm [r,y] (by simp)) (.cons (.same _ rfl) (.cons (.same _ fV) (.cons (Bh (by simp)) .nil))) rfl ?_;simp[ab3];exact a1 rfl rfl
theorem LL (a b:D) (ai:b≠0#32) :cr .quo .u32 (u a) .u32 (u b)=some (.int .u32 (u (a / b))) :=by
 have bP:(b.toNat:Int)≠0:=fun e=>ai (BitVec.eq_of_toNat_eq (by simpa using e))
 show (if IntKind.u32=IntKind.u32/\(b.toNat:Int)≠0 then some (ae.int .u32 (IntKind.u32.wrap ((a.toNat:Int).tdiv b.toNat))) else none)=_;rw[if_pos ⟨rfl,bP⟩,yO];congr 2;have:((a.toNat:Int).tdiv b.toNat)=((a.toNat / b.toNat:Nat) :Int) :=rfl;rw[this,BitVec.ofInt_natCast];congr 1;apply BitVec.eq_of_toNat_eq;rw[BitVec.toNat_ofNat,BitVec.toNat_udiv];exact Nat.mod_eq_of_lt (Nat.lt_of_le_of_lt (Nat.div_le_self _ _) a.isLt)
theorem TV (x:D) {l:av} {K:ae->av->Prop} (a8:∀ v l',cw 1 cd l l' v (iv x) false->K v l') :dh Tryz.prog GS 181 [bE x] l (c:=⟨K⟩) :=by
 apply bH Rh Z8;unfold GH MK;have q1:cr .quo .u32 (u x) .u32 16777216=some (.int .u32 (u (x / 16777216#32))) :=LL x 16777216#32 (by decide);have iZ:cr .quo .u32 (u x) .u32 65536=some (.int .u32 (u (x / 65536#32))) :=LL x 65536#32 (by decide);have nO:cr .quo .u32 (u x) .u32 256=some (.int .u32 (u (x / 256#32))) :=LL x 256#32 (by decide);have k4:∀ y:D,cr .rem .u32 (u y) .u32 256=some (.int .u32 (u (y % 256#32))) :=fun y=>aeO y 256#32 (by decide)
 have aj:=x.isLt;have aZ:BitVec.setWidth 8 (x / 16777216#32)=BitVec.setWidth 8 (x >>> 24) :=by
  apply BitVec.eq_of_toNat_eq;rw[BitVec.toNat_setWidth,BitVec.toNat_setWidth,BitVec.toNat_udiv,BitVec.toNat_ushiftRight,Nat.shiftRight_eq_div_pow];rfl
 have b4:BitVec.setWidth 8 (x / 65536#32 % 256#32)=BitVec.setWidth 8 (x >>> 16) :=by
  apply BitVec.eq_of_toNat_eq;rw[BitVec.toNat_setWidth,BitVec.toNat_setWidth,BitVec.toNat_umod,BitVec.toNat_udiv,BitVec.toNat_ushiftRight,Nat.shiftRight_eq_div_pow];show x.toNat / 65536 % 256 % 256=x.toNat / 65536 % 256;omega
 have dC:BitVec.setWidth 8 (x / 256#32 % 256#32)=BitVec.setWidth 8 (x >>> 8) :=by
  apply BitVec.eq_of_toNat_eq;rw[BitVec.toNat_setWidth,BitVec.toNat_setWidth,BitVec.toNat_umod,BitVec.toNat_udiv,BitVec.toNat_ushiftRight,Nat.shiftRight_eq_div_pow];show x.toNat / 256 % 256 % 256=x.toNat / 256 % 256;omega
 have lR:BitVec.setWidth 8 (x % 256#32)=BitVec.setWidth 8 x:=by
  apply BitVec.eq_of_toNat_eq;rw[BitVec.toNat_setWidth,BitVec.toNat_setWidth,BitVec.toNat_umod];show x.toNat % 256 % 256=x.toNat % 256;omega
 simp[q1,iZ,nO,k4,aZ,b4,dC,lR];exact a8 _ _ ⟨l.length,pT (n:=4) (a:=iv x) rfl (by simp; rfl),by simp,fun b ai=>List.getElem?_append_left ai,.inr (by simp),rfl⟩
structure adS (d:List B) (k:Nat) (ah:bi) (l:av) :Prop where
 bh:ah 3=.ptr 0 0 32
 bK:ah 4=dG (tg (d.take k))
 bw:ah 5=.int .i64 k
 gl:l[0]? = some (.cells 32 (d.map bI))
theorem amm (s:eD) (ar:s.l.length<=1000000) :bR Tryz.prog GS 182 [cE s] (dG (zZ s.l)) :=by
 refine cf Tryz.checked.mixed b2 ?_;apply bH Ri Z9;unfold GI ML;have mI:=N8 s ar;have cp:=lh s;obtain⟨h3,vz⟩:∃ h3,h3=hy s.l:=⟨_,rfl⟩
 have vA:h3.length=32:=by rw[vz]; exact sZ _
 rw[<-vz] at mI;have Jr:fk h3=.aV (h3.map bI) :=rfl;rw[Jr] at mI;have Jg:(h3.map bI).length=32:=by simp[vA]
 have sq:bS (rep 32 (.int .u8 0)) 0 (h3.map bI)=h3.map bI:=g8 (by rw[Jg]; rfl);simp;refine bC mI (by simp[bM,cp]) ?_;simp[vA,sq];refine c7 8 (adS h3) ?_ ⟨by simp,by simp[tg],by simp,rfl⟩;rintro k ah l hk ⟨bh,bK,bw,gl⟩;obtain⟨ah,rfl⟩:=kD bh bK bw;clear bh bK bw;unfold W9;by_cases h:k<8
 ·obtain⟨x,aj,_⟩:=ck (l:=h3) (k:=k) (by omega);have eW:IntKind.i64.wrap ((k:Int)+1)=(k+1:Nat) :=wrap_i64 (by omega) (by omega);have ar:=PZ h3 k x aj;rw[aoS] at ar;have eH:(k:Int)<8:=by omega
  have Jw:k<32:=by omega
  simp[h,eH,Jw,gl,eW,aj];exact⟨by omega,by simp,by simp[ar],by simp,gl⟩
 ·have ht:k=8:=by omega
  subst ht;simp;exact a1 (by unfold zZ; rw[vz]) rfl
theorem anI (r y:D) (m:eD) (hm:m.l.length<=900000) :bR Tryz.prog GS 145 [bE r,bE y,cE m] (bE (zk r y m.l)) :=by
 refine cf Tryz.checked.mixed b2 ?_;apply bH QM ZE;unfold Ga Mj;have aC:cT=140737488355328:=rfl;have fV:=lh m;simp;refine TV r fun fR l1 h1=>?_
 have Vs:=h1.le;have ajB:cw 1 cd [] l1 (.ao 1 0 0 1 1 1) [99#8] false:=⟨0,pT (n:=1) (a:=[99#8]) rfl (by rw[h1.same 0 (by simp)]; rfl),by simp,by simp,.inr (by simp),rfl⟩
 obtain⟨ef,ce,bj,bz,a3⟩:=ajB.app (by_:=1) (x:=fR) (xs:=iv r) h1.contents (fun _ _=>rfl) (by omega) (by omega) (by rw[aC]; simp[iv]);simp[bj];refine dK.cM ?_;simp;refine TV y fun v3 eO ap=>?_
 have ajC:cw 1 cd [] eO ef ([99#8]++iv r) false:=bz.frame ap.le ap.same;obtain⟨v4,jy,ev,dU,gH⟩:=ajC.app (by_:=1) (x:=v3) (xs:=iv y) ap.contents (fun _ _=>rfl) (by omega) (by omega) (by rw[aC]; simp[iv]);simp[ev];refine dK.cM ?_;obtain⟨v5,KV,cX,dB,kf⟩:=dU.app (by_:=1) (x:=cE m) (xs:=m.l) (Tf _ _) (fun _ _=>rfl) (by omega) (by omega) (by rw[aC]; simp[iv]; omega);simp[cX];refine dK.cM ?_;have ai:(dk.l (some ([99#8]++iv r++iv y++m.l)) :List B)=99#8::(kN [r,y]++m.l) :=by simp[kN]
 have VG:=amm (some ([99#8]++iv r++iv y++m.l)) (by rw[ai]; simp[kN,iv]; omega);rw[ai] at VG;simp;refine iF VG (.cons (dB.pW (fun _=>rfl) (some ([99#8]++iv r++iv y++m.l)) (by simp) rfl) .nil) rfl ?_;simp[ab3];exact a1 rfl rfl
theorem Ee (a n k:Nat) :fm (fm a n) k=fm a (n*k) :=by
 unfold fm; rw[<-Nat.pow_mod,<-Nat.pow_mul]
theorem YQ (n:Nat) :fm 1 n=1:=by unfold fm; rw[Nat.one_pow]
theorem amW (a m n:Nat) :fm a (m+n)=fm a m*fm a n % 1000000007:=by
 unfold fm; rw[Nat.pow_add,Nat.mul_mod]
theorem aez:fm 4 500000003=1:=by
 have h:=LC 4 500000003 (by decide) 64 (Nat.le_refl _);rw[show 500000003 / 2 ^ (64 - 64)=500000003 from rfl] at h;rw[<-h];decide +kernel
theorem KH {y:D} (h:fm y.toNat 500000003=1) (n:Nat) :fG (gm y n)=true:=by
 have ax:=pV y n;have aP:=wk y.toNat n;have h1:fm (fm y.toNat n) 500000003=1:=by
  rw[Ee,Nat.mul_comm,<-Ee,h,YQ]
 have aT:fm y.toNat n≠0:=fun e=>by
  rw[e] at h1;have aB:∀ n,0<n->fm 0 n=0:=fun n aH=>by unfold fm; rw[Nat.zero_pow aH]
  rw[aB _ (by decide)] at h1;cases h1
 unfold fG;rw[ax,decide_eq_true (by omega),decide_eq_true aP,decide_eq_true h1]; rfl
theorem Wq {y:D} (h:fG y=true) :fm y.toNat 500000003=1:=by
 unfold fG at h; simp only[Bool.and_eq_true,decide_eq_true_eq] at h; exact h.2
theorem aey {y:D} (h:fm y.toNat 500000003=1) {e:Nat} (aw:e<500000003) :gm (gm y e) 500000002=gm y (500000003 - e) :=by
 apply BitVec.eq_of_toNat_eq;rw[pV,pV,pV,Ee];rcases e with _ | e
 ·rw[Nat.zero_mul,Nat.sub_zero,h];unfold fm; rfl
 ·have aZ:(e+1)*500000002=500000003*e+(500000003 - (e+1)) :=by omega
  rw[aZ,amW,<-Ee,h,YQ,Nat.one_mul,Nat.mod_eq_of_lt (wk _ _)]
def Bf (y:D) (e s:D) :D:=Bb (gm 4#32 s.toNat) (gm y (500000003 - e.toNat))
def Bt (y:D) (m:List B) (e s:D) :Bool:=iu e&&(iu s&&decide (zk (Bf y e s) y m=e))
theorem apw {e:D} (aw:e.toNat<500000003) :(500000003#64 - e.setWidth 64).toNat=500000003 - e.toNat:=by
 rw[BitVec.toNat_sub,BitVec.toNat_setWidth];have:(500000003#64).toNat=500000003:=rfl;rw[this]; omega
theorem aqC (y:D) (aK:fG y=true) (m:eD) (hm:m.l.length<=9991) (e s:D) :bR Tryz.prog GS 120 [bE y,cE m,.aV [bE e,bE s]] (.int .i64 (if Bt y m.l e s then 0 else 22)) :=by
 refine cf Tryz.checked.mixed b2 ?_;apply bH Qu Zm;unfold FV L4 Bt;have bA:c8 (.ao 1) (cE m)=some (.int .i64 m.l.length) :=oP _;have fL:¬ (9991:Int)<(m.l.length:Int) :=by omega
 have IJ:¬ 9991<m.l.length:=by omega
 have fV:=lh m;have bp:=Wq aK;have U6:=KG y;rw[aK] at U6;simp;refine bC U6 rfl ?_;obtain⟨M,lX⟩:∃ M:Int,M=if u e<u s then u s else u e:=⟨_,rfl⟩
 have vM:sJ (bE e) (bE s)=some (.int .u32 M) :=by rw[lX]; simp[sJ,bE]
 have Us:(500000003:Int)<=M<->500000003<=e.toNat\/500000003<=s.toNat:=by
  rw[lX]; unfold u; split<;>omega
 simp[bA,fL,IJ,vM];by_cases h1:500000003<=e.toNat\/500000003<=s.toNat
 ·have ai:(iu e&&(iu s&&decide (zk (Bf y e s) y m.l=e)))=false:=by
   unfold iu;rcases h1 with h | h
   ·rw[decide_eq_false (by omega)]; rfl
   ·rw[decide_eq_false (p:=s.toNat<500000003) (by omega)]; simp
  have al:=Us.2 h1;simp[al,ai];exact a1 rfl rfl
 ·have al:¬ (500000003:Int)<=M:=fun h=>h1 (Us.1 h)
  have gA:iu e=true:=by unfold iu; exact decide_eq_true (by omega)
  have fU:iu s=true:=by unfold iu; exact decide_eq_true (by omega)
  have VP:=aha y (500000003#64 - e.setWidth 64);have aj1:(s.setWidth 64:Q).toNat=s.toNat:=by rw[BitVec.toNat_setWidth]; omega
  have CU:=ag8 (s.setWidth 64);rw[aK,if_pos rfl,if_pos rfl,apw (by omega)] at VP;rw[aj1] at CU;have sn:=ag9 (gm 4#32 s.toNat) (gm y (500000003 - e.toNat));rw[KH (y:=4#32) aez,KH bp] at sn;simp only[Bool.and_self,if_true] at sn;have z6:=aqr (Bf y e s) y m hm;have e1:∀ a b:D,((u a:Int)=u b)<->a=b:=fun a b=>⟨fun h=>BitVec.eq_of_toNat_eq (by unfold u at h; omega),fun h=>by rw[h]⟩
  simp[al];refine bC VP rfl ?_;simp;refine bC CU rfl ?_;simp;refine bC sn rfl ?_;simp;refine bC z6 (by simp[bM,ae.closed,fV]) ?_;rw[gA,fU];by_cases ap:zk (Bf y e s) y m.l=e
  ·simp[ap];exact a1 rfl rfl
  ·simp[ap,e1];exact a1 rfl rfl
theorem anN (s:D) :bR Tryz.prog GS 105 [bE s] (bE (gm 4#32 s.toNat)) :=by
 refine cf Tryz.checked.mixed b2 ?_;apply bH Qh Y9;unfold FI LQ;have aoD:(s.setWidth 64:Q).toNat=s.toNat:=by rw[BitVec.toNat_setWidth]; omega
 have CT:=anG (s.setWidth 64);rw[aoD] at CT;simp;refine bC CT rfl ?_;simp;exact a1 rfl rfl
theorem anV (y:D) (aK:fG y=true) (m:eD) (hm:m.l.length<=900000) (e s:D) :bR Tryz.prog GS 136 [bE y,cE m,.aV [bE e,bE s]] (.bool (Bt y m.l e s)) :=by
 refine cf Tryz.checked.mixed b2 ?_;apply bH QD Zv;unfold F2 Mb Bt;have fV:=lh m;have bp:=Wq aK;have e1:∀ a b:D,((u a:Int)=u b)<->a=b:=fun a b=>⟨fun h=>BitVec.eq_of_toNat_eq (by unfold u at h; omega),fun h=>by rw[h]⟩
 simp;refine bC (Cr e) rfl ?_;cases h1:iu e with
 | false=>simp; exact a1 rfl rfl
 | true=>
 simp;refine bC (Cr s) rfl ?_;cases ag:iu s with
 | false=>simp; exact a1 rfl rfl
 | true=>
 have aw:e.toNat<500000003:=by unfold iu at h1; exact of_decide_eq_true h1
 have agq:(e.setWidth 64:Q).toNat=e.toNat:=by rw[BitVec.toNat_setWidth]; omega
 have VT:=N4 y (e.setWidth 64);rw[agq] at VT;have Vc:=anM (gm y e.toNat);rw[KH bp,if_pos rfl,if_pos rfl,aey bp aw] at Vc;have CT:=anN s;have xK:=anU (gm 4#32 s.toNat) (gm y (500000003 - e.toNat));have z6:=anI (Bf y e s) y m hm;simp;refine bC VT rfl ?_;simp;refine bC Vc rfl ?_;simp;refine bC CT rfl ?_;simp;refine bC xK rfl ?_;simp;refine bC z6 (by simp[bM,ae.closed,fV]) ?_;simp[e1];exact a1 rfl rfl
def OA (o:bQ) :Bool:=Bt o.ha (jC o) o.e o.s
def p4 (o:bQ) :Int:=if fY o=0 then (if OA o then 0 else 22) else fY o
theorem Ys {o:bQ} (aA:∀ x∈o.bO.l,x.length=32) (h:fY o=0) :fG o.ha=true/\(jC o).length<=9991:=by
 have aJ:=ym h;unfold fY at h;rw[if_neg (by omega)] at h;split at h
 ·split at h
  ·rename_i aC az;unfold r1 at az;simp only[Bool.and_eq_true,decide_eq_true_eq] at az;obtain⟨aY,a2,bh,bK,bw⟩:=az;refine⟨aY,?_⟩;have Jz:o.act.key.length<=20/\(o.act.kind=4#8->o.act.val.text.length<=30) :=by
    unfold jk at bh;split at bh
    ·rename_i h1;simp only[Bool.and_eq_true,decide_eq_true_eq] at bh;rw[bh.1];exact⟨by simp,fun h=>by rw[h1] at h; cases h⟩
    ·split at bh
     ·rename_i h1 ag;simp only[Bool.and_eq_true] at bh;have hk:=bh.1;unfold gu at hk;simp only[Bool.and_eq_true,decide_eq_true_eq] at hk;exact⟨hk.1.2,fun h=>by rw[h] at ag; rcases ag with ag | ag<;>cases ag⟩
     ·split at bh
      ·simp only[Bool.and_eq_true] at bh;obtain⟨hk,ax⟩:=bh;unfold gu at hk;simp only[Bool.and_eq_true,decide_eq_true_eq] at hk;refine⟨hk.1.2,fun _=>?_⟩;unfold jG at ax;split at ax
       ·simp only[Bool.and_eq_true,decide_eq_true_eq] at ax; rw[ax.2]; simp
       ·split at ax
        ·simp only[Bool.and_eq_true,decide_eq_true_eq] at ax; rw[ax.1.2]; simp
        ·split at ax
         ·simp only[Bool.and_eq_true,decide_eq_true_eq] at ax; exact ax.1.2
         ·cases ax
      ·cases bh
   have me:=hw o.ha.toNat
   have q5:=hw o.ii.toNat
   have sL:=AW aA;have q6:=yJ (fg o.act.key);rw[oX] at q6;have ky:=BB o.act.val;have n6:(opHead o).length<=10:=by unfold opHead; simp; omega
   unfold jC;simp only[List.length_append,List.length_cons,List.length_nil];have n7:(if o.act.kind=1#8 then ([] :List B) else ij (fg o.act.key)).length<=29:=by
    split
    ·simp
    ·omega
   have n8:(if o.act.kind=4#8 then ik o.act.val else []).length<=50:=by
    split
    ·rename_i h; have:=Jz.2 h; omega
    ·simp
   omega
  ·cases h
 ·cases h
theorem aqD (o:bQ) (ay:kF o) :bR Tryz.prog GS 85 [.aV (bD o)] (.int .i64 (p4 o)) :=by
 refine cf Tryz.checked.mixed b2 ?_;apply bH SA abu;unfold HR NQ p4;have dp:=mz o;have dW:=ES o ay;have se:bM [ae.aV (bD o)]=true:=by simp[bM,ae.closed,dp]
 by_cases aT:fY o=0
 ·obtain⟨az,bA⟩:=Ys ay.ids aT;rw[if_pos aT];simp[bD];refine bC dW se ?_;simp[aT];refine ado o ay (PS aT) fun w l' h=>?_
  have gl:l'[0]? = some (.cells 11 (bD o)) :=by rw[h.same 0 (by simp)]; rfl
  have A6:=gl;simp[bD] at A6;have ax:=aqC o.ha az (some (jC o)) bA o.e o.s;simp[A6];refine iF ax (.cons (.same _ rfl) (.cons (h.pW (fun _=>rfl) (some (jC o)) rfl rfl) (.cons (.same _ rfl) .nil))) rfl ?_;simp;exact a1 rfl rfl
 ·rw[if_neg aT];simp[bD];refine bC dW se ?_;simp[aT];exact a1 rfl rfl
theorem anY (o:bQ) (ay:kF o) (aT:fY o=0) :bR Tryz.prog GS 93 [.aV (bD o)] (.bool (OA o)) :=by
 refine cf Tryz.checked.mixed b2 ?_;apply bH SI abD;unfold HW NV;have dp:=mz o;obtain⟨az,bA⟩:=Ys ay.ids aT;have ax:=anV o.ha az (some (jC o)) (by show (jC o).length<=_; omega) o.e o.s;simp[bD];refine abR o ay (by have:=ym aT; omega) fun w l' h=>?_
 have gl:l'[0]? = some (.cells 11 (bD o)) :=by rw[h.same 0 (by simp)]; rfl
 have A6:=gl;simp[bD] at A6;simp[A6];refine iF ax (.cons (.same _ rfl) (.cons (h.pW (fun _=>rfl) (some (jC o)) rfl rfl) (.cons (.same _ rfl) .nil))) rfl ?_;simp;exact a1 rfl rfl
theorem an1 (o:bQ) (ay:kF o) :bR Tryz.prog GS 61 [.aV (bD o)] (.int .i64 (p4 o)) :=by
 refine cf Tryz.checked.mixed b2 ?_;apply bH Sd aa6;unfold Hw Nv p4;have dp:=mz o;have dW:=anR o ay;have se:bM [ae.aV (bD o)]=true:=by simp[bM,ae.closed,dp]
 by_cases aT:fY o=0
 ·rw[if_pos aT];simp[bD];refine bC dW se ?_;simp[aT];refine bC (anY o ay aT) se ?_;cases ar:OA o with
  | true=>simp; exact a1 rfl rfl
  | false=>simp; exact a1 rfl rfl
 ·rw[if_neg aT];simp[bD];refine bC dW se ?_;simp[aT];refine bC dW se ?_;simp;exact a1 rfl rfl
end Op
end Go.cn

namespace Go.cn
open Go Go.Proofs
set_option maxRecDepth 100000
namespace Op
section
variable {α:Type} {z:Nat} {enc:α->List ae}
theorem Yp {by_:Nat} {l l1:av} {v:ae} {a:List α} {gv:Bool} (h:cw z enc l l1 v a gv) (x:α) {b:Nat} (ai:l1[b]? = some (.cells z (enc x))) (aj:(enc x).length=z) (aT:z≠0) (dO:by_≠0) (dy:(a.length+1)*by_<=cT) :
  ∃ bf l',iL l1 z by_ v (.ao z b 0 1 1 z)=some (bf,l')/\cw z enc l l' bf (a++[x]) false/\l1.length<=l'.length:=by
 obtain⟨bf,l',aY,a2,bh⟩:=h.app (by_:=by_) (x:=.ao z b 0 1 1 z) (xs:=[x]) (by simp[dv,ai,aj,List.take_of_length_le]) (by simp[aj]) aT dO (by simpa using dy);exact⟨bf,l',aY,by simpa using a2,bh⟩
theorem acz {lt:α->α->Bool} (Dd:∀ a,lt a a=false) (V4:∀ a b c,lt a b=true->lt b c=true->lt a c=true) :∀ {l m:List α},l.Pairwise (fun a b=>lt a b=true)->m.Pairwise (fun a b=>lt a b=true)->(∀ y,y∈l<->y∈m)->l=m
 | [],[],_,_,_=>rfl
 | [],b::m,_,_,h=>absurd ((h b).2 (by simp)) (by simp)
 | a::l,[],_,_,h=>absurd ((h a).1 (by simp)) (by simp)
 | a::l,b::m,au,hm,h=>by
  obtain⟨l1,ce⟩:=List.pairwise_cons.1 au;obtain⟨jA,jc⟩:=List.pairwise_cons.1 hm;have fM:a=b:=by
   rcases List.mem_cons.1 ((h a).1 (by simp)) with e | e
   ·exact e
   ·rcases List.mem_cons.1 ((h b).2 (by simp)) with b4 | b4
    ·exact b4.symm
    ·have:=V4 _ _ _ (jA a e) (l1 b b4);rw[Dd] at this; cases this
  subst fM;congr 1;refine acz Dd V4 ce jc fun y=>⟨fun aK=>?_,fun aK=>?_⟩
  ·rcases List.mem_cons.1 ((h y).1 (by simp[aK])) with e | e
   ·subst e;have:=l1 y aK;rw[Dd] at this; cases this
   ·exact e
  ·rcases List.mem_cons.1 ((h y).2 (by simp[aK])) with e | e
   ·subst e;have:=jA y aK;rw[Dd] at this; cases this
   ·exact e
end
section
variable {α:Type} [DecidableEq α]
end
end Op
end Go.cn

namespace Go.cn
open Go Go.Proofs
set_option maxRecDepth 100000
namespace Op
open hA
def mc {α:Type} [DecidableEq α] (x:α) :List α->Nat->Int
 | [],_=>-1
 | y::r,k=>if y=x then (k:Int) else mc x r (k+1)
theorem KI {α:Type} [DecidableEq α] (x:α) :∀ (l:List α) (k:Nat),(0<=mc x l k)<->x∈l
 | [],k=>by simp[mc]
 | y::r,k=>by
  unfold mc;by_cases h:y=x
  ·simp[h]
  ·rw[if_neg h,KI x r (k+1)];simp[Ne.symm h]
theorem DI {α:Type} [DecidableEq α] {x:α}:∀ {l:List α} {k n:Nat} {y:α},l[k]? = some y->(∀ (j:Nat) (z:α),j<k->l[j]? = some z->z≠x)->y=x->mc x l n=((n+k:Nat) :Int)
 | [],k,n,y,h,_,_=>by simp at h
 | w::r,0,n,y,h,_,aK=>by
  simp at h; subst h;unfold mc;rw[if_pos aK]; simp
 | w::r,k+1,n,y,h,au,aK=>by
  unfold mc;rw[if_neg (au 0 w (by omega) (by simp)),DI (k:=k) (n:=n+1) (by simpa using h) (fun j z am aB=>au (j+1) z (by omega) (by simpa using aB)) aK];congr 1; omega
theorem KJ {α:Type} [DecidableEq α] {x:α}:∀ {l:List α} {n:Nat},(∀ (j:Nat) (z:α),l[j]? = some z->z≠x)->mc x l n=-1
 | [],n,_=>rfl
 | w::r,n,au=>by
  unfold mc;rw[if_neg (au 0 w (by simp)),KJ fun j z aB=>au (j+1) z (by simpa using aB)]
theorem aqw (s:fz) (ay:hx s) (au:s.l.length<=1000000) (x:List B) (aj:x.length=32) :bR Tryz.prog GS 80 [bc s,.aV (a7 x)] (.int .i64 (mc x s.l 0)) :=by
 refine cf Tryz.checked.mixed b2 ?_;apply bH Sv abp;unfold HN NL;simp[bc];refine c7 s.l.length (fun k ah l=>l=[.cells 32 (a7 x)]/\ah 0=cO 32 a7 s/\ah 3=.ptr 0 0 32/\ah 7=.int .i64 s.l.length/\ah 8=.int .i64 k/\∀ (j:Nat) (z:List B),j<k->s.l[j]? = some z->z≠x) ?_ (by simp[bc,dd aj]);rintro k ah l hk ⟨rfl,cC,bh,dx,ek,ar⟩;obtain⟨ah,rfl⟩:=jg cC bh dx ek;clear cC bh dx ek;unfold XK;simp;refine oO (fun h=>?_) (fun h=>?_)
 ·simp only[decide_eq_true_eq] at h;obtain⟨y,aK,dg⟩:=ck (l:=s.l) (k:=k) (by omega);have aZ:IntKind.i64.wrap ((k:Int)+1)=((k+1:Nat) :Int) :=by rw[IntKind.wrap_i64]; omega
  simp[aK,dd (ay y dg),dd aj,List.take_of_length_le,DG aj (ay y dg)];by_cases aw:x=y
  ·have fX:=DI (n:=0) aK ar aw.symm;simp[aw];exact a1 (by rw[<-aw,fX]; simp) rfl
  ·simp[aw,aZ];refine⟨by omega,fun j z am aB=>?_⟩;by_cases g2:j=k
   ·subst g2; rw[aK] at aB; obtain rfl:=Option.some.inj aB; exact fun h=>aw h.symm
   ·exact ar j z (by omega) aB
 ·simp[h];have nm:k=s.l.length:=by simp at h; omega
  exact a1 (by rw[KJ fun j z aB=>ar j z (by rw[nm]; exact (List.getElem?_eq_some_iff.1 aB).1) aB]) rfl
theorem aqv (s:fz) (ay:hx s) (au:s.l.length<=1000000) (x:List B) (aj:x.length=32) :bR Tryz.prog GS 45 [bc s,.aV (a7 x)] (.bool (decide (x∈s.l))) :=by
 refine cf Tryz.checked.mixed b2 ?_;apply bH RZ aaS;unfold Hp No;simp[dd aj,List.take_of_length_le];refine bC (aqw s ay au x aj) (by have:=hb s; have:=gf x; simp_all [bM,ae.closed]) ?_;simp;exact a1 (congrArg ae.bool (by simp only[KI])) rfl
theorem abO (s:fz) (ay:hx s) (au:s.l.length<=1000000) (x:List B) (aj:x.length=32) :bR Tryz.prog GS 30 [bc s,.aV (a7 x)] (.bool (decide (x∈s.l))) :=by
 refine cf Tryz.checked.mixed b2 ?_;apply bH RM aaF;unfold He Na;simp[bc];refine c7 s.l.length (fun k ah l=>l=[.cells 32 (a7 x)]/\ah 0=cO 32 a7 s/\ah 3=.ptr 0 0 32/\ah 5=.int .i64 k/\∀ (j:Nat) (z:List B),j<k->s.l[j]? = some z->z≠x) ?_ (by simp[bc,dd aj]);rintro k ah l hk ⟨rfl,cC,bh,bw,ar⟩;obtain⟨ah,rfl⟩:=kD cC bh bw;clear cC bh bw;unfold Xv;simp;refine oO (fun h=>?_) (fun h=>?_)
 ·simp only[decide_eq_true_eq] at h;obtain⟨y,aK,dg⟩:=ck (l:=s.l) (k:=k) (by omega);have aZ:IntKind.i64.wrap ((k:Int)+1)=((k+1:Nat) :Int) :=by rw[IntKind.wrap_i64]; omega
  simp[aK,dd (ay y dg),dd aj,List.take_of_length_le,DG (ay y dg) aj];by_cases aw:y=x
  ·simp[aw];exact a1 (congrArg ae.bool (decide_eq_true (by rw[<-aw]; exact dg)).symm) rfl
  ·simp[aw,aZ];refine⟨by omega,fun j z am aB=>?_⟩;by_cases g2:j=k
   ·subst g2; rw[aK] at aB; obtain rfl:=Option.some.inj aB; exact aw
   ·exact ar j z (by omega) aB
 ·simp[h];have nm:k=s.l.length:=by simp at h; omega
  refine a1 (congrArg ae.bool (decide_eq_false fun hm=>?_).symm) rfl;obtain⟨j,am⟩:=List.mem_iff_getElem?.1 hm;exact ar j x (by rw[nm]; exact (List.getElem?_eq_some_iff.1 am).1) am rfl
theorem abL (s:fz) (ay:hx s) (au:s.l.length<=1000000) (x:List B) (aj:x.length=32) :bR Tryz.prog GS 70 [bc s,.aV (a7 x)] (.int .i64 (mc x s.l 0)) :=by
 refine cf Tryz.checked.mixed b2 ?_;apply bH Sm abh;unfold HG NE;simp[bc];refine c7 s.l.length (fun k ah l=>l=[.cells 32 (a7 x)]/\ah 0=cO 32 a7 s/\ah 3=.ptr 0 0 32/\ah 5=.int .i64 k/\∀ (j:Nat) (z:List B),j<k->s.l[j]? = some z->z≠x) ?_ (by simp[bc,dd aj]);rintro k ah l hk ⟨rfl,cC,bh,bw,ar⟩;obtain⟨ah,rfl⟩:=kD cC bh bw;clear cC bh bw;unfold XG;simp;refine oO (fun h=>?_) (fun h=>?_)
 ·simp only[decide_eq_true_eq] at h;obtain⟨y,aK,dg⟩:=ck (l:=s.l) (k:=k) (by omega);have aZ:IntKind.i64.wrap ((k:Int)+1)=((k+1:Nat) :Int) :=by rw[IntKind.wrap_i64]; omega
  simp[aK,dd (ay y dg),dd aj,List.take_of_length_le,DG (ay y dg) aj];by_cases aw:y=x
  ·have fX:=DI (n:=0) aK ar aw;simp[aw];exact a1 (by rw[fX]; simp) rfl
  ·simp[aw,aZ];refine⟨by omega,fun j z am aB=>?_⟩;by_cases g2:j=k
   ·subst g2; rw[aK] at aB; obtain rfl:=Option.some.inj aB; exact fun h=>aw h
   ·exact ar j z (by omega) aB
 ·simp[h];have nm:k=s.l.length:=by simp at h; omega
  exact a1 (by rw[KJ fun j z aB=>ar j z (by rw[nm]; exact (List.getElem?_eq_some_iff.1 aB).1) aB]) rfl
def m4 (l cH:List (List B)) :Bool:=decide (∀ p∈cH,p∈l)
theorem N3 (s:fz) (ay:hx s) (au:s.l.length<=1000000) (t:fz) (aU:hx t) (kt:t.l.length<=1000000) :bR Tryz.prog GS 69 [bc s,bc t] (.bool (m4 s.l t.l)) :=by
 refine cf Tryz.checked.mixed b2 ?_;apply bH Sl abg;unfold HF ND;have cp:=hb s;have aP:c8 (.ao 32) (bc t)=some (.int .i64 t.l.length) :=by simp[bc]
 simp;refine c7 t.l.length (fun k ah l=>ah 0=bc s/\ah 1=bc t/\ah 5=.int .i64 k/\∀ (j:Nat) (z:List B),j<k->t.l[j]? = some z->z∈s.l) ?_ (by simp);rintro k ah l hk ⟨cC,aY,bw,ar⟩;obtain⟨ah,rfl⟩:=kD cC aY bw;clear cC aY bw;unfold XE;by_cases cZ:k<t.l.length
 ·obtain⟨y,aK,dg⟩:=ck cZ;have aZ:IntKind.i64.wrap ((k:Int)+1)=((k+1:Nat) :Int) :=by rw[IntKind.wrap_i64]; omega
  have cV:cS (.ao 32) (bc t) (.int .i64 (k:Int))=some (.cq (a7 y) 0) :=by simp[bc,aK]
  have kT:=gf y;have fC:=abL s ay au y (aU y dg);have ds:=dd (aU y dg);have VD:=KI y s.l 0;obtain⟨Y,fb⟩:∃ Y,Y=a7 y:=⟨_,rfl⟩
  rw[<-fb] at cV kT fC ds;simp[aP,cZ,cV,ds,List.take_of_length_le];refine bC fC (by simp[bM,ae.closed,cp,kT]) ?_;by_cases hm:y∈s.l
  ·have ag:¬ mc y s.l 0<0:=by have:=VD.2 hm; omega
   simp[ag,cZ,aZ];intro j z am aB;by_cases g2:j=k
   ·subst g2; rw[aK] at aB; obtain rfl:=Option.some.inj aB; exact hm
   ·exact ar j z (by omega) aB
  ·have ag:mc y s.l 0<0:=by
    rcases Int.lt_or_le (mc y s.l 0) 0 with h | h
    ·exact h
    ·exact absurd (VD.1 h) hm
   simp[ag];exact a1 (congrArg ae.bool (decide_eq_false fun h=>hm (h y dg)).symm) rfl
 ·have nm:k=t.l.length:=by omega
  simp[aP,cZ];refine a1 (congrArg ae.bool (decide_eq_true fun p aE=>?_).symm) rfl;obtain⟨j,am⟩:=List.mem_iff_getElem?.1 aE;exact ar j p (by rw[nm]; exact (List.getElem?_eq_some_iff.1 am).1) am
theorem yA {l:List (List B)} (h:eU l=true) :∀ {i j:Nat} {a b:List B},i<j->l[i]? = some a->l[j]? = some b->cN a b<0:=by
 have aT:=of_decide_eq_true h;intro i j
 induction j with
 | zero=>intro a b iy; omega
 | succ j aL=>
  intro a b iy aG ai;have eR:=(List.getElem?_eq_some_iff.1 ai).1;have h1:=aT (j+1) eR (by omega);obtain⟨c,al,_⟩:=ck (l:=l) (k:=j) (by omega);rw[show j+1 - 1=j by omega,hW al,hW ai] at h1;by_cases aiW:i=j
  ·subst aiW;rw[aG] at al;obtain rfl:=Option.some.inj al;exact h1
  ·exact zq _ _ _ (aL (by omega) aG al) h1
theorem aoq {l:List (List B)} (h:eU l=true) {i j:Nat} {a:List B} (aG:l[i]? = some a) (ai:l[j]? = some a) :i=j:=by
 rcases Nat.lt_trichotomy i j with h1 | h1 | h1
 ·have:=yA h h1 aG ai; rw[qo] at this; omega
 ·exact h1
 ·have:=yA h h1 ai aG; rw[qo] at this; omega
def vc (l:List (List B)) (x:List B) :Nat:=(l.takeWhile fun t=>decide (cN t x<0)).length
theorem Ia (x:List B) :∀ {l:List (List B)} {p:Nat},p<=l.length->(∀ (t:Nat) (y:List B),t<p->l[t]? = some y->cN y x<0)->(∀ y,l[p]? = some y->¬ cN y x<0)->vc l x=p
 | [],p,aE,_,_=>by simp at aE; subst aE; rfl
 | y::l,0,_,_,ag=>by
  have:=ag y (by simp);unfold vc;rw[List.takeWhile_cons,decide_eq_false this]; rfl
 | y::l,p+1,aE,h1,ag=>by
  have aK:=h1 0 y (by omega) (by simp);have aL:=Ia x (l:=l) (p:=p) (by simpa using aE) (fun t z aU aB=>h1 (t+1) z (by omega) (by simpa using aB)) (fun z aB=>ag z (by simpa using aB));unfold vc at aL ⊢;rw[List.takeWhile_cons,decide_eq_true aK];simpa using aL
theorem aoU (n:Nat) (h:n<9223372036854775808) :cr .shr .u64 (n:Int) .u64 1=some (.int .u64 ((n / 2:Nat) :Int)) :=by
 have:=rN (BitVec.ofNat 64 n) .u64 1;have aM:(u (BitVec.ofNat 64 n) :Int)=n:=by unfold u; rw[BitVec.toNat_ofNat,Nat.mod_eq_of_lt (by omega)]
 have ax:(u (BitVec.ofNat 64 n >>> 1) :Int)=((n / 2:Nat) :Int) :=by
  unfold u; rw[BitVec.toNat_ushiftRight,BitVec.toNat_ofNat,Nat.mod_eq_of_lt (by omega),Nat.shiftRight_eq_div_pow]
 rw[aM,ax] at this;exact this
structure adI (s:fz) (X:List ae) (x:List B) (m:Nat) (ah:bi) (l:av) :Prop where
 ex:∃ (i j:Nat),j - i=m/\i<=j/\j<=s.l.length/\l=[.cells 32 X]/\ah 0=bc s/\ah 2=.fn 121 [] []/\ah 4=.ptr 0 0 32/\ah 8=.int .i64 s.l.length/\ah 9=.int .i64 i/\ah 10=.int .i64 j ∧
  (∀ (t:Nat) (y:List B),t<i->s.l[t]? = some y->cN y x<0)/\(∀ (t:Nat) (y:List B),j<=t->s.l[t]? = some y->¬ cN y x<0)
theorem acp (s:fz) (ay:hx s) (au:s.l.length<=1000000) (x:List B) (aj:x.length=32) (hm:eU s.l=true) :
  bR Tryz.prog GS 123 [bc s,.aV (a7 x),.fn 121 [] []] (.bU [.int .i64 (vc s.l x),.bool (decide (x∈s.l))]) :=by
 refine cf Tryz.checked.mixed b2 ?_;apply bH Qx Zp;unfold FY L7;have bA:c8 (.ao 32) (bc s)=some (.int .i64 s.l.length) :=by simp[bc]
 have bF:=dd aj;have kv:=gf x;have fV:∀ y∈s.l,bR Tryz.prog GS 121 [.aV (a7 y),.aV (a7 x)] (.int .i64 (cN y x)) :=fun y aK=>wV y x (ay y aK) aj
 obtain⟨X,dN⟩:∃ X,X=a7 x:=⟨_,rfl⟩
 rw[<-dN] at bF kv fV ⊢;simp[bA];refine uo (adI s X x) ?_ s.l.length _ _ ⟨0,s.l.length,by omega,by omega,by omega,by simp[bF],by simp,by simp,by simp[bF],by simp,by simp,by simp,fun t y h=>by omega,fun t y h ag=>by rw[List.getElem?_eq_none h] at ag; cases ag⟩;rintro m ah l ⟨i,j,fE,iy,eR,rfl,cC,a2,bK,ek,g0,fB,h1,ag⟩;obtain⟨ah,rfl⟩:=EN cC a2 bK ek g0 fB;clear cC a2 bK ek g0 fB;unfold WQ;by_cases aP:i<j
 ·obtain⟨h,aN⟩:∃ h,h=(i+j) / 2:=⟨_,rfl⟩
  have cb:IntKind.i64.wrap ((i:Int)+j)=((i+j:Nat) :Int) :=by rw[IntKind.wrap_i64]; omega
  have w2:IntKind.u64.wrap ((i+j:Nat) :Int)=((i+j:Nat) :Int) :=by rw[uV,BitVec.ofInt_natCast]; unfold u; rw[BitVec.toNat_ofNat,Nat.mod_eq_of_lt (by omega)]
  have eg:=aoU (i+j) (by omega);have nV:IntKind.i64.wrap (h:Int)=(h:Int) :=by rw[IntKind.wrap_i64]; omega
  have rv:IntKind.i64.wrap ((h:Int)+1)=((h+1:Nat) :Int) :=by rw[IntKind.wrap_i64]; omega
  have h7:(i:Int)<(j:Int) :=by omega
  rw[<-aN] at eg;obtain⟨y,aK,dg⟩:=ck (l:=s.l) (k:=h) (by omega);have ds:=dd (ay y dg);have pA:=gf y;have cV:cS (.ao 32) (bc s) (.int .i64 (h:Int))=some (.cq (a7 y) 0) :=by simp[bc,aK]
  have kT:=fV y dg;obtain⟨Y,fb⟩:∃ Y,Y=a7 y:=⟨_,rfl⟩
  rw[<-fb] at ds pA cV kT;obtain⟨N,fu⟩:∃ N,N=i+j:=⟨_,rfl⟩
  rw[<-fu] at cb w2 eg;simp[aP,cb,w2,eg,nV,cV,ds,bF,List.take_of_length_le];refine⟨Iw,bC kT (by simp[bM,ae.closed,pA,kv]) ?_⟩;by_cases bL:cN y x<0
  ·simp[bL,rv];refine⟨j - (h+1),by omega,h+1,j,rfl,by omega,by omega,by simp,by simp,by simp,by simp,by simp,by simp,by simp,fun t z aU aB=>?_,ag⟩;by_cases Kh:t=h
   ·subst Kh; rw[aK] at aB; obtain rfl:=Option.some.inj aB; exact bL
   ·exact zq _ _ _ (yA hm (by omega) aB aK) bL
  ·simp[bL];refine⟨h - i,by omega,i,h,rfl,by omega,by omega,by simp,by simp,by simp,by simp,by simp,by simp,by simp,h1,fun t z aU aB eN=>bL ?_⟩;by_cases Kh:t=h
   ·subst Kh; rw[aK] at aB; obtain rfl:=Option.some.inj aB; exact eN
   ·exact zq _ _ _ (yA hm (by omega) aK aB) eN
 ·have h7:¬ (i:Int)<(j:Int) :=by omega
  obtain rfl:i=j:=by omega
  have al:=Ia x (l:=s.l) (p:=i) eR h1 (fun y aK=>ag i y (Nat.le_refl _) aK);have jZ:∀ {y:List B},s.l[i]? = some y->(y=x<->x∈s.l) :=fun {y} aK=>by
   constructor
   ·rintro rfl; exact List.mem_of_getElem? aK
   ·intro AA;obtain⟨t,aU⟩:=List.mem_iff_getElem?.1 AA;rcases Nat.lt_trichotomy t i with ap | ap | ap
    ·have:=h1 t x ap aU; rw[qo] at this; omega
    ·subst ap; rw[aK] at aU; exact Option.some.inj aU
    ·exact absurd (yA hm ap aK aU) (ag i y (Nat.le_refl _) aK)
  by_cases dI:i<s.l.length
  ·have Js:(i:Int)<(s.l.length:Int) :=by omega
   obtain⟨y,aK,dg⟩:=ck (l:=s.l) (k:=i) dI;have ds:=dd (ay y dg);have pA:=gf y;have cV:cS (.ao 32) (bc s) (.int .i64 (i:Int))=some (.cq (a7 y) 0) :=by simp[bc,aK]
   have kT:=fV y dg;have Jd:cN y x=0<->x∈s.l:=by
    rw[<-jZ aK];exact⟨zp,fun h=>by rw[h]; exact qo _⟩
   obtain⟨Y,fb⟩:∃ Y,Y=a7 y:=⟨_,rfl⟩
   rw[<-fb] at ds pA cV kT;simp[dI,cV,ds,bF,List.take_of_length_le];refine⟨Iw,bC kT (by simp[bM,ae.closed,pA,kv]) ?_⟩;simp;refine a1 ?_ rfl;rw[al];simp[Jd]
  ·have Js:¬ (i:Int)<(s.l.length:Int) :=by omega
   simp[dI];refine a1 ?_ rfl;have eS:¬ x∈s.l:=fun AA=>by
    obtain⟨t,aU⟩:=List.mem_iff_getElem?.1 AA;have:=h1 t x (by have:=(List.getElem?_eq_some_iff.1 aU).1; omega) aU;rw[qo] at this; omega
   rw[al,decide_eq_false eS]
theorem S9 {l:List (List B)} (hm:eU l=true) {k:Nat} {x:List B} (h:l[k]? = some x) :vc l x=k:=
 Ia x (Nat.le_of_lt (List.getElem?_eq_some_iff.1 h).1) (fun t y aU aK=>yA hm aU aK h) (fun y aK=>by rw[h] at aK; obtain rfl:=Option.some.inj aK; rw[qo]; omega)
structure b1 where
 ids:fz
 ops:dk bQ
def cA (s:dk bQ) :ae:=cO 11 bD s
def ew (g:b1) :List ae:=[bc g.ids,cA g.ops]
def dw (g:b1) :ae:=.aV (ew g)
structure hY (g:b1) :Prop where
 ids:hx g.ids
 ops:∀ o∈g.ops.l,kF o
 li:g.ids.l.length<=1000000
 cW:g.ops.l.length<=1000000
theorem oh (s:dk bQ) :(cA s).closed=true:=u7 mz s
theorem afQ (g:b1) :bM (ew g)=true:=by have:=hb g.ids; have:=oh g.ops; simp[ew,bM, *]
theorem Cb (g:b1) :(dw g).closed=true:=by simp[dw,ae.closed,afQ]
def c5 (ops:List bQ) (i:Nat) :List (List B) :=match ops[i]? with | some o=>o.bO.l | none=>[]
theorem uv {ops:List bQ} {i:Nat} {o:bQ} (h:ops[i]? = some o) :c5 ops i=o.bO.l:=by unfold c5; rw[h]
inductive n0 (ids:List (List B)) (ops:List bQ) :Nat->Prop
 | mk (i:Nat) (aA:i<ids.length) (aE:∀ p∈c5 ops i,p∈ids) (az:∀ p∈c5 ops i,∀ j,ids[j]? = some p->n0 ids ops j) :n0 ids ops i
theorem n0.lt {ids:List (List B)} {ops:List bQ} {i:Nat} (h:n0 ids ops i) :i<ids.length:=by cases h; assumption
def im (ids:List (List B)) :Prop:=∀ (i j:Nat) (x:List B),ids[i]? = some x->ids[j]? = some x->i=j
theorem oM {ids:List (List B)} (h:eU ids=true) :im ids:=fun _ _ _ h1 ag=>aoq h h1 ag
theorem s1:∀ {a b:List Nat},a.Nodup->(∀ x∈a,x∈b)->a.length<=b.length
 | [],_,_,_=>Nat.zero_le _
 | x::a,b,aH,ar=>by
  rw[List.nodup_cons] at aH;have aj:=ar x (by simp);have aL:=s1 (b:=b.erase x) aH.2 (fun y aK=>(List.mem_erase_of_ne (fun e=>aH.1 (by rw[<-e]; exact aK))).2 (ar y (by simp[aK])));rw[List.length_erase_of_mem aj] at aL;have:=List.length_pos_of_mem aj;simp; omega
def rP (ids:List (List B)) (ops:List bQ) (out:List Nat) (i:Nat) :Bool:=decide (i∉out)&&m4 (out.map (ch ids)) (c5 ops i)
def kz (ids:List (List B)) (ops:List bQ) (out:List Nat) :Option Nat:=(List.range ops.length).find? (rP ids ops out)
def fH (ids:List (List B)) (ops:List bQ) :Nat->List Nat
 | 0=>[]
 | k+1=>match kz ids ops (fH ids ops k) with | some i=>fH ids ops k++[i] | none=>fH ids ops k
def ra (ids:List (List B)) (ops:List bQ) :List Nat:=fH ids ops ops.length
theorem amq {ids:List (List B)} {ops:List bQ} {out:List Nat} {i:Nat} (h:kz ids ops out=some i) :i<ops.length/\i∉out/\∀ p∈c5 ops i,p∈out.map (ch ids) :=by
 have h1:=List.find?_some h;have ag:=List.mem_of_find?_eq_some h;unfold rP at h1;rw[Bool.and_eq_true,decide_eq_true_eq] at h1;exact⟨List.mem_range.1 ag,h1.1,of_decide_eq_true h1.2⟩
theorem amp {ids:List (List B)} {ops:List bQ} {out:List Nat} (h:kz ids ops out=none) {i:Nat} (aA:i<ops.length) (ay:i∉out) :¬ ∀ p∈c5 ops i,p∈out.map (ch ids) :=by
 intro aN;have:=List.find?_eq_none.1 h i (List.mem_range.2 aA);apply this;unfold rP;rw[Bool.and_eq_true];exact⟨decide_eq_true ay,decide_eq_true aN⟩
theorem amn {ids:List (List B)} {ops:List bQ} {out:List Nat} {i:Nat} (aA:i<ops.length) (h:rP ids ops out i=true) (ai:∀ j,j<i->rP ids ops out j=false) :kz ids ops out=some i:=by
 unfold kz;rw[List.find?_range_eq_some];exact⟨h,by simpa using aA,fun j am=>by rw[ai j am]; rfl⟩
theorem amo {ids:List (List B)} {ops:List bQ} {out:List Nat} (ai:∀ j,j<ops.length->rP ids ops out j=false) :kz ids ops out=none:=by
 unfold kz;rw[List.find?_eq_none];intro j am;rw[ai j (List.mem_range.1 am)]; simp
theorem Lm {ids:List (List B)} {ops:List bQ} {k i:Nat} (h:kz ids ops (fH ids ops k)=some i) :fH ids ops (k+1)=fH ids ops k++[i] :=by
 show (match kz ids ops (fH ids ops k) with | some i=>fH ids ops k++[i] | none=>fH ids ops k)=_;rw[h]
theorem Yx {ids:List (List B)} {ops:List bQ} {k:Nat} (h:kz ids ops (fH ids ops k)=none) :fH ids ops (k+1)=fH ids ops k:=by
 show (match kz ids ops (fH ids ops k) with | some i=>fH ids ops k++[i] | none=>fH ids ops k)=_;rw[h]
theorem A4 (ids:List (List B)) (ops:List bQ) (aH:ids.length=ops.length) (am:im ids) :∀ k,(fH ids ops k).Nodup/\(fH ids ops k).length<=k/\∀ i∈fH ids ops k,i<ops.length/\n0 ids ops i
 | 0=>⟨List.nodup_nil,Nat.le_refl _,fun i aA=>by cases aA⟩
 | k+1=>by
  obtain⟨h1,ag,ap⟩:=A4 ids ops aH am k;cases aj:kz ids ops (fH ids ops k) with
  | none=>rw[Yx aj]; exact⟨h1,by omega,ap⟩
  | some i=>
   rw[Lm aj];obtain⟨bj,bz,a3⟩:=amq aj;refine⟨?_,by simp; omega,fun j xB=>?_⟩
   ·rw[List.nodup_append];refine⟨h1,by simp,fun x aj y aK e=>?_⟩;rw[List.mem_singleton] at aK;subst e;rw[aK] at aj;exact bz aj
   ·rw[List.mem_append,List.mem_singleton] at xB;rcases xB with xB | rfl
    ·exact ap j xB
    ·have fC:∀ t,t<ids.length->ids[t]? = some (ch ids t) :=fun t aU=>by
      obtain⟨x,aj,_⟩:=ck (l:=ids) aU;rw[aj,hW aj]
     refine⟨bj,.mk j (by omega) (fun p aE=>?_) fun p aE iz fN=>?_⟩
     ·obtain⟨t,aU,rfl⟩:=List.mem_map.1 (a3 p aE);exact List.mem_of_getElem? (fC t (by have:=(ap t aU).1; omega))
     ·obtain⟨t,aU,rfl⟩:=List.mem_map.1 (a3 p aE);obtain⟨ev,dU⟩:=ap t aU;rw[am iz t _ fN (fC t (by omega))];exact dU
theorem Ll {ids:List (List B)} {ops:List bQ} {k:Nat} (h:kz ids ops (fH ids ops k)=none) :∀ m,fH ids ops (k+m)=fH ids ops k
 | 0=>rfl
 | m+1=>by
  have aL:=Ll h m;rw[<-Nat.add_assoc,Yx (by rw[aL]; exact h),aL]
theorem Yk {n:Nat} {l:List Nat} (aH:l.Nodup) (au:l.length=n) (ai:∀ i∈l,i<n) :∀ i,i<n->i∈l:=by
 intro i aA;apply Classical.byContradiction;intro eS;have:=s1 (a:=i::l) (b:=List.range n) (List.nodup_cons.2 ⟨eS,aH⟩) (fun x aj=>by
  rw[List.mem_cons] at aj;rcases aj with rfl | aj
  ·exact List.mem_range.2 aA
  ·exact List.mem_range.2 (ai x aj))
 simp[au] at this;omega
theorem Yy {ids:List (List B)} {ops:List bQ} (aH:ids.length=ops.length) (am:im ids) :(ra ids ops).length=ops.length<->∀ i,i<ops.length->n0 ids ops i:=by
 obtain⟨h1,ag,ap⟩:=A4 ids ops aH am ops.length;constructor
 ·intro h i aA;exact (ap i (Yk h1 h (fun i aA=>(ap i aA).1) i aA)).2
 ·intro h;have nk:∀ k,k<=ops.length->(fH ids ops k).length=k\/∃ m,m<=k/\kz ids ops (fH ids ops m)=none:=by
   intro k
   induction k with
   | zero=>intro _; exact .inl rfl
   | succ k aL=>
    intro hk;rcases aL (by omega) with aJ | ⟨m,hm,aJ⟩
    ·cases aj:kz ids ops (fH ids ops k) with
     | none=>exact .inr ⟨k,by omega,aj⟩
     | some i=>left; rw[Lm aj]; simp[aJ]
    ·exact .inr ⟨m,by omega,aJ⟩
  rcases nk ops.length (Nat.le_refl _) with aJ | ⟨m,hm,aJ⟩
  ·exact aJ
  ·have cK:fH ids ops ops.length=fH ids ops m:=by
    have:=Ll aJ (ops.length - m)
    rwa [show m+(ops.length - m)=ops.length by omega] at this
   have eG:∀ i,n0 ids ops i->i<ops.length->i∈fH ids ops m:=by
    intro i az
    induction az with
    | mk i aA aE az aL=>
     intro aP;apply Classical.byContradiction;intro eS;refine amp aJ aP eS fun p oG=>?_
     obtain⟨j,oz⟩:=List.mem_iff_getElem?.1 (aE p oG);exact List.mem_map.2 ⟨j,aL p oG j oz (by have:=(List.getElem?_eq_some_iff.1 oz).1; omega),hW oz⟩
   show (fH ids ops ops.length).length=ops.length;rw[cK];have bd:=s1 (a:=List.range ops.length) (b:=fH ids ops m) List.nodup_range fun i aA=>eG i (h i (List.mem_range.1 aA)) (List.mem_range.1 aA)
   rw[List.length_range] at bd;rw[cK] at ag;omega
theorem agV (g:b1) (az:hY g) (aC:eU g.ids.l=true) (x:List B) (aj:x.length=32) :bR Tryz.prog GS 122 [dw g,.aV (a7 x)] (.bU [.int .i64 (vc g.ids.l x),.bool (decide (x∈g.ids.l))]) :=by
 refine cf Tryz.checked.mixed b2 ?_;apply bH Qw Zo;unfold FX L6;have fc:=hb g.ids;have dp:=oh g.ops;have gK:=gf x;have bF:=dd aj;have ar:=acp g.ids az.ids az.li x aj aC;obtain⟨X,dN⟩:∃ X,X=a7 x:=⟨_,rfl⟩
 rw[<-dN] at ar gK bF ⊢;simp[dw,ew,bF,List.take_of_length_le];refine bC ar (by simp[bM,ae.closed,fc,gK]) ?_;simp;exact a1 rfl rfl
def gY (n:Nat) :List ae:=[.int .i64 (n:Int)]
def jO (b:Bool) :List ae:=[.bool b]
def e4 {α:Type} (l:List α) :dk α:=match l with | []=>none | x::r=>some (x::r)
theorem hJ {α:Type} (l:List α) :(e4 l).l=l:=by cases l<;>rfl
theorem wv {α:Type} (l:List α) :(e4 l).isNone=l.isEmpty:=by cases l<;>rfl
def In (l:dk Nat) :ae:=cO 1 gY l
theorem Oa {α:Type} (zero:ae) (n:Nat) :dm [zero] n=List.replicate n zero:=by
 rw[Es]
 induction n with
 | zero=>rfl
 | succ n aL=>rw[List.replicate_succ,List.flatten_cons,aL,List.replicate_succ]; rfl
theorem DY {z by_ n:Nat} {k k' : IntKind} {zero:List ae} {l:av} (aB:zero.length=z) (h1:n<9223372036854775808) (ag:by_*n<=cT) :
  pO z by_ zero l (.int k (n:Int)) (.int k' (n:Int))=some (.ao z l.length 0 n n (n*z),l++[.cells (n*z) (dm zero n)])/\bX z (l++[.cells (n*z) (dm zero n)]) (.ao z l.length 0 n n (n*z)) l.length (List.replicate n zero) :=by
 constructor
 ·have ap:(by_:Int)*(n:Int)<=(cT:Int) :=by rw[<-Int.natCast_mul]; omega
  simp only[pO,Int.toNat_natCast];rw[if_pos ⟨by omega,by omega,by omega,ap⟩]
 ·refine .ao l.length n n (n*z) (dm zero n) _ (by rw[List.getElem?_append_right (Nat.le_refl _)]; simp) (by rw[yy,aB]) (by simp) (fun e aw=>by rw[List.eq_of_mem_replicate aw]; exact aB) (Nat.le_refl _) (Nat.le_refl _) ?_;rw[List.take_of_length_le (by rw[yy,aB]; omega),Es]
def ph (n:Nat) (out:List Nat) :List Bool:=(List.range n).map fun i=>decide (i∈out)
theorem Ch {n:Nat} {out:List Nat} {i:Nat} (h:i<n) :(ph n out)[i]? = some (decide (i∈out)) :=by
 unfold ph; rw[List.getElem?_map,List.getElem?_range h]; rfl
theorem zy (n:Nat) (out:List Nat) :(ph n out).length=n:=by simp[ph]
theorem agf {n:Nat} {out:List Nat} {i:Nat} (h:i<n) :(ph n out).set i true=ph n (out++[i]) :=by
 apply List.ext_getElem?;intro j;by_cases am:j<n
 ·rw[Ch am,List.getElem?_set];by_cases iy:i=j
  ·subst iy; simp[zy,h]
  ·rw[if_neg iy,Ch am];simp[Ne.symm iy]
 ·rw[List.getElem?_eq_none (by simp[zy]; omega),List.getElem?_eq_none (by simp[zy]; omega)]
theorem age (n:Nat) :ph n []=List.replicate n false:=by
 apply List.ext_getElem?;intro j;by_cases am:j<n
 ·rw[Ch am]; simp[am]
 ·rw[List.getElem?_eq_none (by simp[zy]; omega),List.getElem?_eq_none (by simp; omega)]
theorem one_cell {cs:List ae} {o:Nat} {c:ae} (h:(cs.drop o).take 1=[c]) :cs[o]? = some c:=by
 have h1:((cs.drop o).take 1)[0]? = some c:=by rw[h]; rfl
 rw[List.getElem?_take_of_lt (by omega),List.getElem?_drop] at h1;exact h1
structure adZ (g:b1) (out:List Nat) (v3 v4 v5:ae) (rest:av) :Prop where
 ex:∃ k1 jx gh,bX 1 (.cells 2 (ew g) ::rest) v3 k1 (out.map gY)/\bX 32 (.cells 2 (ew g) ::rest) v4 jx ((out.map (ch g.ids.l)).map a7)/\bX 1 (.cells 2 (ew g) ::rest) v5 gh ((ph g.ops.l.length out).map jO) ∧
  1<=gh/\cU v5=false/\cU v3=out.isEmpty/\cU v4=out.isEmpty/\(out=[]\/(1<=k1/\1<=jx/\k1≠jx/\k1≠gh/\jx≠gh))
set_option maxHeartbeats 4000000 in
theorem anT (g:b1) (az:hY g) (au:g.ids.l.length=g.ops.l.length) (am:im g.ids.l) :bR Tryz.prog GS 94 [dw g] (In (e4 (ra g.ids.l g.ops.l))) :=by
 refine cf Tryz.checked.mixed b2 ?_;apply bH SJ abE;unfold HX NW;have kq:cT=140737488355328:=rfl;have fc:=hb g.ids;have dp:=oh g.ops;have ep:c8 (.ao 11) (cA g.ops)=some (.int .i64 g.ops.l.length) :=by simp[cA]
 have bA:=az.cW;obtain⟨fE,jY⟩:=DY (z:=1) (by_:=1) (n:=g.ops.l.length) (k:=.i64) (k':=.i64) (zero:=[ae.bool false]) (l:=[bt.cells 2 (ew g)]) rfl (by omega) (by rw[kq]; omega);simp only[ew,Nat.mul_one,Oa (α:=Nat)] at fE jY;simp[dw,ew,ep,fE];refine uo (fun m ah l=>∃ (k:Nat) (rest:av),l=.cells 2 (ew g) ::rest/\ah 1=.ptr 0 0 2/\adZ g (fH g.ids.l g.ops.l k) (ah 3) (ah 4) (ah 5) rest ∧
  ((ah 6=.bool true/\(fH g.ids.l g.ops.l k).length=k/\m=g.ops.l.length - k+1)\/(ah 6=.bool false/\kz g.ids.l g.ops.l (fH g.ids.l g.ops.l k)=none/\k<=g.ops.l.length/\m=0))) ?_ (g.ops.l.length+1) _ _ ?_
 ·rintro m ah l ⟨k,rest,rfl,aY,r7,ar⟩;obtain⟨v3,bh⟩:∃ v,ah 3=v:=⟨_,rfl⟩
  obtain⟨v4,bK⟩:∃ v,ah 4=v:=⟨_,rfl⟩
  obtain⟨v5,bw⟩:∃ v,ah 5=v:=⟨_,rfl⟩
  rw[bh,bK,bw] at r7;obtain⟨out,ko⟩:∃ out,out=fH g.ids.l g.ops.l k:=⟨_,rfl⟩
  rw[<-ko] at r7 ar;obtain⟨vN,eb,vE⟩:=A4 g.ids.l g.ops.l au am k;rw[<-ko] at vN eb vE;have dJ:out.length<=g.ops.l.length:=by
   have:=s1 (b:=List.range g.ops.l.length) vN (fun x aj=>List.mem_range.2 (vE x aj).1);simpa using this
  rcases ar with ⟨cl,hk,rfl⟩ | ⟨cl,eS,gp,rfl⟩
  ·obtain⟨ah,rfl⟩:=k7 aY bh bK bw cl;clear aY bh bK bw cl;unfold KX;simp;refine c7 g.ops.l.length (fun i ah l=>l=.cells 2 (ew g) ::rest/\ah 1=.ptr 0 0 2/\ah 3=v3/\ah 4=v4/\ah 5=v5/\ah 6=.bool false/\ah 7=.int .i64 i/\∀ j,j<i->rP g.ids.l g.ops.l out j=false) ?_ (by simp);rintro i ah l aA ⟨rfl,aY,bh,bK,bw,cl,dx,ar⟩;obtain⟨ah,rfl⟩:=EN aY bh bK bw cl dx;clear aY bh bK bw cl dx;unfold XT;by_cases eA:i<g.ops.l.length
   ·obtain⟨o,ay,eK⟩:=ck eA;have aZ:IntKind.i64.wrap ((i:Int)+1)=((i+1:Nat) :Int) :=by rw[IntKind.wrap_i64]; omega
    have cV:cS (.ao 11) (cA g.ops) (.int .i64 (i:Int))=some (.cq (bD o) 0) :=by simp[cA,ay]
    obtain⟨k1,jx,gh,pS,sO,ig,bd,ky,sL,q6,bN⟩:=r7;obtain⟨YD,ar3,uW,bj,bz,a3,a4⟩:=ig.q.get (k:=.i64) (i:=i) (e:=jO (decide (i∈out))) (by rw[List.getElem?_map,Ch eA]; rfl);have a5:=one_cell (c:=.bool (decide (i∈out))) (by simpa [jO] using a4);have j2:=sO.pX (enc:=a7) (xs:=out.map (ch g.ids.l)) (fun x=>gf x) (e4 (out.map (ch g.ids.l))) (by rw[q6,wv]; simp) (hJ _);have Dl:hx (e4 (out.map (ch g.ids.l))) :=fun x aj=>by
     rw[hJ] at aj;obtain⟨t,aU,rfl⟩:=List.mem_map.1 aj;obtain⟨y,aK,dg⟩:=ck (l:=g.ids.l) (k:=t) (by have:=(vE t aU).1; omega);rw[hW aK]; exact az.ids y dg
    have eG:=N3 (e4 (out.map (ch g.ids.l))) Dl (by rw[hJ]; simp; omega) o.bO (az.ops o eK).ids (az.ops o eK).len;rw[hJ] at eG;have qG:=hb o.bO;have lZ:rP g.ids.l g.ops.l out i=(decide (i∉out)&&m4 (out.map (ch g.ids.l)) o.bO.l) :=by unfold rP; rw[uv ay]
    simp only[ew] at bz pS sO ig j2;by_cases Dc:i∈out
    ·simp[ew,ep,eA,bj,bz,a5,Dc,aZ];intro j am;by_cases mF:j=i
     ·subst mF; rw[lZ]; simp[Dc]
     ·exact ar j (by omega)
    ·simp[ew,ep,eA,bj,bz,a5,Dc,aZ,cV,bD];refine iF eG (.cons j2 (.cons (.same _ qG) .nil)) rfl ?_;by_cases fM:m4 (out.map (ch g.ids.l)) o.bO.l=true
     ·rw[fM] at lZ;obtain⟨y,aK,dg⟩:=ck (l:=g.ids.l) (k:=i) (by omega);have Ah:cS (.ao 32) (bc g.ids) (.int .i64 (i:Int))=some (.cq (a7 y) 0) :=by simp[bc,aK]
      have ds:=dd (az.ids y dg);obtain⟨Y,fb⟩:∃ Y,Y=a7 y:=⟨_,rfl⟩
      rw[<-fb] at Ah ds;have aka:bS (rep 32 (.int .u8 0)) 0 Y=Y:=g8 (by rw[ds]; rfl);obtain⟨l1,fD⟩:∃ l1,l1=bt.cells 2 [bc g.ids,cA g.ops] ::(rest++[bt.cells 1 [ae.int IntKind.i64 (i:Int)],bt.cells 32 Y]) :=⟨_,rfl⟩
      have JB:l1.length=rest.length+3:=by rw[fD]; simp
      have uq:bX 1 l1 v3 k1 (out.map gY) :=by rw[fD]; exact pS.more _
      have K3:bX 32 l1 v4 jx ((out.map (ch g.ids.l)).map a7) :=by rw[fD]; exact sO.more _
      have alY:bX 1 l1 v5 gh ((ph g.ops.l.length out).map jO) :=by rw[fD]; exact ig.more _
      have so:out=[]->v3=.aX/\v4=.aX:=fun h=>by rw[h] at sL q6; exact⟨iW.1 sL,iW.1 q6⟩
      have avB:gh<rest.length+1:=by
       rcases ig.lt with h | h
       ·rw[h] at ky; cases ky
       ·simpa using h
      obtain⟨k1,uq,q1,iZ,nO,Y0⟩:∃ k1,bX 1 l1 v3 k1 (out.map gY)/\1<=k1/\k1≠gh/\(out=[]\/k1≠jx)/\(k1<rest.length+1\/l1.length<=k1) :=by
       by_cases h:out=[]
       ·have ax:=(so h).1;rw[ax,h];exact⟨l1.length,.nil _,by omega,by omega,.inl rfl,.inr (Nat.le_refl _)⟩
       ·obtain⟨h1,ag,ap,aJ,bd⟩:=bN.resolve_left h;refine⟨k1,uq,h1,aJ,.inr ap,.inl ?_⟩;rcases pS.lt with fL | fL
        ·rw[fL] at sL;cases out with
         | nil=>exact absurd rfl h
         | cons=>cases sL
        ·simpa using fL
      obtain⟨adc,ug,ce,aY,a2,bh,bK,bw,cl⟩:=m5 (by_:=8) uq (x:=.ao 1 (rest.length+1) 0 1 1 1) (xs:=[gY i]) (by rw[fD]; simp[dv,gY]) (by simp[gY]) (by omega) (by omega) (by rw[kq]; simp; omega);obtain⟨fw,rfl⟩:∃ fw,ce=bt.cells 2 [bc g.ids,cA g.ops] ::fw:=A2 (by rw[bK 0 (by omega) (by omega),fD]; rfl);have I3:(bt.cells 2 [bc g.ids,cA g.ops] ::fw)[rest.length+2]? = some (.cells 32 Y) :=by rw[bK (rest.length+2) (by omega) (by omega),fD]; simp
      have fU:(bt.cells 2 [bc g.ids,cA g.ops] ::fw)[rest.length+1]? = some (.cells 1 [.int .i64 (i:Int)]) :=by rw[bK (rest.length+1) (by omega) (by omega),fD]; simp
      have iX:=alY.frame (l':=bt.cells 2 [bc g.ids,cA g.ops] ::fw) (fun h=>bK gh h (Ne.symm iZ));rw[fD] at aY;simp[fM,Ah,ds,aka,List.take_of_length_le,aY];refine dK.cM ?_;simp;have Uz:fw[rest.length+1]? = some (.cells 32 Y) :=by simpa using I3
      refine⟨⟨Uz,by omega,List.take_of_length_le (by omega)⟩,?_⟩;have V5:adc≠.aX:=fun h=>by have:=(cl.1 h).2; cases this
      have atE:ug<fw.length+1:=by have:=a2.lt.resolve_left V5; simpa using this
      have Ju:1<=ug/\ug≠gh:=by rcases bw with h | h<;>omega
      obtain⟨jx,K3,t1,t2,t3,t4⟩:∃ jx,bX 32 (bt.cells 2 [bc g.ids,cA g.ops] ::fw) v4 jx ((out.map (ch g.ids.l)).map a7)/\1<=jx/\jx≠gh/\jx≠ug/\(jx<fw.length+1\/fw.length+1<=jx) :=by
       by_cases h:out=[]
       ·have ax:=(so h).2;rw[ax,h];simp at bh;exact⟨fw.length+1,.nil _,by omega,by omega,by omega,.inr (Nat.le_refl _)⟩
       ·obtain⟨h1,ag,ap,aJ,bd⟩:=bN.resolve_left h;have bL:jx<rest.length+1:=by
         rcases sO.lt with fL | fL
         ·rw[fL] at q6;cases out with
          | nil=>exact absurd rfl h
          | cons=>cases q6
         ·simpa using fL
        have eN:=nO.resolve_left h;refine⟨jx,K3.frame (fun h=>bK jx h (Ne.symm eN)),ag,bd,by rcases bw with h | h<;>omega,.inl (by simp at bh; omega)⟩
      obtain⟨ade,uh,eO,f1,f2,f3,f4,f5,f6⟩:=m5 (by_:=32) K3 (x:=.ao 32 (rest.length+1+1) 0 1 1 32) (xs:=[Y]) (by simp[dv,ds,Uz,List.take_of_length_le]) (by simp[ds]) (by omega) (by omega) (by rw[kq]; simp; omega);obtain⟨ri,rfl⟩:∃ ri,eO=bt.cells 2 [bc g.ids,cA g.ops] ::ri:=A2 (by rw[f4 0 (by simp) (by omega)]; rfl);have V6:ade≠.aX:=fun h=>by have:=(f6.1 h).2; cases this
      have atF:uh<ri.length+1:=by have:=f2.lt.resolve_left V6; simpa using this
      have eg:=a2.frame (l':=bt.cells 2 [bc g.ids,cA g.ops] ::ri) (fun h=>f4 ug h (Ne.symm t3));have rv:=iX.frame (l':=bt.cells 2 [bc g.ids,cA g.ops] ::ri) (fun h=>f4 gh h (Ne.symm t2));obtain⟨p,jy,hK,jf,o0,By,yM⟩:=YA (k:=i) (x:=true) (X:=.bool true) (enc:=jO) rfl rv (fun _ _=>rfl) (by rw[zy]; exact eA) rfl;simp[f1];refine dK.cM ?_;simp[hK,jf];have Is:uh=jx\/fw.length+1<=uh:=by simpa using f5
      have as4:rest.length+3<=fw.length+1:=by rw[JB] at bh; simpa using bh
      have lH:1<=uh:=by rcases Is with h | h<;>omega
      have iH:uh≠gh:=by rcases Is with h | h<;>omega
      have z3:ug≠uh:=by rcases Is with h | h<;>omega
      obtain⟨Ni,rfl⟩:∃ Ni,jy=bt.cells 2 [bc g.ids,cA g.ops] ::Ni:=A2 (by rw[yM 0 (by omega)]; rfl);have nr:kz g.ids.l g.ops.l out=some i:=amn eA (by rw[lZ]; simp[Dc]) ar;have tR:fH g.ids.l g.ops.l (k+1)=out++[i] :=by rw[Lm (by rw[<-ko]; exact nr),<-ko]
      have aP:k<g.ops.l.length:=by
       have fL:=(A4 g.ids.l g.ops.l au am (k+1)).1;rw[tR] at fL;have:=s1 (b:=List.range g.ops.l.length) fL (fun x aj=>List.mem_range.2 (by
        rw[List.mem_append,List.mem_singleton] at aj;rcases aj with aj | rfl
        ·exact (vE x aj).1
        ·exact eA))
       simp at this; omega
      have dC:(out++[i]).map gY=out.map gY++[gY i] :=by simp
      have lR:((out++[i]).map (ch g.ids.l)).map a7=(out.map (ch g.ids.l)).map a7++[Y] :=by
       have ai0:ch g.ids.l i=y:=hW aK;rw[List.map_append,List.map_append,List.map_singleton,List.map_singleton,ai0,fb]
      refine⟨g.ops.l.length - (k+1)+1,by omega,k+1,Ni,rfl,?_,by rw[tR]; simp[hk],rfl⟩;rw[tR];refine⟨⟨ug,uh,gh,?_,?_,?_,bd,ky,?_,?_,.inr ⟨Ju.1,lH,z3,Ju.2,iH⟩⟩⟩
      ·rw[dC]; exact eg.frame (fun h=>yM ug Ju.2)
      ·rw[lR]; exact f2.frame (fun h=>yM uh iH)
      ·rw[<-agf eA]; exact o0
      ·cases ax:cU adc with
       | true=>exact absurd (iW.1 ax) V5
       | false=>simp
      ·cases ax:cU ade with
       | true=>exact absurd (iW.1 ax) V6
       | false=>simp
     ·rw[Bool.not_eq_true] at fM;rw[fM] at lZ;simp[fM,eA,aZ];refine⟨rfl,fun j am=>?_⟩;by_cases mF:j=i
      ·subst mF; rw[lZ]; simp
      ·exact ar j (by omega)
   ·have atD:i=g.ops.l.length:=by omega
    simp[ew,ep,eA];have eS:kz g.ids.l g.ops.l out=none:=amo fun j am=>ar j (by omega)
    refine⟨0,by omega,k,by rw[<-ko]; exact r7,by rw[<-ko]; exact eS,by omega,rfl⟩
  ·obtain⟨ah,rfl⟩:=k7 aY bh bK bw cl;clear aY bh bK bw cl;unfold KX;simp;obtain⟨k1,jx,gh,pS,sO,ig,bd,ky,sL,q6,bN⟩:=r7;have cK:ra g.ids.l g.ops.l=out:=by
    unfold ra;have:=Ll (k:=k) (by rw[<-ko]; exact eS) (g.ops.l.length - k);rw[show k+(g.ops.l.length - k)=g.ops.l.length by omega,<-ko] at this;exact this
   rw[cK];exact pS.q.rl (fun x=>rfl) (e4 out) (by rw[sL,wv]) (hJ _)
 ·refine⟨0,_,rfl,by simp,?_,.inl ⟨by simp,rfl,rfl⟩⟩;simp;refine⟨⟨0,0,1,.nil 0,.nil 0,?_,by omega,rfl,rfl,rfl,.inl rfl⟩⟩;show bX _ _ _ _ ((ph g.ops.l.length []).map jO);have:(ph g.ops.l.length []).map jO=List.replicate g.ops.l.length [ae.bool false] :=by rw[age,List.map_replicate]; rfl
  rw[this];exact jY
def A3 (ids:List (List B)) (ops:List bQ) :Bool:=decide (∀ o∈ops,m4 ids o.bO.l=true)
def oW (ids:List (List B)) (ops:List bQ) :Int:=if eU ids=true then (if A3 ids ops=true then (if (ra ids ops).length=ops.length then 0 else 36) else 40) else 32
theorem anW (g:b1) (az:hY g) (au:g.ids.l.length=g.ops.l.length) :bR Tryz.prog GS 62 [dw g] (.int .i64 (oW g.ids.l g.ops.l)) :=by
 refine cf Tryz.checked.mixed b2 ?_;apply bH Se aa7;unfold Hy Nw;have fc:=hb g.ids;have dp:=oh g.ops;have ni:=Cb g;have ep:c8 (.ao 11) (cA g.ops)=some (.int .i64 g.ops.l.length) :=by simp[cA]
 have bA:=az.cW;have Dt:=abQ g.ids az.ids az.li;simp[dw,ew,ep];refine bC Dt (by simp[bM,fc]) ?_;by_cases aC:eU g.ids.l=true
 ·have am:=oM aC;have kn:=anT g az au am;unfold dw ew at kn ni;simp[aC];refine c7 g.ops.l.length (fun k ah l=>l=[.cells 2 [bc g.ids,cA g.ops]]/\ah 1=.ptr 0 0 2/\ah 3=.int .i64 k/\∀ (j:Nat) (o:bQ),j<k->g.ops.l[j]? = some o->m4 g.ids.l o.bO.l=true) ?_ (by simp);rintro k ah l hk ⟨rfl,aY,bh,ar⟩;obtain⟨ah,rfl⟩:=o3 aY bh;clear aY bh;unfold XC;by_cases cZ:k<g.ops.l.length
  ·obtain⟨o,ay,eK⟩:=ck cZ;have aZ:IntKind.i64.wrap ((k:Int)+1)=((k+1:Nat) :Int) :=by rw[IntKind.wrap_i64]; omega
   have cV:cS (.ao 11) (cA g.ops) (.int .i64 (k:Int))=some (.cq (bD o) 0) :=by simp[cA,ay]
   have eG:=N3 g.ids az.ids az.li o.bO (az.ops o eK).ids (az.ops o eK).len;have qG:=hb o.bO;simp[ep,cZ,cV,bD];refine bC eG (by simp[bM,fc,qG]) ?_;by_cases fM:m4 g.ids.l o.bO.l=true
   ·simp[fM,cZ,aZ];intro j c0 eo dX;by_cases g2:j=k
    ·subst g2; rw[ay] at dX; obtain rfl:=Option.some.inj dX; exact fM
    ·exact ar j c0 (by omega) dX
   ·rw[Bool.not_eq_true] at fM;simp[fM];refine a1 (congrArg (ae.int .i64) ?_) rfl;have eS:¬ A3 g.ids.l g.ops.l=true:=fun h=>by
     have:=of_decide_eq_true h o eK;rw[fM] at this; cases this
    unfold oW;rw[if_pos aC,if_neg eS]
  ·have ps:k=g.ops.l.length:=by omega
   have fO:A3 g.ids.l g.ops.l=true:=decide_eq_true fun o eK=>by
    obtain⟨j,eo⟩:=List.mem_iff_getElem?.1 eK;exact ar j o (by rw[ps]; exact (List.getElem?_eq_some_iff.1 eo).1) eo
   have du:(ra g.ids.l g.ops.l).length<=g.ops.l.length:=(A4 g.ids.l g.ops.l au am _).2.1;have pt:c8 (.ao 1) (In (e4 (ra g.ids.l g.ops.l)))=some (.int .i64 (ra g.ids.l g.ops.l).length) :=by unfold In; rw[oP,hJ]
   simp[ep,cZ];refine bC kn (by simp[bM,ni]) ?_;by_cases aP:(ra g.ids.l g.ops.l).length<g.ops.l.length
   ·simp[ep,pt,aP];refine a1 (congrArg (ae.int .i64) ?_) rfl;unfold oW;rw[if_pos aC,if_pos fO,if_neg (by omega)]
   ·simp[ep,pt,aP];refine a1 (congrArg (ae.int .i64) ?_) rfl;unfold oW;rw[if_pos aC,if_pos fO,if_pos (by omega)]
 ·rw[Bool.not_eq_true] at aC;simp[aC];refine a1 (congrArg (ae.int .i64) ?_) rfl;unfold oW;rw[aC]; rfl
def nd (g:b1) (k:Nat) :Bool:=match g.ops.l[k]?,g.ids.l[k]? with
 | some o,some x=>decide (p4 o=0)&&decide (ib o=x)
 | _,_=>true
def CB (g:b1) :Bool:=decide (∀ k,k<g.ops.l.length->nd g k=true)
theorem xe (g:b1) :CB g=true<->∀ k,k<g.ops.l.length->nd g k=true:=by unfold CB; rw[decide_eq_true_eq]
def hB (g:b1) :Int:=if 60<g.ops.l.length then 4 else if g.ids.l.length=g.ops.l.length then (if CB g=true then oW g.ids.l g.ops.l else 8) else 8
theorem CC {g:b1} {k:Nat} {o:bQ} {x:List B} (ay:g.ops.l[k]? = some o) (aj:g.ids.l[k]? = some x) :nd g k=(decide (p4 o=0)&&decide (ib o=x)) :=by
 unfold nd; rw[ay,aj]
theorem BC {o:bQ} (h:p4 o=0) :fY o=0:=by
 unfold p4 at h;by_cases aT:fY o=0
 ·exact aT
 ·rw[if_neg aT] at h; exact h
theorem Kv (o:bQ) :(ib o).length=32:=by
 unfold ib;split
 ·exact sZ _
 ·simp
set_option maxHeartbeats 4000000 in
theorem anJ (g:b1) (az:hY g) :bR Tryz.prog GS 28 [dw g] (.int .i64 (hB g)) :=by
 refine cf Tryz.checked.mixed b2 ?_;apply bH RK aaD;unfold Hc M8;have fc:=hb g.ids;have dp:=oh g.ops;have ni:=Cb g;have ep:c8 (.ao 11) (cA g.ops)=some (.int .i64 g.ops.l.length) :=by simp[cA]
 have gM:c8 (.ao 32) (bc g.ids)=some (.int .i64 g.ids.l.length) :=by simp[bc]
 have bA:=az.cW;by_cases lW:60<(g.ops.l.length:Int)
 ·simp[dw,ew,ep,lW];refine a1 (congrArg (ae.int .i64) ?_) rfl;unfold hB; rw[if_pos (by omega)]
 by_cases au:g.ids.l.length=g.ops.l.length
 ·have nx:=anW g az au;unfold dw ew at nx ni;have c6:(g.ids.l.length:Int)=(g.ops.l.length:Int) :=by omega
  simp[dw,ew,ep,gM,lW,c6];refine c7 g.ops.l.length (fun k ah l=>l=[.cells 2 [bc g.ids,cA g.ops]]/\ah 1=.ptr 0 0 2/\ah 3=.int .i64 k/\∀ j,j<k->nd g j=true) ?_ (by simp);rintro k ah l hk ⟨rfl,aY,bh,ar⟩;obtain⟨ah,rfl⟩:=o3 aY bh;clear aY bh;unfold Xs;by_cases cZ:k<g.ops.l.length
  ·obtain⟨o,ay,eK⟩:=ck cZ;obtain⟨x,aj,dF⟩:=ck (l:=g.ids.l) (k:=k) (by omega);have gL:=CC ay aj;have aZ:IntKind.i64.wrap ((k:Int)+1)=((k+1:Nat) :Int) :=by rw[IntKind.wrap_i64]; omega
   have cV:cS (.ao 11) (cA g.ops) (.int .i64 (k:Int))=some (.cq (bD o) 0) :=by simp[cA,ay]
   have vF:cS (.ao 32) (bc g.ids) (.int .i64 (k:Int))=some (.cq (a7 x) 0) :=by simp[bc,aj]
   have ax:=an1 o (az.ops o eK);have po:=mz o;have bF:=dd (az.ids x dF);have dJ:(bD o).length=11:=rfl;have pk:¬ nd g k=true->hB g=8:=fun h=>by
    unfold hB;rw[if_neg (by omega),if_pos au,if_neg fun aN=>h ((xe g).1 aN k cZ)]
   by_cases qQ:p4 o=0
   ·have aT:=BC qQ;have mI:=anQ o (az.ops o eK) (by have:=ym aT; omega);have hr:ib o=hy (hI o) :=by unfold ib; rw[if_pos aT]
    rw[<-hr] at mI;have heq:=Ku (Kv o) (az.ids x dF);change bR Tryz.prog GS 32 [.aV (bD o)] (.aV (a7 (ib o))) at mI;obtain⟨I,r7⟩:∃ I,I=a7 (ib o) :=⟨_,rfl⟩
    rw[<-r7] at mI heq;rw[qQ] at ax;obtain⟨O,fq⟩:∃ O,O=bD o:=⟨_,rfl⟩
    obtain⟨X,dN⟩:∃ X,X=a7 x:=⟨_,rfl⟩
    rw[<-fq] at cV ax mI po dJ;rw[<-dN] at vF bF heq;simp[ep,cZ,cV,dJ,List.take_of_length_le];refine bC ax (by simp[bM,ae.closed,po]) ?_;simp[dJ,vF,bF,cV,List.take_of_length_le];refine bC mI (by simp[bM,ae.closed,po]) ?_;by_cases fX:ib o=x
    ·simp[heq,fX,cZ,aZ,bF,List.take_of_length_le];intro j am;by_cases g2:j=k
     ·subst g2; rw[gL]; simp[qQ,fX]
     ·exact ar j (by omega)
    ·have ai:¬ nd g k=true:=fun h=>by rw[gL] at h; simp[fX] at h
     simp[heq,fX,bF,List.take_of_length_le];exact a1 (congrArg (ae.int .i64) (pk ai).symm) rfl
   ·have ai:¬ nd g k=true:=fun h=>by rw[gL] at h; simp[qQ] at h
    simp[ep,cZ,cV,dJ,List.take_of_length_le];refine bC ax (by simp[bM,ae.closed,po]) ?_;simp[qQ];exact a1 (congrArg (ae.int .i64) (pk ai).symm) rfl
  ·have ps:k=g.ops.l.length:=by omega
   simp[ep,cZ];refine bC nx (by simp[bM,ni]) ?_;simp;refine a1 (congrArg (ae.int .i64) ?_) rfl;unfold hB;rw[if_neg (by omega),if_pos au,if_pos ((xe g).2 fun j am=>ar j (by omega))]
 ·have c6:¬ (g.ids.l.length:Int)=(g.ops.l.length:Int) :=by omega
  simp[dw,ew,ep,gM,lW,c6];refine a1 (congrArg (ae.int .i64) ?_) rfl;unfold hB; rw[if_neg (by omega),if_neg au]
def nl (ids:List (List B)) (D:List Nat) (p:List B) :Nat:=(D.map fun a=>if p == ch ids a then 1 else 0).sum
def j9 (ids:List (List B)) (D:List Nat) (L:List (List B)) :Nat:=(D.map fun a=>L.count (ch ids a)).sum
theorem apx (ids:List (List B)) (D:List Nat) :j9 ids D []=0:=by
 unfold j9
 induction D with
 | nil=>rfl
 | cons a D aL=>rw[List.map_cons,List.sum_cons,aL]; rfl
theorem acK (ids:List (List B)) (p:List B) (L:List (List B)) :∀ D,j9 ids D (p::L)=j9 ids D L+nl ids D p
 | []=>rfl
 | a::D=>by
  have aL:=acK ids p L D;unfold j9 nl at aL ⊢;rw[List.map_cons,List.sum_cons,List.map_cons,List.sum_cons,List.map_cons,List.sum_cons,aL,List.count_cons];omega
theorem OI (ids:List (List B)) (D:List Nat) (a:Nat) (L:List (List B)) :j9 ids (D++[a]) L=j9 ids D L+L.count (ch ids a) :=by
 unfold j9; rw[List.map_append,List.sum_append]; simp
theorem PP {ids:List (List B)} (am:im ids) {i j:Nat} (aA:i<ids.length) (eR:j<ids.length) (h:ch ids i=ch ids j) :i=j:=by
 obtain⟨x,aj,_⟩:=ck aA;obtain⟨y,aK,_⟩:=ck eR;rw[hW aj,hW aK] at h;subst h;exact am i j x aj aK
theorem Ve {ids:List (List B)} {p:List B}:∀ {D:List Nat},(∀ a∈D,ch ids a≠p)->nl ids D p=0
 | [],_=>rfl
 | a::D,h=>by
  have aL:=Ve (ids:=ids) (p:=p) (D:=D) fun b ai=>h b (by simp[ai])
  have aG:(p == ch ids a)=false:=by rw[beq_eq_false_iff_ne]; exact Ne.symm (h a (by simp))
  unfold nl at aL ⊢;rw[List.map_cons,List.sum_cons,aL,aG]; rfl
theorem Vd {ids:List (List B)} (am:im ids) {p:List B}:∀ {D:List Nat},D.Nodup->(∀ a∈D,a<ids.length)->nl ids D p<=1/\(nl ids D p=1<->∃ a∈D,ch ids a=p)
 | [],_,_=>⟨Nat.zero_le _,Iff.intro (fun h=>(by cases h)) (fun ⟨a,aG,_⟩=>(by cases aG))⟩
 | a::D,aH,ai=>by
  rw[List.nodup_cons] at aH;obtain⟨er,eX⟩:=Vd (p:=p) am aH.2 (fun b bP=>ai b (by simp[bP]));by_cases h:ch ids a=p
  ·have aB:nl ids D p=0:=Ve fun b UG aic=>aH.1 (by rw[PP am (ai a (by simp)) (ai b (by simp[UG])) (h.trans aic.symm)]; exact UG)
   have aG:(p == ch ids a)=true:=by rw[h]; simp
   have e:nl ids (a::D) p=1:=by
    unfold nl at aB ⊢;rw[List.map_cons,List.sum_cons,aB,aG]; rfl
   rw[e];exact⟨Nat.le_refl _,fun _=>⟨a,by simp,h⟩,fun _=>rfl⟩
  ·have aG:(p == ch ids a)=false:=by rw[beq_eq_false_iff_ne]; exact Ne.symm h
   have e:nl ids (a::D) p=nl ids D p:=by
    unfold nl;rw[List.map_cons,List.sum_cons,aG]; simp
   rw[e];refine⟨er,eX.trans ⟨fun ⟨b,gA,fU⟩=>⟨b,by simp[gA],fU⟩,fun ⟨b,gA,fU⟩=>?_⟩⟩;rw[List.mem_cons] at gA;rcases gA with rfl | gA
   ·exact absurd fU h
   ·exact⟨b,gA,fU⟩
theorem OJ {ids:List (List B)} (am:im ids) {D:List Nat} (aH:D.Nodup) (ai:∀ a∈D,a<ids.length) :∀ L:List (List B),j9 ids D L<=L.length/\(j9 ids D L=L.length<->∀ p∈L,∃ a∈D,ch ids a=p)
 | []=>by rw[apx]; exact⟨Nat.le_refl _,Iff.intro (fun _ p aE=>by cases aE) (fun _=>rfl)⟩
 | p::L=>by
  obtain⟨er,eX⟩:=OJ am aH ai L;obtain⟨h1,ag⟩:=Vd (p:=p) am aH ai;rw[acK,List.length_cons];refine⟨by omega,fun h=>?_,fun h=>?_⟩
  ·have aZ:j9 ids D L=L.length:=by omega
   have b4:nl ids D p=1:=by omega
   intro q bp;rw[List.mem_cons] at bp;rcases bp with rfl | bp
   ·exact ag.1 b4
   ·exact eX.1 aZ q bp
  ·have aZ:=eX.2 fun q bp=>h q (by simp[bp])
   have b4:=ag.2 (h p (by simp));omega
structure EZ (ids:List (List B)) (ops:List bQ) (cv:List (List Nat)) :Prop where
 len:cv.length=ops.length
 cnt:∀ (a:Nat) (row:List Nat),cv[a]? = some row->∀ k,k<ops.length->row.count k=(c5 ops k).count (ch ids a)
 lt:∀ (a:Nat) (row:List Nat),cv[a]? = some row->∀ k∈row,k<ops.length
structure qe (ids:List (List B)) (ops:List bQ) (row:List Nat) (d j:Nat) (R:List Nat) (W:List Int) :Prop where
 iB:R.Nodup
 nb:∀ k∈R,k<ops.length/\n0 ids ops k
 dl:d<=R.length
 wl:W.length=ops.length
 w:∀ k,k<ops.length->W[k]? = some (((c5 ops k).length:Int) - j9 ids (R.take d) (c5 ops k) - (row.take j).count k)
 r:∀ k,k<ops.length->(k∈R<->W[k]? = some 0)
theorem alj {ids:List (List B)} {ops:List bQ} (au:ids.length=ops.length) (am:im ids) {cv:List (List Nat)} (ai:EZ ids ops cv) {a:Nat} {row:List Nat} {d j:Nat} {R:List Nat} {W:List Int}
  (h:qe ids ops row d j R W) (aG:R[d]? = some a) (cF:cv[a]? = some row) {k:Nat} (hk:row[j]? = some k) :
  ∃ x:Int,W[k]? = some x/\1<=x/\x<=(c5 ops k).length/\qe ids ops row d (j+1) (if x - 1=0 then R++[k] else R) (W.set k (x - 1)) :=by
 have gp:=ai.lt a row cF k (List.mem_of_getElem? hk);have xo:=ai.cnt a row cF k gp;have vA:=(List.getElem?_eq_some_iff.1 aG).1;have hU:R.take (d+1)=R.take d++[a] :=by rw[List.take_add_one,aG]; rfl
 have ajr:(R.take (d+1)).Nodup:=List.Sublist.nodup (List.take_sublist _ _) h.iB;have oA:∀ b∈R.take (d+1),b<ids.length:=fun b bP=>by have:=(h.nb b (List.mem_of_mem_take bP)).1; omega
 obtain⟨dZ,mQ⟩:=OJ am ajr oA (c5 ops k);rw[hU,OI,<-xo] at dZ;have qF:(row.take (j+1)).count k=(row.take j).count k+1:=by
  rw[List.take_add_one,hk,List.count_append]; simp
 have jV:(row.take (j+1)).count k<=row.count k:=List.Sublist.count_le _ (List.take_sublist _ _);have bB:=h.w k gp;obtain⟨x,aj⟩:∃ x:Int,x=((c5 ops k).length:Int) - j9 ids (R.take d) (c5 ops k) - (row.take j).count k:=⟨_,rfl⟩
 rw[<-aj] at bB;have x1:1<=x:=by omega
 have Vl:k∉R:=fun hm=>by
  have:=(h.r k gp).1 hm;rw[bB] at this;have:=Option.some.inj this;omega
 refine⟨x,bB,x1,by omega,?_⟩;have Vm:k<W.length:=by rw[h.wl]; exact gp
 have Aw:(if x - 1=0 then R++[k] else R).take d=R.take d:=by
  split
  ·rw[List.take_append_of_le_length (by omega)]
  ·rfl
 have l5:x - 1=0->n0 ids ops k:=fun aT=>by
  have heq:j9 ids (R.take (d+1)) (c5 ops k)=(c5 ops k).length:=by rw[hU,OI,<-xo]; omega
  have eG:=mQ.1 heq;have eQ:∀ t,t<ids.length->ids[t]? = some (ch ids t) :=fun t aU=>by
   obtain⟨y,aK,_⟩:=ck (l:=ids) aU;rw[aK,hW aK]
  refine .mk k (by omega) (fun p aE=>?_) fun p aE iz fN=>?_
  ·obtain⟨t,aU,rfl⟩:=eG p aE;exact List.mem_of_getElem? (eQ t (oA t aU))
  ·obtain⟨t,aU,rfl⟩:=eG p aE;rw[am iz t _ fN (eQ t (oA t aU))];exact (h.nb t (List.mem_of_mem_take aU)).2
 refine⟨?_,fun y aK=>?_,?_,by simpa using h.wl,fun y aK=>?_,fun y aK=>?_⟩
 ·split
  ·rw[List.nodup_append];refine⟨h.iB,by simp,fun u aM v ax e=>?_⟩;rw[List.mem_singleton] at ax;subst e;rw[ax] at aM;exact Vl aM
  ·exact h.iB
 ·split at aK
  ·rename_i aT;rw[List.mem_append,List.mem_singleton] at aK;rcases aK with aK | rfl
   ·exact h.nb y aK
   ·exact⟨gp,l5 aT⟩
  ·exact h.nb y aK
 ·split
  ·simp; have:=h.dl; omega
  ·exact h.dl
 ·rw[Aw,List.getElem?_set];by_cases vI:k=y
  ·subst vI;rw[if_pos rfl,if_pos Vm,qF];congr 1;omega
  ·rw[if_neg vI,h.w y aK,List.take_add_one,hk,List.count_append];have:([k] :List Nat).count y=0:=by rw[List.count_singleton]; simp[vI]
   simp only[Option.toList_some,this,Nat.add_zero]
 ·rw[List.getElem?_set];by_cases vI:k=y
  ·subst vI;rw[if_pos rfl,if_pos Vm];by_cases aT:x - 1=0
   ·rw[if_pos aT]; simp[aT]
   ·rw[if_neg aT];exact⟨fun hm=>absurd hm Vl,fun aN=>absurd (Option.some.inj aN) aT⟩
  ·rw[if_neg vI,<-h.r y aK];split
   ·rw[List.mem_append,List.mem_singleton];exact⟨fun h=>h.resolve_right (Ne.symm vI),.inl⟩
   ·exact Iff.rfl
theorem alg {ids:List (List B)} {ops:List bQ} {cv:List (List Nat)} (ai:EZ ids ops cv) {a:Nat} {row sX:List Nat} {d:Nat} {R:List Nat} {W:List Int}
  (h:qe ids ops row d row.length R W) (aG:R[d]? = some a) (cF:cv[a]? = some row) :qe ids ops sX (d+1) 0 R W:=by
 have hU:R.take (d+1)=R.take d++[a] :=by rw[List.take_add_one,aG]; rfl
 refine⟨h.iB,h.nb,(List.getElem?_eq_some_iff.1 aG).1,h.wl,fun k hk=>?_,h.r⟩;rw[h.w k hk,hU,OI,List.take_length,ai.cnt a row cF k hk,List.take_zero,List.count_nil];congr 1;omega
theorem alh {ids:List (List B)} {ops:List bQ} {row sX:List Nat} {d:Nat} {R:List Nat} {W:List Int} (h:qe ids ops row d 0 R W) :qe ids ops sX d 0 R W:=
 ⟨h.iB,h.nb,h.dl,h.wl,fun k hk=>by rw[h.w k hk,List.take_zero,List.take_zero],h.r⟩
theorem ali {ids:List (List B)} {ops:List bQ} (au:ids.length=ops.length) :qe ids ops [] 0 0 ((List.range ops.length).filter fun k=>(c5 ops k).isEmpty) ((List.range ops.length).map fun k=>((c5 ops k).length:Int)) :=by
 refine⟨List.Sublist.nodup List.filter_sublist List.nodup_range,fun k hk=>?_,Nat.zero_le _,by simp,fun k hk=>?_,fun k hk=>?_⟩
 ·rw[List.mem_filter,List.mem_range] at hk;have aT:c5 ops k=[] :=List.isEmpty_iff.1 hk.2;exact⟨hk.1,.mk k (by omega) (fun p aE=>by rw[aT] at aE; cases aE) fun p aE=>by rw[aT] at aE; cases aE⟩
 ·rw[List.getElem?_map,List.getElem?_range hk];simp[j9]
 ·rw[List.mem_filter,List.mem_range,List.getElem?_map,List.getElem?_range hk];simp only[Option.map_some,Option.some.injEq,hk,true_and,List.isEmpty_iff];constructor
  ·intro h; rw[h]; rfl
  ·intro h; exact List.length_eq_zero_iff.1 (by omega)
theorem alf {ids:List (List B)} {ops:List bQ} (au:ids.length=ops.length) (am:im ids) {row:List Nat} {R:List Nat} {W:List Int} (h:qe ids ops row R.length 0 R W) :
  R.length<=ops.length/\(R.length=ops.length<->(ra ids ops).length=ops.length) :=by
 have du:R.length<=ops.length:=by
  have:=s1 (b:=List.range ops.length) h.iB fun x aj=>List.mem_range.2 (h.nb x aj).1
  simpa using this
 refine⟨du,?_⟩;rw[Yy au am];constructor
 ·intro aw i aA;exact (h.nb i (Yk h.iB aw (fun i aA=>(h.nb i aA).1) i aA)).2
 ·intro eG;have eA:∀ i,n0 ids ops i->i<ops.length->i∈R:=by
   intro i az
   induction az with
   | mk i aA aE az aL=>
    intro aP;rw[h.r i aP,h.w i aP,List.take_length];have CQ:=(OJ am h.iB (fun a aG=>by have:=(h.nb a aG).1; omega) (c5 ops i)).2.2 fun p oG=>by
     obtain⟨ct,eo⟩:=List.mem_iff_getElem?.1 (aE p oG);exact⟨ct,aL p oG ct eo (by have:=(List.getElem?_eq_some_iff.1 eo).1; omega),hW eo⟩
    rw[CQ];simp
  have:=s1 (a:=List.range ops.length) (b:=R) List.nodup_range fun i aA=>eA i (eG i (List.mem_range.1 aA)) (List.mem_range.1 aA)
  simp at this;omega
structure kb (l:av) (vs:List ae) (cv:List (List Nat)) (da:Nat->Nat) :Prop where
 mT:vs.length=cv.length
 own:∀ (a:Nat) (v:ae) (row:List Nat),vs[a]? = some v->cv[a]? = some row->bX 1 l v (da a) (row.map gY)/\cU v=row.isEmpty/\(row=[]\/3<=da a)
 apart:∀ (a b:Nat) (k5 mh:List Nat),a≠b->cv[a]? = some k5->cv[b]? = some mh->k5≠[]->mh≠[]->da a≠da b
def m2 (cv:List (List Nat)) (da:Nat->Nat) (b:Nat) :Prop:=∀ (a:Nat) (row:List Nat),cv[a]? = some row->row≠[]->da a≠b
theorem kb.lt {l:av} {vs:List ae} {cv:List (List Nat)} {da:Nat->Nat} (h:kb l vs cv da) {a:Nat} {row:List Nat} (aC:cv[a]? = some row) (bY:row≠[]) :da a<l.length:=by
 have aG:a<vs.length:=by rw[h.mT]; exact (List.getElem?_eq_some_iff.1 aC).1
 obtain⟨o,n,_⟩:=h.own a vs[a] row (List.getElem?_eq_getElem aG) aC;rcases o.lt with h1 | h1
 ·rw[h1] at n;cases row with
  | nil=>exact absurd rfl bY
  | cons=>cases n
 ·exact h1
theorem kb.frame {l l' : av} {vs:List ae} {cv:List (List Nat)} {da:Nat->Nat} (h:kb l vs cv da) (aI:∀ b,b<l.length->(∃ a row,cv[a]? = some row/\row≠[]/\da a=b)->l'[b]? = l[b]?) :kb l' vs cv da:=by
 refine⟨h.mT,fun a v row ax aC=>?_,h.apart⟩;obtain⟨o,n,t⟩:=h.own a v row ax aC;refine⟨?_,n,t⟩;by_cases bY:row=[]
 ·subst bY;have:=iW.1 n;subst this;exact .nil _
 ·exact o.frame fun au=>aI _ au ⟨a,row,aC,bY,rfl⟩
theorem kb.more {l:av} {vs:List ae} {cv:List (List Nat)} {da:Nat->Nat} (h:kb l vs cv da) (x:av) :kb (l++x) vs cv da:=h.frame fun b ai _=>List.getElem?_append_left ai
theorem kb.app {l:av} {vs:List ae} {cv:List (List Nat)} {da:Nat->Nat} (h:kb l vs cv da) {a k b:Nat} {v:ae} {row:List Nat} (ax:vs[a]? = some v) (aC:cv[a]? = some row) (ai:l[b]? = some (.cells 1 [.int .i64 (k:Int)])) (ap:3<=l.length) (dy:(row.length+1)*8<=cT) :
  ∃ bf l' AO,iL l 1 8 v (.ao 1 b 0 1 1 1)=some (bf,l')/\kb l' (vs.set a bf) (cv.set a (row++[k])) AO/\l.length<=l'.length/\bf.cells=some [bf] ∧
   ∀ c,c<l.length->m2 cv da c->l'[c]? = l[c]?/\m2 (cv.set a (row++[k])) AO c:=by
 obtain⟨o,n,t⟩:=h.own a v row ax aC;have gy:a<cv.length:=(List.getElem?_eq_some_iff.1 aC).1;obtain⟨j,Yq,k1,KN,Wr⟩:∃ j,bX 1 l v j (row.map gY)/\3<=j/\(∀ eL sX,eL≠a->cv[eL]? = some sX->sX≠[]->da eL≠j)/\∀ c,c<l.length->m2 cv da c->j≠c:=by
  by_cases bY:row=[]
  ·subst bY;have:=iW.1 n;subst this;exact⟨l.length,.nil _,ap,fun eL sX _ jp vO=>by have:=h.lt jp vO; omega,fun c al _=>by omega⟩
  ·exact⟨da a,o,t.resolve_left bY,fun eL sX VA jp vO=>h.apart eL a sX row VA jp aC vO bY,fun c _ ay=>ay a row aC bY⟩
 obtain⟨bf,ct,l',aY,a2,bh,bK,bw,cl⟩:=m5 (by_:=8) Yq (x:=.ao 1 b 0 1 1 1) (xs:=[gY k]) (by simp[dv,ai,gY]) (by simp[gY]) (by omega) (by omega) (by simpa using dy);have he:cU bf=false:=by
  cases aN:cU bf with
  | true=>have:=(cl.1 (iW.1 aN)).2; cases this
  | false=>rfl
 refine⟨bf,l',fun x=>if x=a then ct else da x,aY,⟨by simp[h.mT],fun x w Ot bB jp=>?_,fun x y uC acn nB aj aK nr JO=>?_⟩,bh,a2.cells,fun c al ay=>⟨bK c al (fun e=>Wr c al ay e.symm),fun x uC aj nr=>?_⟩⟩
 ·by_cases jt:x=a
  ·subst jt;rw[List.getElem?_set_self (by rw[h.mT]; exact gy)] at bB;rw[List.getElem?_set_self gy] at jp;obtain rfl:=Option.some.inj bB;obtain rfl:=Option.some.inj jp;simp only[if_true];refine⟨by rw[List.map_append]; exact a2,by rw[he]; simp,.inr ?_⟩;rcases bw with e | e<;>omega
  ·rw[List.getElem?_set_ne (Ne.symm jt)] at bB jp;simp only[if_neg jt];obtain⟨c0,gB,fJ⟩:=h.own x w Ot bB jp;refine⟨?_,gB,fJ⟩;by_cases bY:Ot=[]
   ·subst bY;have:=iW.1 gB;subst this;exact .nil _
   ·exact c0.frame fun au=>bK _ au (KN x Ot jt jp bY)
 ·by_cases jt:x=a
  ·subst jt;rw[List.getElem?_set_ne nB] at aK;simp only[if_true,if_neg (Ne.symm nB)];have:=h.lt aK JO;have:=KN y acn (Ne.symm nB) aK JO;rcases bw with e | e<;>omega
  ·rw[List.getElem?_set_ne (Ne.symm jt)] at aj;simp only[if_neg jt];by_cases Ks:y=a
   ·subst Ks;simp only[if_true];have:=h.lt aj nr;have:=KN x uC jt aj nr;rcases bw with e | e<;>omega
   ·rw[List.getElem?_set_ne (Ne.symm Ks)] at aK;simp only[if_neg Ks];exact h.apart x y uC acn nB aj aK nr JO
 ·by_cases jt:x=a
  ·subst jt;simp only[if_true];have:=Wr c al ay;rcases bw with e | e<;>omega
  ·rw[List.getElem?_set_ne (Ne.symm jt)] at aj;simp only[if_neg jt];exact ay x uC aj nr
end Op
end Go.cn

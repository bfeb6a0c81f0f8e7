/-
  op.Message: walked.
-/
import Derived.Test.YtobphgccoalchaaGreatDoorDi
set_option linter.unusedVariables false
set_option linter.unusedSimpArgs false
set_option linter.unnecessarySimpa false
namespace Go.ct
open Go Go.Proofs
set_option maxRecDepth 100000
namespace Op
open hK
def hM (o:bJ) :bJ:={ o with e:=0#32,s:=0#32 }
theorem adc (o:bJ) (ax:ic o) (hk:fZ (hM o)=0) {l:aw} {K:ad->aw->Prop} (bA:∀ w l',cA 1 cu l l' w (lc o) false->K (.b5 [w,.int .i64 0]) l') :
  dS Tryz.prog GS 147 [.aM (bn o)] l (c:=⟨K⟩) :=by
 apply bw afI aqo;unfold Pr Zk;have aC:c4=140737488355328:=rfl;have Kj:=iQ o.g9.toNat
 have sB:=iQ o.dj.toNat
 have hu:=Dj ax.ids;have dC:ic (hM o) :=⟨ax.ids,ax.len,ax.val,ax.key⟩
 have cU:=HH (hM o) dC;rw[hk] at cU;have sw:o.bN.l.length<=4:=wc (o:=hM o) hk;have F3:eH o.bN.l=true:=by
  unfold fZ at hk;have a2:(hM o).bN=o.bN:=rfl;rw[a2,if_neg (by omega)] at hk;cases aq:eH o.bN.l with
  | true=>rfl
  | false=>rw[aq] at hk; cases hk
 have x6:(BitVec.setWidth 64 o.g9).toNat=o.g9.toNat:=by rw[aC5]; exact aC1 (by have:=o.g9.isLt; omega)
 have ak7:=i6 (hM o);have aP:l.length<(l++[bp.cells 11 (bn (hM o))]).length:=by simp
 have e9:(l++[bp.cells 11 (bn (hM o))])[l.length]? = some (.cells 11 (bn (hM o))) :=by simp
 simp[bn];refine a8 cU (show a7 [ad.aM (bn (hM o))]=true by simp[a7,ad.closed,ak7]) ?_;simp;refine avZ o.bN ax.ids (by omega) F3 fun cb l1 h1=>?_
 have qi:l1[l.length]? = some (.cells 11 (bn (hM o))) :=by rw[h1.same _ aP]; exact e9
 have qa:l.length<l1.length:=by have:=h1.le; simp at this; omega
 have x1:=qi;simp[bn,hM] at x1;have amv:(l1++[bp.cells 1 [ad.int .u8 111]])[l.length]? = some (.cells 11 (bn (hM o))) :=by rw[aCK qa]; exact qi
 have ay2:l.length<(l1++[bp.cells 1 [ad.int .u8 111]]).length:=by simp; omega
 have UZ:=amv;simp[bn,hM] at UZ;simp[UZ];have amA:(l1++[bp.cells 1 [ad.int .u8 111],bp.cells 1 [ad.int .u8 (u o.act.kind)]])[l.length]? = some (.cells 11 (bn (hM o))) :=by rw[aCK qa]; exact qi
 have amw:(l1++[bp.cells 1 [ad.int .u8 111],bp.cells 1 [ad.int .u8 (u o.act.kind)]])[l1.length]? = some (.cells 1 [.int .u8 111]) :=by simp
 have vJ:(l1++[bp.cells 1 [ad.int .u8 111],bp.cells 1 [ad.int .u8 (u o.act.kind)]])[l1.length+1]? = some (.cells 1 [.int .u8 (u o.act.kind)]) :=by simp
 have m3:(l1++[bp.cells 1 [ad.int .u8 111],bp.cells 1 [ad.int .u8 (u o.act.kind)]]).length=l1.length+2:=by simp
 refine yN _ fun w2 cf ag=>?_
 rw[x6] at ag;have FS:=ag.le;rw[m3] at FS;have sC:cf[l.length]? = some (.cells 11 (bn (hM o))) :=by rw[ag.same _ (by rw[m3]; omega)]; exact amA
 have Tl:cf[l1.length]? = some (.cells 1 [.int .u8 111]) :=by rw[ag.same _ (by rw[m3]; omega)]; exact amw
 have Tm:cf[l1.length+1]? = some (.cells 1 [.int .u8 (u o.act.kind)]) :=by rw[ag.same _ (by rw[m3]; omega)]; exact vJ
 have rj:=sC;simp[bn,hM] at rj;simp[rj,Tl,Tm];refine yN _ fun eF fb aq=>?_
 have UC:=aq.le;have df:fb[l.length]? = some (.cells 11 (bn (hM o))) :=by rw[aq.same _ (by omega)]; exact sC
 have Tn:fb[l1.length]? = some (.cells 1 [.int .u8 111]) :=by rw[aq.same _ (by omega)]; exact Tl
 have To:fb[l1.length+1]? = some (.cells 1 [.int .u8 (u o.act.kind)]) :=by rw[aq.same _ (by omega)]; exact Tm
 have vH:=df;simp[bn,hM] at vH;simp[vH,Tn,To,h1.cells,ag.cells,aq.cells,bO];obtain⟨L,e0⟩:∃ L,L=fb++[bp.cells 5 [.av 1 l1.length 0 1 1 1,w2,cb,eF,.av 1 (l1.length+1) 0 1 1 1]] :=⟨_,rfl⟩
 have xt:fb.length<=L.length:=by rw[e0]; simp
 have pZ:∀ b,b<fb.length->L[b]? = fb[b]?:=fun b ai=>by rw[e0,aCK ai]
 have Jn:L[fb.length]? = some (.cells 5 [.av 1 l1.length 0 1 1 1,w2,cb,eF,.av 1 (l1.length+1) 0 1 1 1]) :=by rw[e0]; simp
 rw[<-e0];have HS:nx L (.av 1 l1.length 0 1 1 1) [111#8] :=Ye (by rw[pZ _ (by omega)]; exact Tn);have adV:nx L (.av 1 (l1.length+1) 0 1 1 1) [o.act.kind] :=Ye (by rw[pZ _ (by omega)]; exact To);have HT:nx L w2 (e3 o.g9.toNat) :=((AJ ag).frame UC aq.same).frame xt pZ;have HU:nx L cb (rs o.bN.l) :=((((AJ h1).frame (l1:=l1++[bp.cells 1 [ad.int .u8 111],bp.cells 1 [ad.int .u8 (u o.act.kind)]]) (by rw[m3]; omega) (fun b ai=>aCK ai)).frame (by rw[m3]; exact FS) ag.same).frame UC aq.same).frame xt pZ;have adU:nx L eF (e3 o.dj.toNat) :=(AJ aq).frame xt pZ;have UU:L[l.length]? = some (.cells 11 (bn (hM o))) :=by rw[pZ _ (by omega)]; exact df
 obtain⟨M,nI⟩:∃ M,M=jr [[111#8],e3 o.g9.toNat,rs o.bN.l,e3 o.dj.toNat,[o.act.kind]] :=⟨_,rfl⟩
 have Jr:M=[111#8]++e3 o.g9.toNat++rs o.bN.l++e3 o.dj.toNat++[o.act.kind] :=by rw[nI]; simp[jr]
 have akv:M.length<=40000:=by rw[Jr]; simp only[aCS,aC6,aDx]; omega
 have Jq:M.length≠0:=by rw[Jr]; simp
 refine Sa (bs:=[[111#8],e3 o.g9.toNat,rs o.bN.l,e3 o.dj.toNat,[o.act.kind]]) Jn rfl rfl ?_ (by rw[<-nI]; omega) (by omega) fun n5 j3 aH=>?_
 ·intro k w s hw ap;rcases k with _ | _ | _ | _ | _ | k
  ·obtain rfl:=Option.some.inj hw; obtain rfl:=Option.some.inj ap; exact HS
  ·obtain rfl:=Option.some.inj hw; obtain rfl:=Option.some.inj ap; exact HT
  ·obtain rfl:=Option.some.inj hw; obtain rfl:=Option.some.inj ap; exact HU
  ·obtain rfl:=Option.some.inj hw; obtain rfl:=Option.some.inj ap; exact adU
  ·obtain rfl:=Option.some.inj hw; obtain rfl:=Option.some.inj ap; exact adV
  ·cases hw
 rw[<-nI,decide_eq_false Jq] at aH;have aku:l.length<=L.length:=by omega
 have lX:cA 1 cu l j3 n5 M false:=aH.base aku fun b ai=>by
  have fo:b<l1.length:=by omega
  rw[pZ b (by omega),aq.same b (by omega),ag.same b (by rw[m3]; omega),aCK fo,h1.same b (by simp; omega),aCK ai]
 have FX:j3[l.length]? = some (.cells 11 (bn (hM o))) :=by rw[aH.same _ (by omega)]; exact UU
 have alZ:l.length<j3.length:=fW FX;have z1:=FX;simp[bn,hM] at z1;have dH:lc o=M++(if o.act.kind=1#8 then [] else jI (fQ o.act.key))++(if o.act.kind=4#8 then jK o.act.val else []) :=by rw[Jr]; rfl
 have k3:=A6 (fQ o.act.key);rw[qG] at k3;have J9:=ax.key;have mD:=Ea o.act.val;have amZ:=ax.val.2.2;have ak:w7 (.str o.act.key)=some (.cr 1 ((fQ o.act.key).map cu)) :=by
  show some (ad.cr 1 (o.act.key.map fun b=>[jR b]))=_;rw[Hv]
 by_cases cT:o.act.kind=1#8
 ·have a2:(u o.act.kind:Int)=1:=(i5 o.act.kind).2 cT;have ie:¬ o.act.kind=4#8:=by rw[cT]; decide
  rw[if_pos cT,if_neg ie,aDl,aDl] at dH;simp[z1,a2];exact bA _ _ (by rw[dH]; exact lX)
 ·have a2:¬ (u o.act.kind:Int)=1:=fun h=>cT ((i5 o.act.kind).1 h)
  rw[if_neg cT] at dH;simp[z1,a2,ak];refine adb (some (fQ o.act.key)) (by simpa [qG] using J9) (by simp[dL]) (by simp) (fun l' _ _=>by simp[dL]) fun HG mb fl=>?_
  obtain⟨avS,Lw,a9,u3,_⟩:=(lX.frame fl.le fl.same).app (by_:=1) (x:=HG) (xs:=jI (fQ o.act.key)) fl.contents (by simp[cu]) (by omega) (by omega) (by rw[aC]; omega);have aev:=(aH.frame fl.le fl.same).app (by_:=1) (x:=HG) (xs:=jI (fQ o.act.key)) fl.contents (by simp[cu]) (by omega) (by omega) (by rw[aC]; omega);obtain⟨aCF,aAE,NL,ahW,_⟩:=aev;rw[a9] at NL;obtain⟨rfl,rfl⟩:=Prod.mk.inj (Option.some.inj NL);have Kt:Lw[l.length]? = some (.cells 11 (bn (hM o))) :=by rw[ahW.same _ (by omega)]; exact UU
  have x3:=Kt;simp[bn,hM] at x3;simp[a9];refine dx.c6 ?_;simp only[aDJ] at u3;by_cases ie:o.act.kind=4#8
  ·have j8:(u o.act.kind:Int)=4:=(wD o.act.kind).2 ie;rw[if_pos ie] at dH;have vx:kP o.act=true:=by
    cases h:kP o.act with
    | true=>rfl
    | false=>
     unfold fZ at hk;have b7:(hM o).bN=o.bN:=rfl;have dG:(hM o).act=o.act:=rfl;rw[b7,if_neg (by omega),F3,if_pos rfl] at hk;unfold tJ at hk;rw[dG,h] at hk;simp at hk
   rw[Bl ie,aCQ] at vx;simp[x3,j8];refine awa o.act.val ax.val vx.2 fun No an9 mr=>?_
   obtain⟨avR,aoa,H4,Ib,_⟩:=(u3.frame mr.le mr.same).app (by_:=1) (x:=No) (xs:=jK o.act.val) mr.contents (by simp[cu]) (by omega) (by omega) (by rw[aC]; simp only[aCS]; omega);simp[H4];refine dx.c6 ?_;simp;exact bA _ _ (by rw[dH]; exact Ib)
  ·have j8:¬ (u o.act.kind:Int)=4:=fun h=>ie ((wD o.act.kind).1 h)
   rw[if_neg ie,aDl] at dH;simp[x3,j8];exact bA _ _ (by rw[dH]; exact u3)
theorem Oh {o:bJ} (h:fZ o=0) :fZ (hM o)=0:=by
 unfold fZ at h ⊢;have a2:(hM o).bN=o.bN:=rfl;rw[a2];have aA:tJ o=true->tJ (hM o)=true:=by
  unfold tJ hM;simp only[aCQ];rintro⟨a,b,c,d,e⟩;exact⟨a,b,c,by decide,by decide⟩
 split at h
 ·cases h
 ·rename_i h1;rw[if_neg h1];split at h
  ·rename_i ag;rw[if_pos ag];split at h
   ·rename_i aq;rw[if_pos (aA aq)]
   ·cases h
  ·cases h
theorem ajm {o:bJ} (h:fZ o=0) :kP o.act=true:=by
 unfold fZ at h;split at h
 ·cases h
 ·split at h
  ·split at h
   ·rename_i aq;unfold tJ at aq;simp only[aCQ] at aq;exact aq.2.2.1
   ·cases h
  ·cases h
theorem Lo {s:List UInt8} (h:hz s=true) :s.length<=20:=by
 unfold hz at h;simp only[aCQ,decide_eq_true_eq] at h;omega
theorem Sw {o:bJ} (ax:ic o) (h:fZ o=0) :(iu o).length<=1000:=by
 have h1:=iQ o.g9.toNat
 have ag:=iQ o.dj.toNat
 have aq:=Dj ax.ids;have aH:=A6 (fQ o.act.key);rw[qG] at aH;have bM:=Ea o.act.val;have aF:=wc h;have au:=iQ o.e.toNat
 have ap:=iQ o.s.toNat
 have aD:=ajm h;have aW:(if o.act.kind=1#8 then [] else jI (fQ o.act.key)).length<=100:=by
  split
  ·simp
  ·rename_i cT;have:o.act.key.length<=20:=by
    by_cases dF:o.act.kind=2#8
    ·rw[El dF,aCQ] at aD; exact Lo aD.1
    ·by_cases kS:o.act.kind=3#8
     ·rw[H6 kS,aCQ] at aD; exact Lo aD.1
     ·by_cases ie:o.act.kind=4#8
      ·rw[Bl ie,aCQ] at aD; exact Lo aD.1
      ·rw[H7 cT dF kS ie] at aD; cases aD
   omega
 have bg:(if o.act.kind=4#8 then jK o.act.val else []).length<=100:=by
  split
  ·rename_i ie;rw[Bl ie,aCQ] at aD;have ay:=aD.2;have:o.act.val.text.length<=30:=by
    by_cases cn:o.act.val.kind=1#8
    ·rw[Ni cn] at ay;simp only[aCQ,decide_eq_true_eq] at ay;rw[ay.2]; simp
    ·by_cases cc:o.act.val.kind=2#8
     ·rw[Nj cc] at ay;simp only[aCQ,decide_eq_true_eq] at ay;rw[ay.2.2]; simp
     ·by_cases dP:o.act.val.kind=3#8
      ·by_cases ar:o.act.val.text.length<=30
       ·exact ar
       ·rw[ac7 dP] at ay;unfold s9 at ay;rw[if_neg ar] at ay;simp only[aCQ,decide_eq_true_eq,jN] at ay;have:=ay.1;rw[dP] at this;exact absurd this (by decide)
      ·rw[Nk cn cc dP] at ay; cases ay
   omega
  ·simp
 unfold iu lc opHead;simp only[aCS,aC6,aDx];omega
theorem avW (o:bJ) (ax:ic o) (hk:fZ o=0) {l:aw} {K:ad->aw->Prop} (bA:∀ w l',cA 1 cu l l' w (iu o) false->K (.b5 [w,.int .i64 0]) l') :
  dS Tryz.prog GS 144 [.aM (bn o)] l (c:=⟨K⟩) :=by
 apply bw Po Zh;unfold Io Mc;have cU:=HH o ax;rw[hk] at cU;have eB:=i6 o;have jZ:=Sw ax hk;have jy:(BitVec.setWidth 64 o.e).toNat=o.e.toNat:=by rw[aC5]; exact aC1 (by have:=o.e.isLt; omega)
 have oy:(BitVec.setWidth 64 o.s).toNat=o.s.toNat:=by rw[aC5]; exact aC1 (by have:=o.s.isLt; omega)
 have aP:l.length<(l++[bp.cells 11 (bn o)]).length:=by simp
 have e9:(l++[bp.cells 11 (bn o)])[l.length]? = some (.cells 11 (bn o)) :=by simp
 simp[bn];refine a8 cU (show a7 [ad.aM (bn o)]=true by simp[a7,ad.closed,eB]) ?_;simp;refine adc o ax (Oh hk) fun cb l1 h1=>?_
 have qi:l1[l.length]? = some (.cells 11 (bn o)) :=by rw[h1.same _ aP]; exact e9
 have qa:l.length<l1.length:=fW qi;have x1:=qi;simp[bn] at x1;simp[x1];refine yN _ fun w2 cf ag=>?_
 rw[jy] at ag;have sC:cf[l.length]? = some (.cells 11 (bn o)) :=by rw[ag.same _ qa]; exact qi
 have rj:=sC;simp[bn] at rj;simp[rj];refine yN _ fun eF fb aq=>?_
 rw[oy] at aq;simp[h1.cells,ag.cells,aq.cells,bO];obtain⟨L,e0⟩:∃ L,L=fb++[bp.cells 3 [cb,w2,eF]] :=⟨_,rfl⟩
 have xt:fb.length<=L.length:=by rw[e0]; simp
 have pZ:∀ b,b<fb.length->L[b]? = fb[b]?:=fun b ai=>by rw[e0,aCK ai]
 have Jn:L[fb.length]? = some (.cells 3 [cb,w2,eF]) :=by rw[e0]; simp
 rw[<-e0];have HS:nx L cb (lc o) :=(((AJ h1).frame ag.le ag.same).frame aq.le aq.same).frame xt pZ;have HT:nx L w2 (e3 o.e.toNat) :=((AJ ag).frame aq.le aq.same).frame xt pZ;have HU:nx L eF (e3 o.s.toNat) :=(AJ aq).frame xt pZ;have nI:jr [lc o,e3 o.e.toNat,e3 o.s.toNat]=iu o:=by simp[jr,iu]
 have Jq:(iu o).length≠0:=by unfold iu lc opHead; simp
 refine Sa (bs:=[lc o,e3 o.e.toNat,e3 o.s.toNat]) Jn rfl rfl ?_ (by rw[nI]; omega) (by omega) fun n5 j3 aH=>?_
 ·intro k w s hw ap;rcases k with _ | _ | _ | k
  ·obtain rfl:=Option.some.inj hw; obtain rfl:=Option.some.inj ap; exact HS
  ·obtain rfl:=Option.some.inj hw; obtain rfl:=Option.some.inj ap; exact HT
  ·obtain rfl:=Option.some.inj hw; obtain rfl:=Option.some.inj ap; exact HU
  ·cases hw
 rw[nI,decide_eq_false Jq] at aH;simp;refine bA _ _ (aH.base ?_ fun b ai=>?_)
 ·have:=ag.le; have:=aq.le; omega
 ·have:=ag.le; have:=aq.le;rw[pZ b (by omega),aq.same b (by omega),ag.same b (by omega),h1.same b (by simp; omega),aCK ai]
theorem avV (o:bJ) (ax:ic o) (hk:¬ fZ o=0) :bE Tryz.prog GS 144 [.aM (bn o)] (.b5 [.aK,.int .i64 (fZ o)]) :=by
 refine bS Tryz.checked.mixed bP ?_;apply bw Po Zh;unfold Io Mc;have cU:=HH o ax;have eB:=i6 o;obtain⟨E,fm⟩:∃ E,E=bn o:=⟨_,rfl⟩
 have kU:E.length=11:=by rw[fm]; rfl
 rw[<-fm] at cU eB ⊢;simp[kU,aCI];refine a8 cU (by simp[a7,ad.closed,eB]) ?_;simp[hk];exact aJ rfl rfl
theorem Nq (o:bJ) (ax:ic o) :bE Tryz.prog GS 94 [.aM (bn o)] (.b5 [fL (db o),.int .i64 (fZ o)]) :=by
 refine bS Tryz.checked.mixed bP ?_;apply bw ah1 asJ;unfold RH abB db;have eB:=i6 o;have az:(rep 32 (.int .u8 0) :List ad)=(List.replicate 32 0#8).map bQ:=by simp[rep]
 obtain⟨E,fm⟩:∃ E,E=bn o:=⟨_,rfl⟩
 have kU:E.length=11:=by rw[fm]; rfl
 by_cases aG:fZ o=0
 ·have jZ:=Sw ax aG;have dI:(iR (iu o)).length=32:=uH _;rw[<-fm];simp[kU,aCI];rw[fm];refine avW o ax aG fun cb l1 h1=>?_
  rw[<-fm] at h1;have e9:l1[1]? = some (.cells 32 (rep 32 (.int .u8 0))) :=by rw[h1.same 1 (by simp)]; rfl
  simp;refine i3 (auX (some (iu o)) (by simp; omega)) (.cons (h1.s3 (fun _=>rfl) (some (iu o)) rfl rfl) .nil) (by simp[ad.flat,mn,fL,zl bQ (fun _=>rfl)]) ?_;have uc:bO (rep 32 (.int .u8 0)) 0 ((iR (iu o)).map bQ)=(iR (iu o)).map bQ:=fM (by rw[aCZ,dI]; rfl);have kD:(l1.set 1 (bp.cells 32 ((iR (iu o)).map bQ)))[1]? = some (.cells 32 ((iR (iu o)).map bQ)) :=aC3 (fW e9);simp[e9,fL,dI,uc,kD,aCI];exact aJ (by rw[if_pos aG,aG]) (by simp[ad.closed,a7,lr bQ (fun _=>rfl)])
 ·have T6:=avV o ax aG;rw[<-fm] at T6 eB ⊢;simp[kU,aCI];refine a8 T6 (by simp[a7,ad.closed,eB]) ?_;simp[aG,fL,az];exact aJ rfl (by simp only[ad.closed,a7,lr bQ (fun _=>rfl),aEn])
end Op

end Go.ct

namespace Go.ct
open Go Go.Proofs Go.RowKit
set_option maxRecDepth 100000
namespace Op
open hK
theorem D7 {P:Program} {t:TypeId} {ts:List TypeId} {cs:List ad} (aS:P.underlying t=some .string) (h:ec P (t::ts) cs) :∃ s cs',cs=.str s::cs'/\ec P ts cs':=by
 cases h
 case str s cs' ap qo h=>exact⟨_,_,rfl,h⟩
 all_goals (exfalso; simp_all; done)
theorem acZ {ts:List TypeId} {cs:List ad} (h:ec Tryz.prog (5::ts) cs) :∃ (x:B) (cs' : List ad),cs=bQ x::cs'/\ec Tryz.prog ts cs':=by
 obtain⟨k,w6,rfl,h1,ag,aq⟩:=A7 (k:=.u8) (by kernel_rfl) h;have bd:(0:Int)<=k:=h1;have bM:k<=255:=ag;refine⟨BitVec.ofNat 8 k.toNat,w6,?_,aq⟩;have:((BitVec.ofNat 8 k.toNat).toNat:Int)=k:=by
  rw[aC7,aC1 (by omega)]; omega
 simp[bQ,u]; omega
theorem M8 {ts:List TypeId} {cs:List ad} (h:ec Tryz.prog (48::ts) cs) :∃ (x:List B) (cs' : List ad),cs=x.map bQ++cs'/\x.length=32/\ec Tryz.prog ts cs':=by
 have h1:=acY (e:=5) (n:=32) (by kernel_rfl) h;exact M7 (by kernel_rfl) 32 h1
theorem M9 {ts:List TypeId} {cs:List ad} (h:ec Tryz.prog (22::ts) cs) :∃ (s:eN) (cs' : List ad),cs=bc s::cs'/\gx s/\ec Tryz.prog ts cs':=by
 obtain⟨s,cs',rfl,_,h1,ag⟩:=HB (e:=48) (z:=32) (enc:=a1) (Q:=fun x=>x.length=32) (by kernel_rfl) (by kernel_rfl) (fun r aC=>by
  obtain⟨x,cs',rfl,al,aq⟩:=M8 aC;rw[yK aq,aDl];exact⟨x,rfl,al⟩) h
 exact⟨s,cs',rfl,h1,ag⟩
theorem Na {ts:List TypeId} {cs:List ad} (h:ec Tryz.prog (76::ts) cs) :∃ (x:D) (cs' : List ad),cs=bR x::cs'/\ec Tryz.prog ts cs':=by
 obtain⟨k,w6,rfl,h1,ag,aq⟩:=A7 (k:=.u32) (by kernel_rfl) h;have bd:(0:Int)<=k:=h1;have bM:k<=4294967295:=ag;refine⟨BitVec.ofNat 32 k.toNat,w6,?_,aq⟩;have:((BitVec.ofNat 32 k.toNat).toNat:Int)=k:=by
  rw[aC7,aC1 (by omega)]; omega
 simp[bR,u]; omega
structure H2 (o:bJ) :Prop where
 ids:gx o.bN
 lM:-9223372036854775808<=o.act.val.num
 nl:o.act.val.num<9223372036854775808
theorem ac0 {ts:List TypeId} {cs:List ad} (h:ec Tryz.prog (42::ts) cs) :∃ (v:g7) (cs' : List ad),cs=[bQ v.kind,.int .i64 v.num,dm v.bits,.str v.text]++cs'/\(-9223372036854775808<=v.num/\v.num<9223372036854775808)/\ec Tryz.prog ts cs':=by
 have h1:=tc (fs:=[5,2,40,9]) (by kernel_rfl) h;obtain⟨k,_,rfl,ag⟩:=acZ h1;obtain⟨n,_,rfl,ri,qc,aq⟩:=A7 (k:=.i64) (by kernel_rfl) ag;obtain⟨b,_,rfl,aH⟩:=Nb aq;obtain⟨s,_,rfl,bd⟩:=D7 (by kernel_rfl) aH;have bM:n<=9223372036854775807:=qc;exact⟨⟨k,n,b,s⟩,_,rfl,⟨ri,by show n<9223372036854775808; omega⟩,bd⟩
theorem avp {ts:List TypeId} {cs:List ad} (h:ec Tryz.prog (78::ts) cs) :∃ (a:Act) (cs' : List ad),cs=[bQ a.kind,.str a.key,bQ a.val.kind,.int .i64 a.val.num,dm a.val.bits,.str a.val.text]++cs'/\(-9223372036854775808<=a.val.num/\a.val.num<9223372036854775808)/\ec Tryz.prog ts cs':=by
 have h1:=tc (fs:=[5,9,42]) (by kernel_rfl) h;obtain⟨k,_,rfl,ag⟩:=acZ h1;obtain⟨s,_,rfl,aq⟩:=D7 (by kernel_rfl) ag;obtain⟨v,_,rfl,ay,aH⟩:=ac0 aq;exact⟨⟨k,s,v⟩,_,rfl,ay,aH⟩
theorem avr {ts:List TypeId} {cs:List ad} (h:ec Tryz.prog (82::ts) cs) :∃ (o:bJ) (cs' : List ad),cs=bn o++cs'/\H2 o/\ec Tryz.prog ts cs':=by
 have h1:=tc (fs:=[76,22,40,78,80]) (by kernel_rfl) h;obtain⟨a,_,rfl,ag⟩:=Na h1;obtain⟨p,_,rfl,aF,aq⟩:=M9 ag;obtain⟨n,_,rfl,aH⟩:=Nb aq;obtain⟨c,_,rfl,ak,bd⟩:=avp aH;have bM:=tc (fs:=[76,76]) (by kernel_rfl) bd;obtain⟨x,_,rfl,dq⟩:=Na bM;obtain⟨y,cs',rfl,fl⟩:=Na dq;exact⟨⟨a,p,n,c,x,y⟩,cs',by simp[bn],⟨aF,ak.1,ak.2⟩,fl⟩
theorem avn {ts:List TypeId} {cs:List ad} (h:kO Tryz.prog (9::ts) cs) :∃ (s:List UInt8) (cs' : List ad),cs=.str s::cs'/\kO Tryz.prog ts cs':=by
 obtain⟨c,cs',rfl,h1,ag⟩:=HA h;obtain⟨s,w6,ap,aq⟩:=D7 (by kernel_rfl) (avo (by kernel_rfl) h1);cases ap;exact⟨s,cs',rfl,ag⟩
end Op

end Go.ct

namespace Go.ct
open Go Go.Proofs
set_option maxRecDepth 100000
open hK Op
def G5 (a n:Nat) :Nat->Nat
 | 0=>1
 | k+1=>match Nat.beq (n / 2 ^ (63 - k) % 2) 1 with
  | true=>((G5 a n k) ^ 2 % 1000000007)*a % 1000000007
  | false=>(G5 a n k) ^ 2 % 1000000007
theorem Yj (a n:Nat) (aI:n<2 ^ 64) :∀ k,k<=64->G5 a n k=gn a (n / 2 ^ (64 - k))
 | 0,_=>by
  have:n / 2 ^ (64 - 0)=0:=aD7 aI;rw[this]; rfl
 | k+1,hk=>by
  have aY:=Yj a n aI k (by omega);have ai:=TH n k (by omega);have e:64 - (k+1)=63 - k:=by omega
  rw[e];unfold G5;rw[aY,Nat.pow_two,Yq];split
  ·rename_i h;have h1:=aDP h;rw[Yo,ai,h1]
  ·rename_i h;have h1:n / 2 ^ (63 - k) % 2≠1:=fun aR=>by rw[aR] at h; cases h
   rw[ai];congr 1; omega
end Go.ct

namespace Go.ct
open Go Go.Proofs
set_option maxRecDepth 100000
namespace Op
open hK
section
variable {α:Type} {z:Nat} {enc:α->List ad}
theorem X5 {l:aw} {v:ad} {j k:Nat} {bt:List α} {zr:List ad} (sH:zr.length=z) (h:bW z l v j (bt.map enc)) (hk:k<bt.length) :
  ∃ v3 fb r,g5 (.av z) v (some (.int .i64 (k:Int))) none none=some v3/\tu zr l v3=some fb/\g5 (.av z) v none (some (.int .i64 (k:Int))) none=some r ∧
   bW z fb r j ((bt.take k).map enc)/\cX r=false/\fb.length=l.length/\∀ b,b≠j->fb[b]? = l[b]?:=by
 generalize au:bt.map enc=es at h;cases h with
 | nil j=>rw[aDQ] at au; subst au; simp at hk
 | av j n cap sz cs es ai ar aI az ak dv bT=>
  subst au;have sA:bt.length=n:=by simpa using aI
  have hd:j7 (.int .i64 (k:Int)) n=some k:=by
   show (if 0<=(k:Int)/\(k:Int)<=(n:Int) then some (k:Int).toNat else none)=some k;rw[if_pos ⟨by omega,by omega⟩]; simp
  have gK:j7 (.int .i64 (k:Int)) cap=some k:=by
   show (if 0<=(k:Int)/\(k:Int)<=(cap:Int) then some (k:Int).toNat else none)=some k;rw[if_pos ⟨by omega,by omega⟩]; simp
  have dE:hb n cap (some (.int .i64 (k:Int))) none none=some (k,n,cap) :=by
   show (match j7 (.int .i64 (k:Int)) n with | none=>none | some l=>some (l,n,cap))=_;rw[hd]
  have dA:hb n cap none (some (.int .i64 (k:Int))) none=some (0,k,cap) :=by
   show (match j7 (.int .i64 (k:Int)) cap with | none=>none | some h=>some (0,h,cap))=_;rw[gK]
  have cU:¬ cap=k:=by omega
  have zH:¬ cap=0:=by omega
  have eW:j<l.length:=fW ai;have g2:k*z<=n*z:=aCN _ (by omega);have lG:n*z<=cap*z:=aCN _ ak;have mC:(ey zr (n - k)).length=(n - k)*z:=by rw[AW,sH]
  have al0:k*z+(n - k)*z=n*z:=by rw[<-aDg]; congr 1; omega
  refine⟨.av z j (k*z) (n - k) (cap - k) sz,l.set j (.cells sz (bO cs (k*z) (ey zr (n - k)))),.av z j 0 k cap sz,?_,?_,?_,?_,rfl,by simp,fun b he=>by rw[aCU (fun h=>he h.symm)]⟩
  ·rw[yD,dE]; simp[cU]
  ·unfold tu;simp only;rw[if_neg (by omega)];simp[ai,sH]
  ·rw[yD,dA]; simp[zH]
  ·refine .av j k cap sz _ _ (aC3 eW) (by rw[rJ (by omega),mC]; omega) (by simp; omega) (fun e au=>?_) (by omega) dv ?_
   ·obtain⟨y,aE,rfl⟩:=aC9.1 au;exact az _ (aEi (aDs aE))
   ·unfold bO;rw[aDa,aDb (by rw[aCX]; omega),aEt,Nat.min_self];have a2:cs.take (k*z)=(cs.take (n*z)).take (k*z) :=by rw[aEt,aDE g2]
    have b7:bt.map enc=(bt.take k).map enc++(bt.drop k).map enc:=by rw[<-aDe,aDt]
    have dG:((bt.take k).map enc).flatten.length=k*z:=by
     rw[mo (z:=z) (fun e au=>by obtain⟨y,aE,rfl⟩:=aC9.1 au; exact az _ (aEi (aDs aE)))];rw[aCZ,aCX,aDE (by omega)]
    rw[a2,bT,b7,aDD,aDb (by omega),aCI (by omega)]
theorem X6 {bt:List α} (az:∀ y∈bt,(enc y).length=z) (k:Nat) (hk:k<=bt.length) {n:Nat} (aI:bt.length=n) {cs:List ad} (bT:cs.take (n*z)=(bt.map enc).flatten) (ar:n*z<=cs.length) :
  cs.take (k*z)=((bt.take k).map enc).flatten/\(cs.drop (k*z)).take (n*z - k*z)=((bt.drop k).map enc).flatten:=by
 have g2:k*z<=n*z:=aCN _ (by omega);have b7:bt.map enc=(bt.take k).map enc++(bt.drop k).map enc:=by rw[<-aDe,aDt]
 have dG:((bt.take k).map enc).flatten.length=k*z:=by
  rw[mo (z:=z) (fun e au=>by obtain⟨y,aE,rfl⟩:=aC9.1 au; exact az _ (aDs aE))];rw[aCZ,aCX,aDE (by omega)]
 have a2:cs.take (k*z)=(cs.take (n*z)).take (k*z) :=by rw[aEt,aDE g2]
 constructor
 ·rw[a2,bT,b7,aDD,aDb (by omega),aCI (by omega)]
 ·rw[<-aEW,bT,b7,aDD,aDp (by omega),aDC (by omega),aDq]
theorem yo {l:aw} {v:ad} {j k:Nat} {bt:List α} {x:α} {X:ad} (ce:X.cells=some (enc x)) (h:bW z l v j (bt.map enc)) (az:∀ y∈bt,(enc y).length=z) (hk:k<bt.length) (al:(enc x).length=z) :
  ∃ p l',cC (.av z) v (.int .i64 (k:Int))=some p/\kI z l p (X)=some l'/\bW z l' v j ((bt.set k x).map enc)/\l'.length=l.length/\∀ b,b≠j->l'[b]? = l[b]?:=by
 generalize au:bt.map enc=es at h;cases h with
 | nil j=>rw[aDQ] at au; subst au; simp at hk
 | av j n cap sz cs es ai ar aI j1 ak dv bT=>
  subst au;have sA:bt.length=n:=by simpa using aI
  have eW:j<l.length:=fW ai;have bm:=al;have g2:(k+1)*z<=n*z:=aCN _ (by omega);have lG:n*z<=cap*z:=aCN _ ak;have ap:(k+1)*z=k*z+z:=by rw[aDj]
  obtain⟨f1,_⟩:=X6 az k (by omega) sA bT (by omega);obtain⟨_,f2⟩:=X6 az (k+1) (by omega) sA bT (by omega);refine⟨.ptr j (k*z) sz,l.set j (.cells sz (bO cs (k*z) (enc x))),?_,?_,?_,by simp,fun b he=>by rw[aCU (fun h=>he h.symm)]⟩
  ·simp[cC]; omega
  ·unfold kI;simp[ai,ce,bm];omega
  ·refine .av j n cap sz _ _ (aC3 eW) (by rw[rJ (by omega),bm]; omega) (by simp; omega) (fun e au=>?_) ak dv ?_
   ·obtain⟨y,aE,rfl⟩:=aC9.1 au;rcases aDX aE with h | h
    ·exact az _ h
    ·rw[h]; exact bm
   ·have kD:bt.set k x=bt.take k++(x::bt.drop (k+1)) :=by rw[aD0,if_pos hk]
    rw[kD,aDe,aDc,aDD,aDM,<-f1,<-f2];unfold bO;have t1:(cs.take (k*z)).length=k*z:=by rw[aCX]; omega
    have lk:(cs.take (k*z)).take (n*z)=cs.take (k*z) :=aCI (by rw[t1]; omega);have mQ:(enc x).take (n*z - k*z)=enc x:=aCI (by rw[bm]; omega);rw[aDa,bm,<-ap,aEz,t1,lk,aEz,mQ,bm,show n*z - k*z - z=n*z - (k+1)*z by omega]
end

end Op

end Go.ct

namespace Go.ct
open Go Go.Proofs
set_option maxRecDepth 100000
namespace Op
theorem EX {α:Type} {enc:α->List ad} {z:Nat} {a:List α} (h:∀ x∈a,(enc x).length=z) :(a.map enc).flatten.length=a.length*z:=by
 rw[mo (z:=z) (fun e au=>by obtain⟨y,aE,rfl⟩:=aC9.1 au; exact h y aE),aCZ]
theorem N5 {α:Type} {enc:α->List ad} {z by_:Nat} (l:aw) (s:dX α) (h:∀ x∈s.l,(enc x).length=z) (aG:z≠0) (ai:by_≠0) (aC:s.l.length*by_<=c4) :
  g8 (l++[bp.cells 0 []]) z by_ (.av z l.length 0 0 0 0) (c0 z enc s)=some (.av z l.length 0 s.l.length s.l.length (s.l.length*z),l++[.cells (s.l.length*z) (s.l.map enc).flatten]) :=by
 have e1:=EX h;unfold g8;rw[qX];simp only[];unfold iW;by_cases az:s.l.length=0
 ·have aG:s.l=[] :=aDk.1 az;rw[aG];simp
 ·rw[if_neg az,if_neg (by omega)];have b2:¬ s.l=[] :=fun h=>az (by rw[h]; rfl)
  simp[aC,aG,az,b2]
theorem AO {α:Type} {enc:α->List ad} {z:Nat} {l:aw} {b n:Nat} {a:List α} (aD:∀ x∈a,(enc x).length=z) (aI:a.length=n) (ai:l[b]? = some (.cells (n*z) (a.map enc).flatten)) :bW z l (.av z b 0 n n (n*z)) b (a.map enc) :=by
 have e1:=EX aD;refine .av b n n (n*z) _ _ ai (by rw[e1,aI]) (by simp[aI]) (fun e au=>?_) (aCL _) (aCL _) ?_
 ·obtain⟨y,aE,rfl⟩:=aC9.1 au; exact aD y aE
 ·rw[aCI (by rw[e1,aI]; omega)]
end Op

end Go.ct

namespace Go.ct
open Go Go.Proofs
set_option maxRecDepth 100000
namespace Op
open hK
theorem aee {l:List D} {k:Nat} {x:D} (h:l[k]? = some x) (aF:(l.take k).all gO=true) :(l.take (k+1)).all gO=gO x:=by
 rw[aC4,h,List.all_append,aF]; simp
theorem aec {l:List D} {k:Nat} {x:D} (h:l[k]? = some x) (al:gO x=false) :l.all gO=false:=by
 cases aR:l.all gO with
 | false=>rfl
 | true=>rw[aDO.1 aR x (aCP h)] at al; cases al
structure adu (l:List D) (k:Nat) (ah:bB) (h:aw) :Prop where
 bC:ah 5=c0 1 fj (some l)
 cv:ah 6=.int .i64 l.length
 eU:ah 7=.int .i64 k
 aF:(l.take k).all gO=true
theorem Tc (l:List D) (ar:l.length<=1000) :bE Tryz.prog GS 244 [c0 1 fj (some l)] (.bool (l.all gO)) :=by
 refine bS Tryz.checked.mixed bP ?_;apply bw agT arB;unfold QB aau;have bu:c1 (.av 1) (c0 1 fj (some l))=some (.int .i64 l.length) :=rr _;simp[bu];refine c2 l.length (adu l) ?_ ⟨by simp,by simp,by simp,by simp⟩;rintro k ah h hk ⟨bC,cv,eU,aF⟩;obtain⟨ah,rfl⟩:=jJ bC cv eU;clear bC cv eU;unfold WJ;by_cases h:k<l.length
 ·obtain⟨x,al,_⟩:=bV h;have bZ:cC (.av 1) (c0 1 fj (some l)) (.int .i64 k)=some (.cm (fj x) 0) :=by rw[sI]; simp[al]
  have fP:IntKind.i64.wrap ((k:Int)+1)=(k+1:Nat) :=wrap_i64 (by omega) (by omega);simp[h,bZ,fj];refine a8 (Lc x) rfl ?_;cases aA:gO x with
  | false=>
   have:=aec al aA;simp;exact aJ (by rw[this]) rfl
  | true=>
   simp[fP];exact⟨by omega,by simp,by simp,by simp,by rw[aee al aF]; exact aA⟩
 ·have fE:k=l.length:=by omega
  subst fE;rw[aDi] at aF;simp;exact aJ (by rw[aF]) rfl
theorem atw {l:aw} {b:Nat} {x:D} (h:l[b]? = some (.cells 1 [bR x])) :gH (cj l) (.av 1 b 0 1 1 1) (c0 1 fj (some [x])) :=by
 refine DL (rest:=[]) (es:=[[bR x]]) (by simpa using h) rfl (by simp) (by simp[a7,ad.closed])
def DC (a b:D) :D:=BitVec.ofNat 32 (a.toNat*b.toNat % 1000000007)
theorem ajV (a b:D) :bE Tryz.prog GS 204 [bR a,bR b] (.b5 [bR (if gO a&&gO b then DC a b else 0#32),.int .i64 (if gO a&&gO b then 0 else 2)]) :=by
 refine bS Tryz.checked.mixed bP ?_;apply bw ags aq7;unfold P9 Z1;simp;refine i3 (Tc [a,b] (by simp)) (.cons (DM (by simp)) .nil) rfl ?_;cases aD:gO a with
 | false=>
  simp[aD];exact aJ rfl rfl
 | true=>
  cases ai:gO b with
  | false=>
   simp[aD,ai];exact aJ rfl rfl
  | true=>
   have aP:a.toNat<1000000007:=by unfold gO at aD; simp at aD; exact aD.1.2
   simp[aD,ai];refine i3 (LM [a,b] (by simp)) (.cons (.same _ rfl) (.cons (DM (by simp)) .nil)) rfl ?_;simp[LL a b aP];exact aJ rfl rfl
theorem ajW (a:D) (n:Q) :bE Tryz.prog GS 203 [bR a,dm n] (.b5 [bR (if gO a then hA a n.toNat else 0#32),.int .i64 (if gO a then 0 else 2)]) :=by
 refine bS Tryz.checked.mixed bP ?_;apply bw agr aq6;unfold P8 Z0;simp;refine i3 (Tc [a] (by simp)) (.cons (atw (by simp)) .nil) rfl ?_;cases aD:gO a with
 | false=>
  simp[aD];exact aJ rfl rfl
 | true=>
  simp[aD];refine a8 (L7 a n) rfl ?_;simp;exact aJ rfl rfl
theorem ajU (n:Q) :bE Tryz.prog GS 205 [dm n] (bR (hA 4#32 n.toNat)) :=by
 refine bS Tryz.checked.mixed bP ?_;apply bw agt aq8;unfold Qa Z2;simp;refine a8 (L7 4#32 n) rfl ?_;simp;exact aJ rfl rfl
theorem Mk (a:D) (n:Q) :bE Tryz.prog GS 177 [bR a,dm n] (bR (hA a n.toNat)) :=by
 refine bS Tryz.checked.mixed bP ?_;apply bw af9 aqP;unfold PQ ZK;have bd:(a.setWidth 64:Q).toNat=a.toNat:=by rw[aC5]; omega
 have bM:=yq a.toNat n.toNat
 have dq:(BitVec.ofNat 64 (gn a.toNat n.toNat)).setWidth 32=hA a n.toNat:=by
  apply aCV;rw[sZ,aC5,aC7];omega
 have aF:=Yr (a.setWidth 64) n (by rw[bd]; exact a.isLt);rw[bd] at aF;simp;refine a8 aF rfl ?_;simp[dq];exact aJ rfl rfl
theorem asP (n:Q) :bE Tryz.prog GS 166 [dm n] (bR (hA 4#32 n.toNat)) :=by
 refine bS Tryz.checked.mixed bP ?_;apply bw af0 aqG;unfold PH ZC;simp;refine a8 (Mk 4#32 n) rfl ?_;simp;exact aJ rfl rfl
theorem asY (a:D) :bE Tryz.prog GS 176 [bR a] (.b5 [bR (if gO a then hA a 500000002 else 0#32),.int .i64 (if gO a then 0 else 2)]) :=by
 refine bS Tryz.checked.mixed bP ?_;apply bw af8 aqO;unfold PP ZJ;simp;refine a8 (abY a) rfl ?_;cases aD:gO a with
 | false=>
  simp;exact aJ rfl rfl
 | true=>
  simp;refine a8 (Mk a 500000002#64) rfl ?_;simp;exact aJ rfl rfl
theorem as3 (a b:D) :bE Tryz.prog GS 178 [bR a,bR b] (bR (DC a b)) :=by
 refine bS Tryz.checked.mixed bP ?_;apply bw aga aqQ;unfold PR ZL;have bd:∀ a:D,(a.setWidth 64:Q).toNat=a.toNat:=fun a=>by rw[aC5]; omega
 have dq:((a.setWidth 64:Q)*b.setWidth 64 % 1000000007#64).setWidth 32=DC a b:=by
  apply aCV;rw[aC5,AF _ _ (by rw[bd]; exact a.isLt) (by rw[bd]; exact b.isLt),bd,bd];unfold DC;rw[aC7]
 simp[Hg,dq];exact aJ rfl rfl
def u5 (l:List B) :Q:=l.foldl (fun n x=>(n <<< 8) ||| x.setWidth 64) 0#64
theorem Oq (l:List B) (k:Nat) (x:B) (h:l[k]? = some x) :u5 (l.take (k+1))=(u5 (l.take k) <<< 8) ||| x.setWidth 64:=by
 rw[aC4,h]; simp[u5,aFf]
theorem auj (a:Q) (x:B) :(a <<< 8) ||| x.setWidth 64=256#64*a+x.setWidth 64:=by
 apply aCV;have al:x.toNat<256:=x.isLt;have aD:=a.isLt;rw[BitVec.toNat_or,aD6,aFW,aEJ,aC5];have h1:x.toNat % 2 ^ 64=x.toNat:=aC1 (by omega);have ag:a.toNat <<< 8 % 2 ^ 64=(a.toNat % 2 ^ 56) <<< 8:=by rw[aD3,aD3]; omega
 have aq:=aFx (b:=x.toNat) (i:=8) (by omega) (a.toNat % 2 ^ 56);rw[h1,ag,<-aq,aD3];have aH:(256#64).toNat=256:=rfl;rw[aH];omega
def jU (n:D) :List B:=[(n >>> 24).setWidth 8,(n >>> 16).setWidth 8,(n >>> 8).setWidth 8,n.setWidth 8]
def mq (l:List D) :List B:=l.flatMap jU
theorem ajQ {l:List D} {k:Nat} {x:D} (h:l[k]? = some x) :mq (l.take (k+1))=mq (l.take k)++jU x:=by
 unfold mq; rw[aC4,h,aEL]; simp
theorem SY (l:List D) :(mq l).length=4*l.length:=by
 induction l with
 | nil=>rfl
 | cons x l aY=>unfold mq at aY ⊢; rw[List.flatMap_cons,aCS,aY,aC6]; simp[jU]; omega
def Ch (b:List B) :Q:=u5 ((iR b).take 8)
theorem atx {l:aw} {b:Nat} {v m bl cV:ad} (h:l[b]? = some (.cells 2 [v,m])) (h1:gH (cj l) v bl) (ag:gH (cj l) m cV) :gH (cj l) (.av 1 b 0 2 2 2) (.cr 1 [[bl],[cV]]) :=by
 refine .av 1 b 0 2 2 2 [v,m] [[bl],[cV]] (ln.2 h) rfl (by simp) (by simp) (fun i j e c c' au am ak=>?_);rcases i with _ | _ | i
 ·simp at au; subst au;rcases j with _ | j
  ·simp at am ak; subst am ak; exact h1
  ·simp at am
 ·simp at au; subst au;rcases j with _ | j
  ·simp at am ak; subst am ak; exact ag
  ·simp at am
 ·simp at au
theorem auu {b:Nat}:g5 (.arr 32 1) (.ptr b 0 32) none (some (.int .i64 8)) none=some (.av 1 b 0 8 32 32) :=by
 have:hb 32 32 none (some (.int .i64 8)) none=some (0,8,32) :=rfl;simp only[g5,this]; rfl
structure adL (hh:B) (m:fH) (fz:List D) (k:Nat) (ah:bB) (l:aw) :Prop where
 aW:ah 1=da m
 tG:ah 21=c0 1 fj (some fz)
 I1:ah 22=.int .i64 fz.length
 zp:ah 23=.int .i64 k
 ex:∃ v,ah 8=v/\cA 1 cu [] l v (hh::mq (fz.take k)) false
structure adv (d:List B) (e:Int) (k:Nat) (ah:bB) (l:aw) :Prop where
 g1:ah 12=.int .i64 e
 jt:ah 13=dm (u5 (d.take k))
 I2:∃ b n,ah 49=.av 1 b 0 8 n n/\l[b]? = some (.cells n (d.map bQ))/\n=32
 I3:ah 50=.int .i64 8
 I4:ah 51=.int .i64 k
set_option maxHeartbeats 1000000 in
theorem akL (hh:B) (m:fH) (hm:m.l.length<=9991) (fz:List D) (ar:fz.length<=10) :bE Tryz.prog GS 246 [bQ hh,da m,c0 1 fj (some fz)] (.b5 [dm (Ch (hh::(mq fz++m.l))),.int .i64 0]) :=by
 refine bS Tryz.checked.mixed bP ?_;apply bw agV arD;unfold QD aaw;have aC:c4=140737488355328:=rfl;have bu:c1 (.av 1) (da m)=some (.int .i64 m.l.length) :=rr _;have alW:c1 (.av 1) (c0 1 fj (some fz))=some (.int .i64 fz.length) :=rr _;have fC:¬ (9991:Int)<(m.l.length:Int) :=by omega
 have q2:¬ 9991<m.l.length:=by omega
 have hs:=mY m;simp[bu,alW,fC,q2];refine c2 fz.length (adL hh m fz) ?_ ⟨by simp,by simp,by simp,by simp,_,rfl,⟨0,pt (n:=1) (a:=[hh]) rfl rfl,by simp,by simp,.inr (by simp),rfl⟩⟩;rintro k ah l hk ⟨aW,tG,I1,zp,v,et,dC⟩;obtain⟨ah,rfl⟩:=mR aW et tG I1 zp;clear aW et tG I1 zp;unfold WL;by_cases h:k<fz.length
 ·obtain⟨x,al,_⟩:=bV h;have bZ:cC (.av 1) (c0 1 fj (some fz)) (.int .i64 k)=some (.cm (fj x) 0) :=by rw[sI]; simp[al]
  have fP:IntKind.i64.wrap ((k:Int)+1)=(k+1:Nat) :=wrap_i64 (by omega) (by omega);have ap:=ajQ al;have e1:=SY (fz.take k);rw[aCX] at e1;obtain⟨bl,l',br,bI,a3⟩:=(dC.more [bp.cells 4 ((jU x).map bQ)]).app (by_:=1) (x:=.av 1 l.length 0 4 4 4) (xs:=jU x) (by rw[xa]; simp[dL,jU]) (fun y _=>rfl) (by omega) (by omega) (by rw[aC]; simp[jU]; omega);rw[show (jU x).map bQ=[.int .u8 (u (BitVec.setWidth 8 (x >>> 24))),.int .u8 (u (BitVec.setWidth 8 (x >>> 16))),.int .u8 (u (BitVec.setWidth 8 (x >>> 8))),.int .u8 (u (BitVec.setWidth 8 x))] from rfl] at br;simp[h,bZ,fj,fP,br];refine dx.c6 ?_;simp[fP];exact⟨by omega,by simp,by simp,by simp,by simp,bl,by simp,by rw[ap,<-aDG]; exact bI⟩
 ·have fE:k=fz.length:=by omega
  subst fE;rw[aDi] at dC;have e1:=SY fz;have aF:=Yf [some (hh::mq fz),m] (by simp) (fun s ap=>by
   rcases aDY.1 ap with h | h
   ·rw[h]; show (hh::mq fz).length<=_; simp; omega
   ·rw[aDm.1 h]; omega)
  have eQ:bytesOf [some (hh::mq fz),m]=hh::(mq fz++m.l) :=by simp[bytesOf]
  rw[eQ] at aF;have ik:=dC.cells;have zU:(da m).cells=some [da m] :=by cases m<;>rfl
  obtain⟨jq,xG⟩:∃ jq,jq=iR (hh::(mq fz++m.l)) :=⟨_,rfl⟩
  have xH:jq.length=32:=by rw[xG]; exact uH _
  rw[<-xG] at aF;have JP:(jq.map bQ).length=32:=by simp[xH]
  have JZ:fL jq=.aM (jq.map bQ) :=rfl;rw[JZ] at aF;have nR:bO (rep 32 (.int .u8 0)) 0 (jq.map bQ)=jq.map bQ:=fM (by rw[JP]; rfl);have dI:∀ b,g5 (.arr 32 1) (.ptr b 0 32) none (some (.int .i64 8)) none=some (.av 1 b 0 8 32 32) :=fun b=>auu (b:=b)
  simp[ik,zU];refine i3 aF (.cons (atx (by simp) ((dC.more _).s3 (fun _=>rfl) (some (hh::mq fz)) rfl rfl) (.same _ hs)) .nil) (by simp[ad.flat,mn,fL,zl bQ (fun _=>rfl)]) ?_;simp[xH,nR,dI];refine c2 8 (adv jq 0) ?_ ⟨by simp,by simp[u5],⟨l.length+1,32,by simp,by simp[List.getElem?_append],rfl⟩,by simp,by simp⟩;clear dC;rintro k ah l hk ⟨g1,jt,⟨b,n,I2,ai,rfl⟩,I3,I4⟩;obtain⟨ah,rfl⟩:=mR g1 jt I2 I3 I4;clear g1 jt I2 I3 I4;unfold WM;by_cases h:k<8
  ·obtain⟨x,al,_⟩:=bV (l:=jq) (k:=k) (by omega);have fP:IntKind.i64.wrap ((k:Int)+1)=(k+1:Nat) :=wrap_i64 (by omega) (by omega);have ap:=Oq jq k x al;have fE:(k:Int)<8:=by omega
   have azi:(jq.map bQ)[k]? = some (bQ x) :=by rw[aCO,al]; rfl
   simp[h,fE,ai,fP,al];exact⟨by simp,by simp[ap],⟨b,32,by simp,by simpa using ai,rfl⟩,by simp,by simp⟩
  ·have iL:k=8:=by omega
   subst iL;simp;exact aJ (by unfold Ch; rw[xG]) rfl
def Bv (r y:D) (m:List B) :D:=(Ch (99#8::(mq [r,y]++m)) % 500000003#64).setWidth 32
theorem ab3 (x:Q) :cP .rem .u64 (u x) .u64 500000003=some (.int .u64 (u (x % 500000003#64))) :=y0 x 500000003#64 (by decide)
theorem avU (r y:D) (m:fH) (hm:m.l.length<=9991) :bE Tryz.prog GS 206 [bR r,bR y,da m] (.b5 [bR (Bv r y m.l),.int .i64 0]) :=by
 refine bS Tryz.checked.mixed bP ?_;apply bw agu aq9;unfold Qb Z3;have hs:=mY m;simp;refine i3 (akL 99#8 m hm [r,y] (by simp)) (.cons (.same _ rfl) (.cons (.same _ hs) (.cons (DM (by simp)) .nil))) rfl ?_;simp[ab3];exact aJ rfl rfl
theorem Ma (a b:D) (ai:b≠0#32) :cP .quo .u32 (u a) .u32 (u b)=some (.int .u32 (u (a / b))) :=by
 have ca:(b.toNat:Int)≠0:=fun e=>ai (aCV (by simpa using e))
 show (if IntKind.u32=IntKind.u32/\(b.toNat:Int)≠0 then some (ad.int .u32 (IntKind.u32.wrap ((a.toNat:Int).tdiv b.toNat))) else none)=_;rw[if_pos ⟨rfl,ca⟩,Bb];congr 2;have:((a.toNat:Int).tdiv b.toNat)=((a.toNat / b.toNat:Nat) :Int) :=rfl;rw[this,aDI];congr 1;apply aCV;rw[aC7,aEh];exact aC1 (Nat.lt_of_le_of_lt (aF1 _ _) a.isLt)
theorem SX (x:D) {l:aw} {K:ad->aw->Prop} (bA:∀ v l',cA 1 cu l l' v (jU x) false->K v l') :dS Tryz.prog GS 223 [bR x] l (c:=⟨K⟩) :=by
 apply bw agD ark;unfold Qk aae;have q1:cP .quo .u32 (u x) .u32 16777216=some (.int .u32 (u (x / 16777216#32))) :=Ma x 16777216#32 (by decide);have fh:cP .quo .u32 (u x) .u32 65536=some (.int .u32 (u (x / 65536#32))) :=Ma x 65536#32 (by decide);have ji:cP .quo .u32 (u x) .u32 256=some (.int .u32 (u (x / 256#32))) :=Ma x 256#32 (by decide);have wk:∀ y:D,cP .rem .u32 (u y) .u32 256=some (.int .u32 (u (y % 256#32))) :=fun y=>aeM y 256#32 (by decide)
 have al:=x.isLt;have a2:BitVec.setWidth 8 (x / 16777216#32)=BitVec.setWidth 8 (x >>> 24) :=by
  apply aCV;rw[aC5,aC5,aEh,aDo,aC8];rfl
 have b7:BitVec.setWidth 8 (x / 65536#32 % 256#32)=BitVec.setWidth 8 (x >>> 16) :=by
  apply aCV;rw[aC5,aC5,aDU,aEh,aDo,aC8];show x.toNat / 65536 % 256 % 256=x.toNat / 65536 % 256;omega
 have dG:BitVec.setWidth 8 (x / 256#32 % 256#32)=BitVec.setWidth 8 (x >>> 8) :=by
  apply aCV;rw[aC5,aC5,aDU,aEh,aDo,aC8];show x.toNat / 256 % 256 % 256=x.toNat / 256 % 256;omega
 have j8:BitVec.setWidth 8 (x % 256#32)=BitVec.setWidth 8 x:=by
  apply aCV;rw[aC5,aC5,aDU];show x.toNat % 256 % 256=x.toNat % 256;omega
 simp[q1,fh,ji,wk,a2,b7,dG,j8];exact bA _ _ ⟨l.length,pt (n:=4) (a:=jU x) rfl (by simp; rfl),by simp,fun b ai=>aCK ai,.inr (by simp),rfl⟩
structure adQ (d:List B) (k:Nat) (ah:bB) (l:aw) :Prop where
 bj:ah 3=.ptr 0 0 32
 bL:ah 4=dm (u5 (d.take k))
 bC:ah 5=.int .i64 k
 kG:l[0]? = some (.cells 32 (d.map bQ))
theorem aoW (s:fH) (ap:s.l.length<=1000000) :bE Tryz.prog GS 224 [da s] (dm (Ch s.l)) :=by
 refine bS Tryz.checked.mixed bP ?_;apply bw agE arl;unfold Ql aaf;have k0:=abZ s ap;have bT:=mY s;obtain⟨jq,xG⟩:∃ jq,jq=iR s.l:=⟨_,rfl⟩
 have xH:jq.length=32:=by rw[xG]; exact uH _
 rw[<-xG] at k0;have JZ:fL jq=.aM (jq.map bQ) :=rfl;rw[JZ] at k0;have JP:(jq.map bQ).length=32:=by simp[xH]
 have nR:bO (rep 32 (.int .u8 0)) 0 (jq.map bQ)=jq.map bQ:=fM (by rw[JP]; rfl);simp;refine a8 k0 (by simp[a7,bT]) ?_;simp[xH,nR];refine c2 8 (adQ jq) ?_ ⟨by simp,by simp[u5],by simp,rfl⟩;rintro k ah l hk ⟨bj,bL,bC,kG⟩;obtain⟨ah,rfl⟩:=jJ bj bL bC;clear bj bL bC;unfold WE;by_cases h:k<8
 ·obtain⟨x,al,_⟩:=bV (l:=jq) (k:=k) (by omega);have fP:IntKind.i64.wrap ((k:Int)+1)=(k+1:Nat) :=wrap_i64 (by omega) (by omega);have ap:=Oq jq k x al;rw[auj] at ap;have fE:(k:Int)<8:=by omega
  have J6:k<32:=by omega
  simp[h,fE,J6,kG,fP,al];exact⟨by omega,by simp,by simp[ap],by simp,kG⟩
 ·have iL:k=8:=by omega
  subst iL;simp;exact aJ (by unfold Ch; rw[xG]) rfl
theorem asR (r y:D) (m:fH) (hm:m.l.length<=900000) :bE Tryz.prog GS 168 [bR r,bR y,da m] (bR (Bv r y m.l)) :=by
 refine bS Tryz.checked.mixed bP ?_;apply bw af1 aqH;unfold PI ZD;have aC:c4=140737488355328:=rfl;have hs:=mY m;simp;refine SX r fun ft l1 h1=>?_
 have UB:=h1.le;have amj:cA 1 cu [] l1 (.av 1 0 0 1 1 1) [99#8] false:=⟨0,pt (n:=1) (a:=[99#8]) rfl (by rw[h1.same 0 (by simp)]; rfl),by simp,by simp,.inr (by simp),rfl⟩
 obtain⟨ei,cf,br,bI,a3⟩:=amj.app (by_:=1) (x:=ft) (xs:=jU r) h1.contents (fun _ _=>rfl) (by omega) (by omega) (by rw[aC]; simp[jU]);simp[br];refine dx.c6 ?_;simp;refine SX y fun v3 fb aq=>?_
 have amk:cA 1 cu [] fb ei ([99#8]++jU r) false:=bI.frame aq.le aq.same;obtain⟨v4,j3,dE,dA,iD⟩:=amk.app (by_:=1) (x:=v3) (xs:=jU y) aq.contents (fun _ _=>rfl) (by omega) (by omega) (by rw[aC]; simp[jU]);simp[dE];refine dx.c6 ?_;obtain⟨v5,AA,cT,dF,kS⟩:=dA.app (by_:=1) (x:=da m) (xs:=m.l) (Sb _ _) (fun _ _=>rfl) (by omega) (by omega) (by rw[aC]; simp[jU]; omega);simp[cT];refine dx.c6 ?_;have ai:(dX.l (some ([99#8]++jU r++jU y++m.l)) :List B)=99#8::(mq [r,y]++m.l) :=by simp[mq]
 have UP:=aoW (some ([99#8]++jU r++jU y++m.l)) (by rw[ai]; simp[mq,jU]; omega);rw[ai] at UP;simp;refine i3 UP (.cons (dF.s3 (fun _=>rfl) (some ([99#8]++jU r++jU y++m.l)) (by simp) rfl) .nil) rfl ?_;simp[ab3];exact aJ rfl rfl
theorem G7 (a n k:Nat) :gn (gn a n) k=gn a (n*k) :=by
 unfold gn; rw[<-aFB,<-Nat.pow_mul]
theorem Yp (n:Nat) :gn 1 n=1:=by unfold gn; rw[Nat.one_pow]
theorem apq (a m n:Nat) :gn a (m+n)=gn a m*gn a n % 1000000007:=by
 unfold gn; rw[aEI,aFk]
theorem aex:gn 4 500000003=1:=by
 have h:=Yj 4 500000003 (by decide) 64 (aCL _);rw[show 500000003 / 2 ^ (64 - 64)=500000003 from rfl] at h;rw[<-h];decide +kernel
theorem Ld {y:D} (h:gn y.toNat 500000003=1) (n:Nat) :gO (hA y n)=true:=by
 have ay:=sZ y n;have aP:=yq y.toNat n;have h1:gn (gn y.toNat n) 500000003=1:=by
  rw[G7,aFV,<-G7,h,Yp]
 have aG:gn y.toNat n≠0:=fun e=>by
  rw[e] at h1;have az:∀ n,0<n->gn 0 n=0:=fun n aI=>by unfold gn; rw[Nat.zero_pow aI]
  rw[az _ (by decide)] at h1;cases h1
 unfold gO;rw[ay,decide_eq_true (by omega),decide_eq_true aP,decide_eq_true h1]; rfl
theorem VE {y:D} (h:gO y=true) :gn y.toNat 500000003=1:=by
 unfold gO at h; simp only[aCQ,decide_eq_true_eq] at h; exact h.2
theorem aew {y:D} (h:gn y.toNat 500000003=1) {e:Nat} (au:e<500000003) :hA (hA y e) 500000002=hA y (500000003 - e) :=by
 apply aCV;rw[sZ,sZ,sZ,G7];rcases e with _ | e
 ·rw[aEV,aFt,h];unfold gn; rfl
 ·have a2:(e+1)*500000002=500000003*e+(500000003 - (e+1)) :=by omega
  rw[a2,apq,<-G7,h,Yp,aFj,aC1 (yq _ _)]
def DJ (y:D) (e s:D) :D:=DC (hA 4#32 s.toNat) (hA y (500000003 - e.toNat))
def DV (y:D) (m:List B) (e s:D) :Bool:=jT e&&(jT s&&decide (Bv (DJ y e s) y m=e))
theorem auU {e:D} (au:e.toNat<500000003) :(500000003#64 - e.setWidth 64).toNat=500000003 - e.toNat:=by
 rw[BitVec.toNat_sub,aC5];have:(500000003#64).toNat=500000003:=rfl;rw[this]; omega
theorem awb (y:D) (aE:gO y=true) (m:fH) (hm:m.l.length<=9991) (e s:D) :bE Tryz.prog GS 148 [bR y,da m,.aM [bR e,bR s]] (.int .i64 (if DV y m.l e s then 0 else 22)) :=by
 refine bS Tryz.checked.mixed bP ?_;apply bw afJ aqp;unfold Ps Zl DV;have bu:c1 (.av 1) (da m)=some (.int .i64 m.l.length) :=rr _;have fC:¬ (9991:Int)<(m.l.length:Int) :=by omega
 have q2:¬ 9991<m.l.length:=by omega
 have hs:=mY m;have bD:=VE aE;have Ue:=Lc y;rw[aE] at Ue;simp;refine a8 Ue rfl ?_;obtain⟨M,nI⟩:∃ M:Int,M=if u e<u s then u s else u e:=⟨_,rfl⟩
 have xX:v2 (bR e) (bR s)=some (.int .u32 M) :=by rw[nI]; simp[v2,bR]
 have Tt:(500000003:Int)<=M<->500000003<=e.toNat\/500000003<=s.toNat:=by
  rw[nI]; unfold u; split<;>omega
 simp[bu,fC,q2,xX];by_cases h1:500000003<=e.toNat\/500000003<=s.toNat
 ·have ai:(jT e&&(jT s&&decide (Bv (DJ y e s) y m.l=e)))=false:=by
   unfold jT;rcases h1 with h | h
   ·rw[decide_eq_false (by omega)]; rfl
   ·rw[decide_eq_false (p:=s.toNat<500000003) (by omega)]; simp
  have ak:=Tt.2 h1;simp[ak,ai];exact aJ rfl rfl
 ·have ak:¬ (500000003:Int)<=M:=fun h=>h1 (Tt.1 h)
  have hd:jT e=true:=by unfold jT; exact decide_eq_true (by omega)
  have gK:jT s=true:=by unfold jT; exact decide_eq_true (by omega)
  have UY:=ajW y (500000003#64 - e.setWidth 64);have amI:(s.setWidth 64:Q).toNat=s.toNat:=by rw[aC5]; omega
  have Ft:=ajU (s.setWidth 64);rw[aE,if_pos rfl,if_pos rfl,auU (by omega)] at UY;rw[amI] at Ft;have tV:=ajV (hA 4#32 s.toNat) (hA y (500000003 - e.toNat));rw[Ld (y:=4#32) aex,Ld bD] at tV;simp only[aEn,if_true] at tV;have q7:=avU (DJ y e s) y m hm;have fm:∀ a b:D,((u a:Int)=u b)<->a=b:=fun a b=>⟨fun h=>aCV (by unfold u at h; omega),fun h=>by rw[h]⟩
  simp[ak];refine a8 UY rfl ?_;simp;refine a8 Ft rfl ?_;simp;refine a8 tV rfl ?_;simp;refine a8 q7 (by simp[a7,ad.closed,hs]) ?_;rw[hd,gK];by_cases aq:Bv (DJ y e s) y m.l=e
  ·simp[aq];exact aJ rfl rfl
  ·simp[aq,fm];exact aJ rfl rfl
theorem asZ (s:D) :bE Tryz.prog GS 120 [bR s] (bR (hA 4#32 s.toNat)) :=by
 refine bS Tryz.checked.mixed bP ?_;apply bw afl ap1;unfold O0 YV;have at1:(s.setWidth 64:Q).toNat=s.toNat:=by rw[aC5]; omega
 have Fs:=asP (s.setWidth 64);rw[at1] at Fs;simp;refine a8 Fs rfl ?_;simp;exact aJ rfl rfl
theorem as9 (y:D) (aE:gO y=true) (m:fH) (hm:m.l.length<=900000) (e s:D) :bE Tryz.prog GS 131 [bR y,da m,.aM [bR e,bR s]] (.bool (DV y m.l e s)) :=by
 refine bS Tryz.checked.mixed bP ?_;apply bw afv aqb;unfold Pc Y6 DV;have hs:=mY m;have bD:=VE aE;have fm:∀ a b:D,((u a:Int)=u b)<->a=b:=fun a b=>⟨fun h=>aCV (by unfold u at h; omega),fun h=>by rw[h]⟩
 simp;refine a8 (EQ e) rfl ?_;cases h1:jT e with
 | false=>simp; exact aJ rfl rfl
 | true=>
 simp;refine a8 (EQ s) rfl ?_;cases ag:jT s with
 | false=>simp; exact aJ rfl rfl
 | true=>
 have au:e.toNat<500000003:=by unfold jT at h1; exact of_decide_eq_true h1
 have ai1:(e.setWidth 64:Q).toNat=e.toNat:=by rw[aC5]; omega
 have U2:=Mk y (e.setWidth 64);rw[ai1] at U2;have Uj:=asY (hA y e.toNat);rw[Ld bD,if_pos rfl,if_pos rfl,aew bD au] at Uj;have Fs:=asZ s;have z6:=as3 (hA 4#32 s.toNat) (hA y (500000003 - e.toNat));have q7:=asR (DJ y e s) y m hm;simp;refine a8 U2 rfl ?_;simp;refine a8 Uj rfl ?_;simp;refine a8 Fs rfl ?_;simp;refine a8 z6 rfl ?_;simp;refine a8 q7 (by simp[a7,ad.closed,hs]) ?_;simp[fm];exact aJ rfl rfl
def MK (o:bJ) :Bool:=DV o.g9 (lc o) o.e o.s
def rO (o:bJ) :Int:=if fZ o=0 then (if MK o then 0 else 22) else fZ o
theorem XW {o:bJ} (aB:∀ x∈o.bN.l,x.length=32) (h:fZ o=0) :gO o.g9=true/\(lc o).length<=9991:=by
 have aH:=wc h;unfold fZ at h;rw[if_neg (by omega)] at h;split at h
 ·split at h
  ·rename_i aC aA;unfold tJ at aA;simp only[aCQ,decide_eq_true_eq] at aA;obtain⟨aW,bg,bj,bL,bC⟩:=aA;refine⟨aW,?_⟩;have Ka:o.act.key.length<=20/\(o.act.kind=4#8->o.act.val.text.length<=30) :=by
    unfold kP at bj;split at bj
    ·rename_i h1;simp only[aCQ,decide_eq_true_eq] at bj;rw[bj.1];exact⟨by simp,fun h=>by rw[h1] at h; cases h⟩
    ·split at bj
     ·rename_i h1 ag;simp only[aCQ] at bj;have hk:=bj.1;unfold hz at hk;simp only[aCQ,decide_eq_true_eq] at hk;exact⟨hk.1.2,fun h=>by rw[h] at ag; rcases ag with ag | ag<;>cases ag⟩
     ·split at bj
      ·simp only[aCQ] at bj;obtain⟨hk,ay⟩:=bj;unfold hz at hk;simp only[aCQ,decide_eq_true_eq] at hk;refine⟨hk.1.2,fun _=>?_⟩;unfold j6 at ay;split at ay
       ·simp only[aCQ,decide_eq_true_eq] at ay; rw[ay.2]; simp
       ·split at ay
        ·simp only[aCQ,decide_eq_true_eq] at ay; rw[ay.1.2]; simp
        ·split at ay
         ·simp only[aCQ,decide_eq_true_eq] at ay; exact ay.1.2
         ·cases ay
      ·cases bj
   have lM:=iQ o.g9.toNat
   have nl:=iQ o.dj.toNat
   have ry:=Dj aB;have sU:=A6 (fQ o.act.key);rw[qG] at sU;have mc:=Ea o.act.val;have n6:(opHead o).length<=10:=by unfold opHead; simp; omega
   unfold lc;simp only[aCS,aC6,aDx];have n7:(if o.act.kind=1#8 then ([] :List B) else jI (fQ o.act.key)).length<=29:=by
    split
    ·simp
    ·omega
   have n8:(if o.act.kind=4#8 then jK o.act.val else []).length<=50:=by
    split
    ·rename_i h; have:=Ka.2 h; omega
    ·simp
   omega
  ·cases h
 ·cases h
theorem awc (o:bJ) (ax:ic o) :bE Tryz.prog GS 95 [.aM (bn o)] (.int .i64 (rO o)) :=by
 refine bS Tryz.checked.mixed bP ?_;apply bw ah2 asK;unfold RI abC rO;have cQ:=i6 o;have cU:=HH o ax;have q9:a7 [ad.aM (bn o)]=true:=by simp[a7,ad.closed,cQ]
 by_cases aG:fZ o=0
 ·obtain⟨aA,bu⟩:=XW ax.ids aG;rw[if_pos aG];simp[bn];refine a8 cU q9 ?_;simp[aG];refine adc o ax (Oh aG) fun w l' h=>?_
  have kG:l'[0]? = some (.cells 11 (bn o)) :=by rw[h.same 0 (by simp)]; rfl
  have Dz:=kG;simp[bn] at Dz;have ay:=awb o.g9 aA (some (lc o)) bu o.e o.s;simp[Dz];refine i3 ay (.cons (.same _ rfl) (.cons (h.s3 (fun _=>rfl) (some (lc o)) rfl rfl) (.cons (.same _ rfl) .nil))) rfl ?_;simp;exact aJ rfl rfl
 ·rw[if_neg aG];simp[bn];refine a8 cU q9 ?_;simp[aG];exact aJ rfl rfl
theorem ate (o:bJ) (ax:ic o) (aG:fZ o=0) :bE Tryz.prog GS 82 [.aM (bn o)] (.bool (MK o)) :=by
 refine bS Tryz.checked.mixed bP ?_;apply bw ahP asy;unfold Rw abq;have cQ:=i6 o;obtain⟨aA,bu⟩:=XW ax.ids aG;have ay:=as9 o.g9 aA (some (lc o)) (by show (lc o).length<=_; omega) o.e o.s;simp[bn];refine abQ o ax (by have:=wc aG; omega) fun w l' h=>?_
 have kG:l'[0]? = some (.cells 11 (bn o)) :=by rw[h.same 0 (by simp)]; rfl
 have Dz:=kG;simp[bn] at Dz;simp[Dz];refine i3 ay (.cons (.same _ rfl) (.cons (h.s3 (fun _=>rfl) (some (lc o)) rfl rfl) (.cons (.same _ rfl) .nil))) rfl ?_;simp;exact aJ rfl rfl
theorem atm (o:bJ) (ax:ic o) :bE Tryz.prog GS 39 [.aM (bn o)] (.int .i64 (rO o)) :=by
 refine bS Tryz.checked.mixed bP ?_;apply bw ahh arZ;unfold QY aaR rO;have cQ:=i6 o;have cU:=Mi o ax;have q9:a7 [ad.aM (bn o)]=true:=by simp[a7,ad.closed,cQ]
 by_cases aG:fZ o=0
 ·rw[if_pos aG];simp[bn];refine a8 cU q9 ?_;simp[aG];refine a8 (ate o ax aG) q9 ?_;cases ap:MK o with
  | true=>simp; exact aJ rfl rfl
  | false=>simp; exact aJ rfl rfl
 ·rw[if_neg aG];simp[bn];refine a8 cU q9 ?_;simp[aG];refine a8 cU q9 ?_;simp;exact aJ rfl rfl
end Op

end Go.ct

namespace Go.ct
open Go Go.Proofs
set_option maxRecDepth 100000
namespace Op

section
variable {α:Type} {z:Nat} {enc:α->List ad}
theorem AI {l l1:aw} {v:ad} {a:List α} {fr:Bool} (h:cA z enc l l1 v a fr) {k:Nat} {y:α} (aE:a[k]? = some y) :
  ∃ p cs o,cC (.av z) v (.int .i64 (k:Int))=some p/\e4 l1 p=some (cs,o)/\o+z<=cs.length/\(cs.drop o).take z=enc y:=by
 obtain⟨j,ax,_⟩:=h;exact ax.q.get (k:=.i64) (i:=k) (e:=enc y) (by rw[aCO,aE]; rfl)
theorem GQ {l l1:aw} {v:ad} {a:List α} {fr:Bool} (h:cA z enc l l1 v a fr) (az:∀ y∈a,(enc y).length=z) {k:Nat} {y:α} {X:ad} (ce:X.cells=some (enc y)) (hk:k<a.length) (aE:(enc y).length=z) :
  ∃ p l',cC (.av z) v (.int .i64 (k:Int))=some p/\kI z l1 p X=some l'/\cA z enc l l' v (a.set k y) fr:=by
 obtain⟨j,ax,ag,aq,aH,bd⟩:=h;obtain⟨p,l',br,bI,a3,a4,a5⟩:=yo ce ax az hk aE;refine⟨p,l',br,bI,j,a3,by omega,fun b ai=>?_,aH,bd⟩;rcases aH with aH | aH
 ·subst aH;have:=ax.q.rz;rw[aDQ] at this;rw[this] at hk; simp at hk
 ·rw[a5 b (by omega)]; exact aq b ai
theorem ao4 {by_:Nat} {l l1:aw} {v:ad} {a:List α} {fr:Bool} (h:cA z enc l l1 v a fr) (x:α) {b:Nat} (ai:l1[b]? = some (.cells z (enc x))) (al:(enc x).length=z) (aG:z≠0) (eQ:by_≠0) (eb:(a.length+1)*by_<=c4) :
  ∃ bl l',g8 l1 z by_ v (.av z b 0 1 1 z)=some (bl,l')/\cA z enc l l' bl (a++[x]) false/\l1.length<=l'.length:=by
 obtain⟨bl,l',aW,bg,bj⟩:=h.app (by_:=by_) (x:=.av z b 0 1 1 z) (xs:=[x]) (by simp[dL,ai,al,aCI]) (by simp[al]) aG eQ (by simpa using eb);exact⟨bl,l',aW,by simpa using bg,bj⟩
def fq (l:List α) (i:Nat) (x:α) :List α:=l.take i++x::l.drop i
theorem Av (l:List α) (i:Nat) (x:α) :(fq l i x).length=l.length+1:=by
 unfold fq;have:=congrArg List.length (aDt i l);simp only[aCS,aC6] at this ⊢; omega
theorem Vy {l:List α} {i:Nat} {x:α} (aB:i<=l.length) :(fq l i x)[i]? = some x:=by
 unfold fq;rw[aCT (by rw[aCX]; omega),aCX,aDE aB]; simp
theorem Vz {l:List α} {i k:Nat} {x:α} (hk:k<i) (aB:i<=l.length) :(fq l i x)[k]? = l[k]?:=by
 unfold fq;rw[aCK (by rw[aCX]; omega),aCW hk]
theorem VA {l:List α} {i:Nat} {x y:α} (aE:l[i]? = some y) :((fq l (i+1) x).set (i+1) y).set i x=fq l i x:=by
 have aB:=(aCJ.1 aE).1;have h1:l.take (i+1)=l.take i++[y] :=by rw[aC4,aE]; rfl
 have ag:l.drop i=y::l.drop (i+1) :=by rw[aDy aB,(aCJ.1 aE).2]
 have ar:(l.take i).length=i:=by rw[aCX]; omega
 unfold fq;rw[h1,ag,aDa];rw[aDu _ _ (by omega),aDu _ _ (by omega),ar];simp
theorem K5 {l:List α} {i:Nat} {x y:α}:y∈fq l i x<->y=x\/y∈l:=by
 unfold fq;rw[aDr,aDY];constructor
 ·rintro (h | h | h)
  ·exact .inr (aDs h)
  ·exact .inl h
  ·exact .inr (aEf h)
 ·rintro (h | h)
  ·exact .inr (.inl h)
  ·rw[<-aDt i l,aDr] at h;exact h.elim .inl fun h=>.inr (.inr h)
theorem Vx {s r:List α} {i:Nat} (aB:i<=s.length) (x:α) :fq (s++r) i x=fq s i x++r:=by
 unfold fq;rw[aDb aB,aDp aB]; simp
def i2 (lt:α->α->Bool) (l:List α) (x:α) :Nat->Nat
 | 0=>0
 | k+1=>match l[k]? with
  | some y=>if lt x y then i2 lt l x k else k+1
  | none=>k+1
theorem Yl (lt:α->α->Bool) (l:List α) (x:α) :∀ k,i2 lt l x k<=k
 | 0=>aCL _
 | k+1=>by
  unfold i2;split
  ·split
   ·have:=Yl lt l x k; omega
   ·exact aCL _
  ·exact aCL _
theorem AR {lt:α->α->Bool} {l:List α} {x y:α} {k:Nat} (h:l[k]? = some y) :i2 lt l x (k+1)=if lt x y then i2 lt l x k else k+1:=by
 rw[i2,h]
theorem Yk (lt:α->α->Bool) (s r:List α) (x:α) :∀ k,k<=s.length->i2 lt (s++r) x k=i2 lt s x k
 | 0,_=>rfl
 | k+1,hk=>by
  obtain⟨y,aE,_⟩:=bV (l:=s) (k:=k) (by omega);rw[AR aE,AR (by rw[aCK (by omega)]; exact aE),Yk lt s r x k (by omega)]
theorem anC {lt:α->α->Bool} (x7:∀ a b c,lt a b=true->lt b c=true->lt a c=true) {l:List α} {x:α} (ap:l.Pairwise fun a b=>lt a b=true) (al:∀ y∈l,lt x y=false->lt y x=true) :
  (fq l (i2 lt l x l.length) x).Pairwise fun a b=>lt a b=true:=by
 have key:∀ k,k<=l.length->(∀ y∈l.drop k,lt x y=true)->(fq l (i2 lt l x k) x).Pairwise fun a b=>lt a b=true:=by
  intro k
  induction k with
  | zero=>
   intro _ h;show (fq l 0 x).Pairwise _;unfold fq;rw[aD1,aDq,aDH,aFd];exact⟨h,ap⟩
  | succ k aY=>
   intro hk h;obtain⟨y,aE,b6⟩:=bV (l:=l) (k:=k) (by omega);rw[AR aE];have bX:l.drop k=y::l.drop (k+1) :=by rw[aDy (by omega),(aCJ.1 aE).2]
   have aQ:l.take (k+1)=l.take k++[y] :=by rw[aC4,aE]; rfl
   cases ni:lt x y with
   | true=>
    rw[if_pos rfl];refine aY (by omega) fun w hw=>?_
    rw[bX] at hw;rcases aDY.1 hw with rfl | hw
    ·exact ni
    ·exact h w hw
   | false=>
    rw[if_neg (by simp)];have ug:=al y b6 ni;have h1:∀ a∈l.take (k+1),lt a x=true:=fun a aD=>by
     rw[aQ,aDr,aDm] at aD;rcases aD with aD | rfl
     ·have ag:(l.take k++y::l.drop (k+1)).Pairwise fun a b=>lt a b=true:=by rw[<-bX,aDt]; exact ap
      exact x7 _ _ _ ((aFv.1 ag).2.2 a aD y (by simp)) ug
     ·exact ug
    unfold fq;have ag:=ap;rw[<-aDt (k+1) l] at ag;obtain⟨ux,uy,AP⟩:=aFv.1 ag;refine aFv.2 ⟨ux,aFd.2 ⟨h,uy⟩,fun a aD b ai=>?_⟩;rcases aDY.1 ai with rfl | ai
    ·exact h1 a aD
    ·exact AP a aD b ai
 exact key _ (aCL _) (by simp)
theorem acz {lt:α->α->Bool} (FQ:∀ a,lt a a=false) (x7:∀ a b c,lt a b=true->lt b c=true->lt a c=true) :∀ {l m:List α},l.Pairwise (fun a b=>lt a b=true)->m.Pairwise (fun a b=>lt a b=true)->(∀ y,y∈l<->y∈m)->l=m
 | [],[],_,_,_=>rfl
 | [],b::m,_,_,h=>absurd ((h b).2 (by simp)) (by simp)
 | a::l,[],_,_,h=>absurd ((h a).1 (by simp)) (by simp)
 | a::l,b::m,ar,hm,h=>by
  obtain⟨l1,cf⟩:=aFd.1 ar;obtain⟨kn,ko⟩:=aFd.1 hm;have eP:a=b:=by
   rcases aDY.1 ((h a).1 (by simp)) with e | e
   ·exact e
   ·rcases aDY.1 ((h b).2 (by simp)) with b7 | b7
    ·exact b7.symm
    ·have:=x7 _ _ _ (kn a e) (l1 b b7);rw[FQ] at this; cases this
  subst eP;congr 1;refine acz FQ x7 cf ko fun y=>⟨fun aE=>?_,fun aE=>?_⟩
  ·rcases aDY.1 ((h y).1 (by simp[aE])) with e | e
   ·subst e;have:=l1 y aE;rw[FQ] at this; cases this
   ·exact e
  ·rcases aDY.1 ((h y).2 (by simp[aE])) with e | e
   ·subst e;have:=kn y aE;rw[FQ] at this; cases this
   ·exact e
def jj (lt:α->α->Bool) (u:List α) :Nat->List α
 | 0=>[]
 | i+1=>match u[i]? with
  | some x=>fq (jj lt u i) (i2 lt (jj lt u i) x (jj lt u i).length) x
  | none=>jj lt u i
theorem Hr {lt:α->α->Bool} {u:List α} {i:Nat} {x:α} (h:u[i]? = some x) :jj lt u (i+1)=fq (jj lt u i) (i2 lt (jj lt u i) x (jj lt u i).length) x:=by rw[jj,h]
theorem ML {lt:α->α->Bool} {u:List α}:∀ {i:Nat},i<=u.length->(jj lt u i).length=i
 | 0,_=>rfl
 | i+1,h=>by
  obtain⟨x,al,_⟩:=bV (l:=u) (k:=i) (by omega);rw[Hr al,Av,ML (by omega)]
theorem AZ {lt:α->α->Bool} {u:List α} {y:α}:∀ {i:Nat},i<=u.length->(y∈jj lt u i<->y∈u.take i)
 | 0,_=>by simp[jj]
 | i+1,h=>by
  obtain⟨x,al,_⟩:=bV (l:=u) (k:=i) (by omega);rw[Hr al,K5,AZ (by omega),aC4,al,aDr];simp[or_comm]
theorem acx {lt:α->α->Bool} (x7:∀ a b c,lt a b=true->lt b c=true->lt a c=true) (Vf:∀ a b,a≠b->lt a b=false->lt b a=true) {u:List α} (aI:u.Nodup) :∀ {i:Nat},i<=u.length->(jj lt u i).Pairwise fun a b=>lt a b=true
 | 0,_=>List.Pairwise.nil
 | i+1,h=>by
  obtain⟨x,al,_⟩:=bV (l:=u) (k:=i) (by omega);rw[Hr al];refine anC x7 (acx x7 Vf aI (by omega)) fun y aE ni=>Vf x y (fun e=>?_) ni
  subst e;rw[AZ (by omega)] at aE;have ag:(u.take i++[x]).Nodup:=by
   have:u.take (i+1)=u.take i++[x] :=by rw[aC4,al]; rfl
   rw[<-this]; exact aI.sublist (aFL _ _)
  exact (aEx.1 ag).2.2 x aE x (by simp) rfl
end

section
variable {α:Type} [DecidableEq α]
end

end Op

end Go.ct

namespace Go.ct
open Go Go.Proofs
set_option maxRecDepth 100000
namespace Op
open hK
def g3 {α:Type} [DecidableEq α] (x:α) :List α->Nat->Int
 | [],_=>-1
 | y::r,k=>if y=x then (k:Int) else g3 x r (k+1)
theorem vV {α:Type} [DecidableEq α] (x:α) :∀ (l:List α) (k:Nat),(0<=g3 x l k)<->x∈l
 | [],k=>by simp[g3]
 | y::r,k=>by
  unfold g3;by_cases h:y=x
  ·simp[h]
  ·rw[if_neg h,vV x r (k+1)];simp[Ne.symm h]
theorem vU {α:Type} [DecidableEq α] {x:α}:∀ {l:List α} {k n:Nat} {y:α},l[k]? = some y->(∀ (j:Nat) (z:α),j<k->l[j]? = some z->z≠x)->y=x->g3 x l n=((n+k:Nat) :Int)
 | [],k,n,y,h,_,_=>by simp at h
 | w::r,0,n,y,h,_,aE=>by
  simp at h; subst h;unfold g3;rw[if_pos aE]; simp
 | w::r,k+1,n,y,h,ar,aE=>by
  unfold g3;rw[if_neg (ar 0 w (by omega) (by simp)),vU (k:=k) (n:=n+1) (by simpa using h) (fun j z am az=>ar (j+1) z (by omega) (by simpa using az)) aE];congr 1; omega
theorem Dd {α:Type} [DecidableEq α] {x:α}:∀ {l:List α} {n:Nat},(∀ (j:Nat) (z:α),l[j]? = some z->z≠x)->g3 x l n=-1
 | [],n,_=>rfl
 | w::r,n,ar=>by
  unfold g3;rw[if_neg (ar 0 w (by simp)),Dd fun j z az=>ar (j+1) z (by simpa using az)]
theorem av1 (s:eN) (ax:gx s) (ar:s.l.length<=1000000) (x:List B) (al:x.length=32) :bE Tryz.prog GS 116 [bc s,.aM (a1 x)] (.int .i64 (g3 x s.l 0)) :=by
 refine bS Tryz.checked.mixed bP ?_;apply bw afi apY;unfold OY YT;simp[bc];refine c2 s.l.length (fun k ah l=>l=[.cells 32 (a1 x)]/\ah 0=c0 32 a1 s/\ah 3=.ptr 0 0 32/\ah 7=.int .i64 s.l.length/\ah 8=.int .i64 k/\∀ (j:Nat) (z:List B),j<k->s.l[j]? = some z->z≠x) ?_ (by simp[bc,c3 al]);rintro k ah l hk ⟨rfl,cd,bj,eU,et,ap⟩;obtain⟨ah,rfl⟩:=hW cd bj eU et;clear cd bj eU et;unfold V2;simp;refine im (fun h=>?_) (fun h=>?_)
 ·simp only[decide_eq_true_eq] at h;obtain⟨y,aE,b6⟩:=bV (l:=s.l) (k:=k) (by omega);have a2:IntKind.i64.wrap ((k:Int)+1)=((k+1:Nat) :Int) :=by rw[IntKind.wrap_i64]; omega
  simp[aE,c3 (ax y b6),c3 al,aCI,Gk al (ax y b6)];by_cases au:x=y
  ·have fO:=vU (n:=0) aE ap au.symm;simp[au];exact aJ (by rw[<-au,fO]; simp) rfl
  ·simp[au,a2];refine⟨by omega,fun j z am az=>?_⟩;by_cases eL:j=k
   ·subst eL; rw[aE] at az; obtain rfl:=Option.some.inj az; exact fun h=>au h.symm
   ·exact ap j z (by omega) az
 ·simp[h];have gV:k=s.l.length:=by simp at h; omega
  exact aJ (by rw[Dd fun j z az=>ap j z (by rw[gV]; exact (aCJ.1 az).1) az]) rfl
theorem Nr (s:eN) (ax:gx s) (ar:s.l.length<=1000000) (x:List B) (al:x.length=32) :bE Tryz.prog GS 70 [bc s,.aM (a1 x)] (.bool (decide (x∈s.l))) :=by
 refine bS Tryz.checked.mixed bP ?_;apply bw ahG asp;unfold Rn abh;simp[c3 al,aCI];refine a8 (av1 s ax ar x al) (by have:=eZ s; have:=fK x; simp_all [a7,ad.closed]) ?_;simp;exact aJ (congrArg ad.bool (by simp only[vV])) rfl
theorem Hb (s:eN) (ax:gx s) (ar:s.l.length<=1000000) (x:List B) (al:x.length=32) :bE Tryz.prog GS 79 [bc s,.aM (a1 x)] (.bool (decide (x∈s.l))) :=by
 refine bS Tryz.checked.mixed bP ?_;apply bw ahM asv;unfold Rt abn;simp[bc];refine c2 s.l.length (fun k ah l=>l=[.cells 32 (a1 x)]/\ah 0=c0 32 a1 s/\ah 3=.ptr 0 0 32/\ah 5=.int .i64 k/\∀ (j:Nat) (z:List B),j<k->s.l[j]? = some z->z≠x) ?_ (by simp[bc,c3 al]);rintro k ah l hk ⟨rfl,cd,bj,bC,ap⟩;obtain⟨ah,rfl⟩:=jJ cd bj bC;clear cd bj bC;unfold Xf;simp;refine im (fun h=>?_) (fun h=>?_)
 ·simp only[decide_eq_true_eq] at h;obtain⟨y,aE,b6⟩:=bV (l:=s.l) (k:=k) (by omega);have a2:IntKind.i64.wrap ((k:Int)+1)=((k+1:Nat) :Int) :=by rw[IntKind.wrap_i64]; omega
  simp[aE,c3 (ax y b6),c3 al,aCI,Gk (ax y b6) al];by_cases au:y=x
  ·simp[au];exact aJ (congrArg ad.bool (decide_eq_true (by rw[<-au]; exact b6)).symm) rfl
  ·simp[au,a2];refine⟨by omega,fun j z am az=>?_⟩;by_cases eL:j=k
   ·subst eL; rw[aE] at az; obtain rfl:=Option.some.inj az; exact au
   ·exact ap j z (by omega) az
 ·simp[h];have gV:k=s.l.length:=by simp at h; omega
  refine aJ (congrArg ad.bool (decide_eq_false fun hm=>?_).symm) rfl;obtain⟨j,am⟩:=aCY.1 hm;exact ap j x (by rw[gV]; exact (aCJ.1 am).1) am rfl
theorem Mf (s:eN) (ax:gx s) (ar:s.l.length<=1000000) (x:List B) (al:x.length=32) :bE Tryz.prog GS 75 [bc s,.aM (a1 x)] (.int .i64 (g3 x s.l 0)) :=by
 refine bS Tryz.checked.mixed bP ?_;apply bw ahJ ass;unfold Rq abk;simp[bc];refine c2 s.l.length (fun k ah l=>l=[.cells 32 (a1 x)]/\ah 0=c0 32 a1 s/\ah 3=.ptr 0 0 32/\ah 5=.int .i64 k/\∀ (j:Nat) (z:List B),j<k->s.l[j]? = some z->z≠x) ?_ (by simp[bc,c3 al]);rintro k ah l hk ⟨rfl,cd,bj,bC,ap⟩;obtain⟨ah,rfl⟩:=jJ cd bj bC;clear cd bj bC;unfold Xe;simp;refine im (fun h=>?_) (fun h=>?_)
 ·simp only[decide_eq_true_eq] at h;obtain⟨y,aE,b6⟩:=bV (l:=s.l) (k:=k) (by omega);have a2:IntKind.i64.wrap ((k:Int)+1)=((k+1:Nat) :Int) :=by rw[IntKind.wrap_i64]; omega
  simp[aE,c3 (ax y b6),c3 al,aCI,Gk (ax y b6) al];by_cases au:y=x
  ·have fO:=vU (n:=0) aE ap au;simp[au];exact aJ (by rw[fO]; simp) rfl
  ·simp[au,a2];refine⟨by omega,fun j z am az=>?_⟩;by_cases eL:j=k
   ·subst eL; rw[aE] at az; obtain rfl:=Option.some.inj az; exact fun h=>au h
   ·exact ap j z (by omega) az
 ·simp[h];have gV:k=s.l.length:=by simp at h; omega
  exact aJ (by rw[Dd fun j z az=>ap j z (by rw[gV]; exact (aCJ.1 az).1) az]) rfl
def tp (l di:List (List B)) :Bool:=decide (∀ p∈di,p∈l)
theorem abG (s:eN) (ax:gx s) (ar:s.l.length<=1000000) (t:eN) (aQ:gx t) (k3:t.l.length<=1000000) :bE Tryz.prog GS 80 [bc s,bc t] (.bool (tp s.l t.l)) :=by
 refine bS Tryz.checked.mixed bP ?_;apply bw ahN asw;unfold Ru abo;have bT:=eZ s;have aP:c1 (.av 32) (bc t)=some (.int .i64 t.l.length) :=by simp[bc]
 simp;refine c2 t.l.length (fun k ah l=>ah 0=bc s/\ah 1=bc t/\ah 5=.int .i64 k/\∀ (j:Nat) (z:List B),j<k->t.l[j]? = some z->z∈s.l) ?_ (by simp);rintro k ah l hk ⟨cd,aW,bC,ap⟩;obtain⟨ah,rfl⟩:=jJ cd aW bC;clear cd aW bC;unfold Xg;by_cases dt:k<t.l.length
 ·obtain⟨y,aE,b6⟩:=bV dt;have a2:IntKind.i64.wrap ((k:Int)+1)=((k+1:Nat) :Int) :=by rw[IntKind.wrap_i64]; omega
  have bZ:cC (.av 32) (bc t) (.int .i64 (k:Int))=some (.cm (a1 y) 0) :=by simp[bc,aE]
  have h3:=fK y;have e9:=Mf s ax ar y (aQ y b6);have b8:=c3 (aQ y b6);have UN:=vV y s.l 0;obtain⟨Y,dB⟩:∃ Y,Y=a1 y:=⟨_,rfl⟩
  rw[<-dB] at bZ h3 e9 b8;simp[aP,dt,bZ,b8,aCI];refine a8 e9 (by simp[a7,ad.closed,bT,h3]) ?_;by_cases hm:y∈s.l
  ·have ag:¬ g3 y s.l 0<0:=by have:=UN.2 hm; omega
   simp[ag,dt,a2];intro j z am az;by_cases eL:j=k
   ·subst eL; rw[aE] at az; obtain rfl:=Option.some.inj az; exact hm
   ·exact ap j z (by omega) az
  ·have ag:g3 y s.l 0<0:=by
    rcases Int.lt_or_le (g3 y s.l 0) 0 with h | h
    ·exact h
    ·exact absurd (UN.1 h) hm
   simp[ag];exact aJ (congrArg ad.bool (decide_eq_false fun h=>hm (h y b6)).symm) rfl
 ·have gV:k=t.l.length:=by omega
  simp[aP,dt];refine aJ (congrArg ad.bool (decide_eq_true fun p aF=>?_).symm) rfl;obtain⟨j,am⟩:=aCY.1 aF;exact ap j p (by rw[gV]; exact (aCJ.1 am).1) am
theorem AY {l:List (List B)} (h:eH l=true) :∀ {i j:Nat} {a b:List B},i<j->l[i]? = some a->l[j]? = some b->cI a b<0:=by
 have aG:=of_decide_eq_true h;intro i j
 induction j with
 | zero=>intro a b jx; omega
 | succ j aY=>
  intro a b jx aD ai;have eW:=(aCJ.1 ai).1;have h1:=aG (j+1) eW (by omega);obtain⟨c,ak,_⟩:=bV (l:=l) (k:=j) (by omega);rw[show j+1 - 1=j by omega,iO ak,iO ai] at h1;by_cases alF:i=j
  ·subst alF;rw[aD] at ak;obtain rfl:=Option.some.inj ak;exact h1
  ·exact vf _ _ _ (aY (by omega) aD ak) h1
theorem atO {l:List (List B)} (h:eH l=true) {i j:Nat} {a:List B} (aD:l[i]? = some a) (ai:l[j]? = some a) :i=j:=by
 rcases aEb i j with h1 | h1 | h1
 ·have:=AY h h1 aD ai; rw[pP] at this; omega
 ·exact h1
 ·have:=AY h h1 ai aD; rw[pP] at this; omega
def r9 (l:List (List B)) (x:List B) :Nat:=(l.takeWhile fun t=>decide (cI t x<0)).length
theorem Iw (x:List B) :∀ {l:List (List B)} {p:Nat},p<=l.length->(∀ (t:Nat) (y:List B),t<p->l[t]? = some y->cI y x<0)->(∀ y,l[p]? = some y->¬ cI y x<0)->r9 l x=p
 | [],p,aF,_,_=>by simp at aF; subst aF; rfl
 | y::l,0,_,_,ag=>by
  have:=ag y (by simp);unfold r9;rw[aEj,decide_eq_false this]; rfl
 | y::l,p+1,aF,h1,ag=>by
  have aE:=h1 0 y (by omega) (by simp);have aY:=Iw x (l:=l) (p:=p) (by simpa using aF) (fun t z aQ az=>h1 (t+1) z (by omega) (by simpa using az)) (fun z az=>ag z (by simpa using az));unfold r9 at aY ⊢;rw[aEj,decide_eq_true aE];simpa using aY
theorem aul (n:Nat) (h:n<9223372036854775808) :cP .shr .u64 (n:Int) .u64 1=some (.int .u64 ((n / 2:Nat) :Int)) :=by
 have:=tt (BitVec.ofNat 64 n) .u64 1;have aS:(u (BitVec.ofNat 64 n) :Int)=n:=by unfold u; rw[aC7,aC1 (by omega)]
 have ay:(u (BitVec.ofNat 64 n >>> 1) :Int)=((n / 2:Nat) :Int) :=by
  unfold u; rw[aDo,aC7,aC1 (by omega),aC8]
 rw[aS,ay] at this;exact this
structure adz (s:eN) (X:List ad) (x:List B) (m:Nat) (ah:bB) (l:aw) :Prop where
 ex:∃ (i j:Nat),j - i=m/\i<=j/\j<=s.l.length/\l=[.cells 32 X]/\ah 0=bc s/\ah 2=.fn 149 [] []/\ah 4=.ptr 0 0 32/\ah 8=.int .i64 s.l.length/\ah 9=.int .i64 i/\ah 10=.int .i64 j ∧
  (∀ (t:Nat) (y:List B),t<i->s.l[t]? = some y->cI y x<0)/\(∀ (t:Nat) (y:List B),j<=t->s.l[t]? = some y->¬ cI y x<0)
theorem acp (s:eN) (ax:gx s) (ar:s.l.length<=1000000) (x:List B) (al:x.length=32) (hm:eH s.l=true) :
  bE Tryz.prog GS 164 [bc s,.aM (a1 x),.fn 149 [] []] (.b5 [.int .i64 (r9 s.l x),.bool (decide (x∈s.l))]) :=by
 refine bS Tryz.checked.mixed bP ?_;apply bw afY aqE;unfold PF ZA;have bu:c1 (.av 32) (bc s)=some (.int .i64 s.l.length) :=by simp[bc]
 have bm:=c3 al;have jz:=fK x;have hs:∀ y∈s.l,bE Tryz.prog GS 149 [.aM (a1 y),.aM (a1 x)] (.int .i64 (cI y x)) :=fun y aE=>y9 y x (ax y aE) al
 obtain⟨X,ce⟩:∃ X,X=a1 x:=⟨_,rfl⟩
 rw[<-ce] at bm jz hs ⊢;simp[bu];refine rv (adz s X x) ?_ s.l.length _ _ ⟨0,s.l.length,by omega,by omega,by omega,by simp[bm],by simp,by simp,by simp[bm],by simp,by simp,by simp,fun t y h=>by omega,fun t y h ag=>by rw[aC0 h] at ag; cases ag⟩;rintro m ah l ⟨i,j,g2,jx,eW,rfl,cd,bg,bL,et,hB,gJ,h1,ag⟩;obtain⟨ah,rfl⟩:=A8 cd bg bL et hB gJ;clear cd bg bL et hB gJ;unfold Wm;by_cases aP:i<j
 ·obtain⟨h,aR⟩:∃ h,h=(i+j) / 2:=⟨_,rfl⟩
  have cb:IntKind.i64.wrap ((i:Int)+j)=((i+j:Nat) :Int) :=by rw[IntKind.wrap_i64]; omega
  have w2:IntKind.u64.wrap ((i+j:Nat) :Int)=((i+j:Nat) :Int) :=by rw[uO,aDI]; unfold u; rw[aC7,aC1 (by omega)]
  have eF:=aul (i+j) (by omega);have n5:IntKind.i64.wrap (h:Int)=(h:Int) :=by rw[IntKind.wrap_i64]; omega
  have qL:IntKind.i64.wrap ((h:Int)+1)=((h+1:Nat) :Int) :=by rw[IntKind.wrap_i64]; omega
  have h4:(i:Int)<(j:Int) :=by omega
  rw[<-aR] at eF;obtain⟨y,aE,b6⟩:=bV (l:=s.l) (k:=h) (by omega);have b8:=c3 (ax y b6);have nj:=fK y;have bZ:cC (.av 32) (bc s) (.int .i64 (h:Int))=some (.cm (a1 y) 0) :=by simp[bc,aE]
  have h3:=hs y b6;obtain⟨Y,dB⟩:∃ Y,Y=a1 y:=⟨_,rfl⟩
  rw[<-dB] at b8 nj bZ h3;obtain⟨N,fu⟩:∃ N,N=i+j:=⟨_,rfl⟩
  rw[<-fu] at cb w2 eF;simp[aP,cb,w2,eF,n5,bZ,b8,bm,aCI];refine⟨IX,a8 h3 (by simp[a7,ad.closed,nj,jz]) ?_⟩;by_cases bM:cI y x<0
  ·simp[bM,qL];refine⟨j - (h+1),by omega,h+1,j,rfl,by omega,by omega,by simp,by simp,by simp,by simp,by simp,by simp,by simp,fun t z aQ az=>?_,ag⟩;by_cases KI:t=h
   ·subst KI; rw[aE] at az; obtain rfl:=Option.some.inj az; exact bM
   ·exact vf _ _ _ (AY hm (by omega) az aE) bM
  ·simp[bM];refine⟨h - i,by omega,i,h,rfl,by omega,by omega,by simp,by simp,by simp,by simp,by simp,by simp,by simp,h1,fun t z aQ az dq=>bM ?_⟩;by_cases KI:t=h
   ·subst KI; rw[aE] at az; obtain rfl:=Option.some.inj az; exact dq
   ·exact vf _ _ _ (AY hm (by omega) aE az) dq
 ·have h4:¬ (i:Int)<(j:Int) :=by omega
  obtain rfl:i=j:=by omega
  have ak:=Iw x (l:=s.l) (p:=i) eW h1 (fun y aE=>ag i y (aCL _) aE);have kC:∀ {y:List B},s.l[i]? = some y->(y=x<->x∈s.l) :=fun {y} aE=>by
   constructor
   ·rintro rfl; exact aCP aE
   ·intro C2;obtain⟨t,aQ⟩:=aCY.1 C2;rcases aEb t i with aq | aq | aq
    ·have:=h1 t x aq aQ; rw[pP] at this; omega
    ·subst aq; rw[aE] at aQ; exact Option.some.inj aQ
    ·exact absurd (AY hm aq aE aQ) (ag i y (aCL _) aE)
  by_cases dZ:i<s.l.length
  ·have J2:(i:Int)<(s.l.length:Int) :=by omega
   obtain⟨y,aE,b6⟩:=bV (l:=s.l) (k:=i) dZ;have b8:=c3 (ax y b6);have nj:=fK y;have bZ:cC (.av 32) (bc s) (.int .i64 (i:Int))=some (.cm (a1 y) 0) :=by simp[bc,aE]
   have h3:=hs y b6;have Cn:cI y x=0<->x∈s.l:=by
    rw[<-kC aE];exact⟨r7,fun h=>by rw[h]; exact pP _⟩
   obtain⟨Y,dB⟩:∃ Y,Y=a1 y:=⟨_,rfl⟩
   rw[<-dB] at b8 nj bZ h3;simp[dZ,bZ,b8,bm,aCI];refine⟨IX,a8 h3 (by simp[a7,ad.closed,nj,jz]) ?_⟩;simp;refine aJ ?_ rfl;rw[ak];simp[Cn]
  ·have J2:¬ (i:Int)<(s.l.length:Int) :=by omega
   simp[dZ];refine aJ ?_ rfl;have fT:¬ x∈s.l:=fun C2=>by
    obtain⟨t,aQ⟩:=aCY.1 C2;have:=h1 t x (by have:=(aCJ.1 aQ).1; omega) aQ;rw[pP] at this; omega
   rw[ak,decide_eq_false fT]
theorem w4 {l:List (List B)} (hm:eH l=true) {k:Nat} {x:List B} (h:l[k]? = some x) :r9 l x=k:=
 Iw x (aD4 (aCJ.1 h).1) (fun t y aQ aE=>AY hm aQ aE h) (fun y aE=>by rw[h] at aE; obtain rfl:=Option.some.inj aE; rw[pP]; omega)
structure cR where
 ids:eN
 ops:dX bJ
def c8 (s:dX bJ) :ad:=c0 11 bn s
def dK (g:cR) :List ad:=[bc g.ids,c8 g.ops]
def de (g:cR) :ad:=.aM (dK g)
structure ib (g:cR) :Prop where
 ids:gx g.ids
 ops:∀ o∈g.ops.l,ic o
 li:g.ids.l.length<=1000000
 dn:g.ops.l.length<=1000000
theorem ml (s:dX bJ) :(c8 s).closed=true:=ve i6 s
theorem aiq (g:cR) :a7 (dK g)=true:=by have:=eZ g.ids; have:=ml g.ops; simp[dK,a7, *]
theorem EF (g:cR) :(de g).closed=true:=by simp[de,ad.closed,aiq]
def dR (ops:List bJ) (i:Nat) :List (List B) :=match ops[i]? with | some o=>o.bN.l | none=>[]
theorem yr {ops:List bJ} {i:Nat} {o:bJ} (h:ops[i]? = some o) :dR ops i=o.bN.l:=by unfold dR; rw[h]
inductive qN (ids:List (List B)) (ops:List bJ) :Nat->Prop
 | mk (i:Nat) (aB:i<ids.length) (aF:∀ p∈dR ops i,p∈ids) (aA:∀ p∈dR ops i,∀ j,ids[j]? = some p->qN ids ops j) :qN ids ops i
theorem qN.lt {ids:List (List B)} {ops:List bJ} {i:Nat} (h:qN ids ops i) :i<ids.length:=by cases h; assumption
def kK (ids:List (List B)) :Prop:=∀ (i j:Nat) (x:List B),ids[i]? = some x->ids[j]? = some x->i=j
theorem sJ {ids:List (List B)} (h:eH ids=true) :kK ids:=fun _ _ _ h1 ag=>atO h h1 ag
theorem uJ:∀ {a b:List Nat},a.Nodup->(∀ x∈a,x∈b)->a.length<=b.length
 | [],_,_,_=>aD5 _
 | x::a,b,aI,ap=>by
  rw[aE8] at aI;have al:=ap x (by simp);have aY:=uJ (b:=b.erase x) aI.2 (fun y aE=>(List.mem_erase_of_ne (fun e=>aI.1 (by rw[<-e]; exact aE))).2 (ap y (by simp[aE])));rw[aFY al] at aY;have:=List.length_pos_of_mem al;simp; omega
def pM (ids:List (List B)) (ops:List bJ) (out:List Nat) (i:Nat) :Bool:=decide (i∉out)&&tp (out.map (cw ids)) (dR ops i)
def kp (ids:List (List B)) (ops:List bJ) (out:List Nat) :Option Nat:=(List.range ops.length).find? (pM ids ops out)
def gy (ids:List (List B)) (ops:List bJ) :Nat->List Nat
 | 0=>[]
 | k+1=>match kp ids ops (gy ids ops k) with | some i=>gy ids ops k++[i] | none=>gy ids ops k
def ps (ids:List (List B)) (ops:List bJ) :List Nat:=gy ids ops ops.length
theorem ao0 {ids:List (List B)} {ops:List bJ} {out:List Nat} {i:Nat} (h:kp ids ops out=some i) :i<ops.length/\i∉out/\∀ p∈dR ops i,p∈out.map (cw ids) :=by
 have h1:=List.find?_some h;have ag:=aFM h;unfold pM at h1;rw[aCQ,decide_eq_true_eq] at h1;exact⟨aDw.1 ag,h1.1,of_decide_eq_true h1.2⟩
theorem aoZ {ids:List (List B)} {ops:List bJ} {out:List Nat} (h:kp ids ops out=none) {i:Nat} (aB:i<ops.length) (ax:i∉out) :¬ ∀ p∈dR ops i,p∈out.map (cw ids) :=by
 intro aR;have:=List.find?_eq_none.1 h i (aDw.2 aB);apply this;unfold pM;rw[aCQ];exact⟨decide_eq_true ax,decide_eq_true aR⟩
theorem aoX {ids:List (List B)} {ops:List bJ} {out:List Nat} {i:Nat} (aB:i<ops.length) (h:pM ids ops out i=true) (ai:∀ j,j<i->pM ids ops out j=false) :kp ids ops out=some i:=by
 unfold kp;rw[List.find?_range_eq_some];exact⟨h,by simpa using aB,fun j am=>by rw[ai j am]; rfl⟩
theorem aoY {ids:List (List B)} {ops:List bJ} {out:List Nat} (ai:∀ j,j<ops.length->pM ids ops out j=false) :kp ids ops out=none:=by
 unfold kp;rw[List.find?_eq_none];intro j am;rw[ai j (aDw.1 am)]; simp
theorem Dx {ids:List (List B)} {ops:List bJ} {k i:Nat} (h:kp ids ops (gy ids ops k)=some i) :gy ids ops (k+1)=gy ids ops k++[i] :=by
 show (match kp ids ops (gy ids ops k) with | some i=>gy ids ops k++[i] | none=>gy ids ops k)=_;rw[h]
theorem G1 {ids:List (List B)} {ops:List bJ} {k:Nat} (h:kp ids ops (gy ids ops k)=none) :gy ids ops (k+1)=gy ids ops k:=by
 show (match kp ids ops (gy ids ops k) with | some i=>gy ids ops k++[i] | none=>gy ids ops k)=_;rw[h]
theorem Dw (ids:List (List B)) (ops:List bJ) (aI:ids.length=ops.length) (am:kK ids) :∀ k,(gy ids ops k).Nodup/\(gy ids ops k).length<=k/\∀ i∈gy ids ops k,i<ops.length/\qN ids ops i
 | 0=>⟨List.nodup_nil,aCL _,fun i aB=>by cases aB⟩
 | k+1=>by
  obtain⟨h1,ag,aq⟩:=Dw ids ops aI am k;cases al:kp ids ops (gy ids ops k) with
  | none=>rw[G1 al]; exact⟨h1,by omega,aq⟩
  | some i=>
   rw[Dx al];obtain⟨br,bI,a3⟩:=ao0 al;refine⟨?_,by simp; omega,fun j zS=>?_⟩
   ·rw[aEx];refine⟨h1,by simp,fun x al y aE e=>?_⟩;rw[aDm] at aE;subst e;rw[aE] at al;exact bI al
   ·rw[aDr,aDm] at zS;rcases zS with zS | rfl
    ·exact aq j zS
    ·have e9:∀ t,t<ids.length->ids[t]? = some (cw ids t) :=fun t aQ=>by
      obtain⟨x,al,_⟩:=bV (l:=ids) aQ;rw[al,iO al]
     refine⟨br,.mk j (by omega) (fun p aF=>?_) fun p aF k4 gj=>?_⟩
     ·obtain⟨t,aQ,rfl⟩:=aC9.1 (a3 p aF);exact aCP (e9 t (by have:=(aq t aQ).1; omega))
     ·obtain⟨t,aQ,rfl⟩:=aC9.1 (a3 p aF);obtain⟨dE,dA⟩:=aq t aQ;rw[am k4 t _ gj (e9 t (by omega))];exact dA
theorem LV {ids:List (List B)} {ops:List bJ} {k:Nat} (h:kp ids ops (gy ids ops k)=none) :∀ m,gy ids ops (k+m)=gy ids ops k
 | 0=>rfl
 | m+1=>by
  have aY:=LV h m;rw[<-aEm,G1 (by rw[aY]; exact h),aY]
theorem XI {n:Nat} {l:List Nat} (aI:l.Nodup) (ar:l.length=n) (ai:∀ i∈l,i<n) :∀ i,i<n->i∈l:=by
 intro i aB;apply Classical.byContradiction;intro fT;have:=uJ (a:=i::l) (b:=List.range n) (aE8.2 ⟨fT,aI⟩) (fun x al=>by
  rw[aDY] at al;rcases al with rfl | al
  ·exact aDw.2 aB
  ·exact aDw.2 (ai x al))
 simp[ar] at this;omega
theorem X4 {ids:List (List B)} {ops:List bJ} (aI:ids.length=ops.length) (am:kK ids) :(ps ids ops).length=ops.length<->∀ i,i<ops.length->qN ids ops i:=by
 obtain⟨h1,ag,aq⟩:=Dw ids ops aI am ops.length;constructor
 ·intro h i aB;exact (aq i (XI h1 h (fun i aB=>(aq i aB).1) i aB)).2
 ·intro h;have o7:∀ k,k<=ops.length->(gy ids ops k).length=k\/∃ m,m<=k/\kp ids ops (gy ids ops m)=none:=by
   intro k
   induction k with
   | zero=>intro _; exact .inl rfl
   | succ k aY=>
    intro hk;rcases aY (by omega) with aH | ⟨m,hm,aH⟩
    ·cases al:kp ids ops (gy ids ops k) with
     | none=>exact .inr ⟨k,by omega,al⟩
     | some i=>left; rw[Dx al]; simp[aH]
    ·exact .inr ⟨m,by omega,aH⟩
  rcases o7 ops.length (aCL _) with aH | ⟨m,hm,aH⟩
  ·exact aH
  ·have cL:gy ids ops ops.length=gy ids ops m:=by
    have:=LV aH (ops.length - m)
    rwa [show m+(ops.length - m)=ops.length by omega] at this
   have fS:∀ i,qN ids ops i->i<ops.length->i∈gy ids ops m:=by
    intro i aA
    induction aA with
    | mk i aB aF aA aY=>
     intro aP;apply Classical.byContradiction;intro fT;refine aoZ aH aP fT fun p CQ=>?_
     obtain⟨j,jX⟩:=aCY.1 (aF p CQ);exact aC9.2 ⟨j,aY p CQ j jX (by have:=(aCJ.1 jX).1; omega),iO jX⟩
   show (gy ids ops ops.length).length=ops.length;rw[cL];have bd:=uJ (a:=List.range ops.length) (b:=gy ids ops m) aFZ fun i aB=>fS i (h i (aDw.1 aB)) (aDw.1 aB)
   rw[List.length_range] at bd;rw[cL] at ag;omega
theorem SH (g:cR) (aA:ib g) (aC:eH g.ids.l=true) (x:List B) (al:x.length=32) :bE Tryz.prog GS 114 [de g,.aM (a1 x)] (.b5 [.int .i64 (r9 g.ids.l x),.bool (decide (x∈g.ids.l))]) :=by
 refine bS Tryz.checked.mixed bP ?_;apply bw afg apW;unfold OW YR;have dY:=eZ g.ids;have cQ:=ml g.ops;have eu:=fK x;have bm:=c3 al;have ap:=acp g.ids aA.ids aA.li x al aC;obtain⟨X,ce⟩:∃ X,X=a1 x:=⟨_,rfl⟩
 rw[<-ce] at ap eu bm ⊢;simp[de,dK,bm,aCI];refine a8 ap (by simp[a7,ad.closed,dY,eu]) ?_;simp;exact aJ rfl rfl
def h2 (n:Nat) :List ad:=[.int .i64 (n:Int)]
def lw (b:Bool) :List ad:=[.bool b]
def hn {α:Type} (l:List α) :dX α:=match l with | []=>none | x::r=>some (x::r)
theorem jH {α:Type} (l:List α) :(hn l).l=l:=by cases l<;>rfl
theorem A3 {α:Type} (l:List α) :(hn l).isNone=l.isEmpty:=by cases l<;>rfl
def IL (l:dX Nat) :ad:=c0 1 h2 l
theorem Mr {α:Type} (zero:ad) (n:Nat) :ey [zero] n=List.replicate n zero:=by
 rw[Hh]
 induction n with
 | zero=>rfl
 | succ n aY=>rw[aDW,aDM,aY,aDW]; rfl
theorem GJ {z by_ n:Nat} {k k' : IntKind} {zero:List ad} {l:aw} (az:zero.length=z) (h1:n<9223372036854775808) (ag:by_*n<=c4) :
  us z by_ zero l (.int k (n:Int)) (.int k' (n:Int))=some (.av z l.length 0 n n (n*z),l++[.cells (n*z) (ey zero n)])/\bW z (l++[.cells (n*z) (ey zero n)]) (.av z l.length 0 n n (n*z)) l.length (List.replicate n zero) :=by
 constructor
 ·have aq:(by_:Int)*(n:Int)<=(c4:Int) :=by rw[<-Int.natCast_mul]; omega
  simp only[us,aDf];rw[if_pos ⟨by omega,by omega,by omega,aq⟩]
 ·refine .av l.length n n (n*z) (ey zero n) _ (by rw[aCT (aCL _)]; simp) (by rw[AW,az]) (by simp) (fun e au=>by rw[aD9 au]; exact az) (aCL _) (aCL _) ?_;rw[aCI (by rw[AW,az]; omega),Hh]
def qY (n:Nat) (out:List Nat) :List Bool:=(List.range n).map fun i=>decide (i∈out)
theorem EJ {n:Nat} {out:List Nat} {i:Nat} (h:i<n) :(qY n out)[i]? = some (decide (i∈out)) :=by
 unfold qY; rw[aCO,aDN h]; rfl
theorem BI (n:Nat) (out:List Nat) :(qY n out).length=n:=by simp[qY]
theorem aiR {n:Nat} {out:List Nat} {i:Nat} (h:i<n) :(qY n out).set i true=qY n (out++[i]) :=by
 apply aDF;intro j;by_cases am:j<n
 ·rw[EJ am,aEg];by_cases jx:i=j
  ·subst jx; simp[BI,h]
  ·rw[if_neg jx,EJ am];simp[Ne.symm jx]
 ·rw[aC0 (by simp[BI]; omega),aC0 (by simp[BI]; omega)]
theorem aiQ (n:Nat) :qY n []=List.replicate n false:=by
 apply aDF;intro j;by_cases am:j<n
 ·rw[EJ am]; simp[am]
 ·rw[aC0 (by simp[BI]; omega),aC0 (by simp; omega)]
theorem one_cell {cs:List ad} {o:Nat} {c:ad} (h:(cs.drop o).take 1=[c]) :cs[o]? = some c:=by
 have h1:((cs.drop o).take 1)[0]? = some c:=by rw[h]; rfl
 rw[aCW (by omega),aDh] at h1;exact h1
structure adT (g:cR) (out:List Nat) (v3 v4 v5:ad) (rest:aw) :Prop where
 ex:∃ mH k8 hf,bW 1 (.cells 2 (dK g) ::rest) v3 mH (out.map h2)/\bW 32 (.cells 2 (dK g) ::rest) v4 k8 ((out.map (cw g.ids.l)).map a1)/\bW 1 (.cells 2 (dK g) ::rest) v5 hf ((qY g.ops.l.length out).map lw) ∧
  1<=hf/\cX v5=false/\cX v3=out.isEmpty/\cX v4=out.isEmpty/\(out=[]\/(1<=mH/\1<=k8/\mH≠k8/\mH≠hf/\k8≠hf))
set_option maxHeartbeats 4000000 in
theorem as2 (g:cR) (aA:ib g) (ar:g.ids.l.length=g.ops.l.length) (am:kK g.ids.l) :bE Tryz.prog GS 83 [de g] (IL (hn (ps g.ids.l g.ops.l))) :=by
 refine bS Tryz.checked.mixed bP ?_;apply bw ahQ asz;unfold Rx abr;have l3:c4=140737488355328:=rfl;have dY:=eZ g.ids;have cQ:=ml g.ops;have fY:c1 (.av 11) (c8 g.ops)=some (.int .i64 g.ops.l.length) :=by simp[c8]
 have bu:=aA.dn;obtain⟨g2,lG⟩:=GJ (z:=1) (by_:=1) (n:=g.ops.l.length) (k:=.i64) (k':=.i64) (zero:=[ad.bool false]) (l:=[bp.cells 2 (dK g)]) rfl (by omega) (by rw[l3]; omega);simp only[dK,aEk,Mr (α:=Nat)] at g2 lG;simp[de,dK,fY,g2];refine rv (fun m ah l=>∃ (k:Nat) (rest:aw),l=.cells 2 (dK g) ::rest/\ah 1=.ptr 0 0 2/\adT g (gy g.ids.l g.ops.l k) (ah 3) (ah 4) (ah 5) rest ∧
  ((ah 6=.bool true/\(gy g.ids.l g.ops.l k).length=k/\m=g.ops.l.length - k+1)\/(ah 6=.bool false/\kp g.ids.l g.ops.l (gy g.ids.l g.ops.l k)=none/\k<=g.ops.l.length/\m=0))) ?_ (g.ops.l.length+1) _ _ ?_
 ·rintro m ah l ⟨k,rest,rfl,aW,q3,ap⟩;obtain⟨v3,bj⟩:∃ v,ah 3=v:=⟨_,rfl⟩
  obtain⟨v4,bL⟩:∃ v,ah 4=v:=⟨_,rfl⟩
  obtain⟨v5,bC⟩:∃ v,ah 5=v:=⟨_,rfl⟩
  rw[bj,bL,bC] at q3;obtain⟨out,l0⟩:∃ out,out=gy g.ids.l g.ops.l k:=⟨_,rfl⟩
  rw[<-l0] at q3 ap;obtain⟨xY,fa,ot⟩:=Dw g.ids.l g.ops.l ar am k;rw[<-l0] at xY fa ot;have cH:out.length<=g.ops.l.length:=by
   have:=uJ (b:=List.range g.ops.l.length) xY (fun x al=>aDw.2 (ot x al).1);simpa using this
  rcases ap with ⟨cv,hk,rfl⟩ | ⟨cv,fT,iM,rfl⟩
  ·obtain⟨ah,rfl⟩:=mR aW bj bL bC cv;clear aW bj bL bC cv;unfold Lv;simp;refine c2 g.ops.l.length (fun i ah l=>l=.cells 2 (dK g) ::rest/\ah 1=.ptr 0 0 2/\ah 3=v3/\ah 4=v4/\ah 5=v5/\ah 6=.bool false/\ah 7=.int .i64 i/\∀ j,j<i->pM g.ids.l g.ops.l out j=false) ?_ (by simp);rintro i ah l aB ⟨rfl,aW,bj,bL,bC,cv,eU,ap⟩;obtain⟨ah,rfl⟩:=A8 aW bj bL bC cv eU;clear aW bj bL bC cv eU;unfold Xh;by_cases ea:i<g.ops.l.length
   ·obtain⟨o,ax,e2⟩:=bV ea;have a2:IntKind.i64.wrap ((i:Int)+1)=((i+1:Nat) :Int) :=by rw[IntKind.wrap_i64]; omega
    have bZ:cC (.av 11) (c8 g.ops) (.int .i64 (i:Int))=some (.cm (bn o) 0) :=by simp[c8,ax]
    obtain⟨mH,k8,hf,qz,sV,jE,bd,mc,ry,sU,bX⟩:=q3;obtain⟨LZ,EB,wL,br,bI,a3,a4⟩:=jE.q.get (k:=.i64) (i:=i) (e:=lw (decide (i∈out))) (by rw[aCO,EJ ea]; rfl);have a5:=one_cell (c:=.bool (decide (i∈out))) (by simpa [lw] using a4);have nf:=sV.mO (enc:=a1) (xs:=out.map (cw g.ids.l)) (fun x=>fK x) (hn (out.map (cw g.ids.l))) (by rw[sU,A3]; simp) (jH _);have amm:gx (hn (out.map (cw g.ids.l))) :=fun x al=>by
     rw[jH] at al;obtain⟨t,aQ,rfl⟩:=aC9.1 al;obtain⟨y,aE,b6⟩:=bV (l:=g.ids.l) (k:=t) (by have:=(ot t aQ).1; omega);rw[iO aE]; exact aA.ids y b6
    have fS:=abG (hn (out.map (cw g.ids.l))) amm (by rw[jH]; simp; omega) o.bN (aA.ops o e2).ids (aA.ops o e2).len;rw[jH] at fS;have iJ:=eZ o.bN;have Cl:pM g.ids.l g.ops.l out i=(decide (i∉out)&&tp (out.map (cw g.ids.l)) o.bN.l) :=by unfold pM; rw[yr ax]
    simp only[dK] at bI qz sV jE nf;by_cases FP:i∈out
    ·simp[dK,fY,ea,br,bI,a5,FP,a2];intro j am;by_cases ou:j=i
     ·subst ou; rw[Cl]; simp[FP]
     ·exact ap j (by omega)
    ·simp[dK,fY,ea,br,bI,a5,FP,a2,bZ,bn];refine i3 fS (.cons nf (.cons (.same _ iJ) .nil)) rfl ?_;by_cases eP:tp (out.map (cw g.ids.l)) o.bN.l=true
     ·rw[eP] at Cl;obtain⟨y,aE,b6⟩:=bV (l:=g.ids.l) (k:=i) (by omega);have Cw:cC (.av 32) (bc g.ids) (.int .i64 (i:Int))=some (.cm (a1 y) 0) :=by simp[bc,aE]
      have b8:=c3 (aA.ids y b6);obtain⟨Y,dB⟩:∃ Y,Y=a1 y:=⟨_,rfl⟩
      rw[<-dB] at Cw b8;have amT:bO (rep 32 (.int .u8 0)) 0 Y=Y:=fM (by rw[b8]; rfl);obtain⟨l1,gW⟩:∃ l1,l1=bp.cells 2 [bc g.ids,c8 g.ops] ::(rest++[bp.cells 1 [ad.int IntKind.i64 (i:Int)],bp.cells 32 Y]) :=⟨_,rfl⟩
      have Kb:l1.length=rest.length+3:=by rw[gW]; simp
      have sS:bW 1 l1 v3 mH (out.map h2) :=by rw[gW]; exact qz.more _
      have LF:bW 32 l1 v4 k8 ((out.map (cw g.ids.l)).map a1) :=by rw[gW]; exact sV.more _
      have aoz:bW 1 l1 v5 hf ((qY g.ops.l.length out).map lw) :=by rw[gW]; exact jE.more _
      have tW:out=[]->v3=.aK/\v4=.aK:=fun h=>by rw[h] at ry sU; exact⟨jB.1 ry,jB.1 sU⟩
      have aAM:hf<rest.length+1:=by
       rcases jE.lt with h | h
       ·rw[h] at mc; cases mc
       ·simpa using h
      obtain⟨mH,sS,q1,fh,ji,G9⟩:∃ mH,bW 1 l1 v3 mH (out.map h2)/\1<=mH/\mH≠hf/\(out=[]\/mH≠k8)/\(mH<rest.length+1\/l1.length<=mH) :=by
       by_cases h:out=[]
       ·have ay:=(tW h).1;rw[ay,h];exact⟨l1.length,.nil _,by omega,by omega,.inl rfl,.inr (aCL _)⟩
       ·obtain⟨h1,ag,aq,aH,bd⟩:=bX.resolve_left h;refine⟨mH,sS,h1,aH,.inr aq,.inl ?_⟩;rcases qz.lt with fC | fC
        ·rw[fC] at ry;cases out with
         | nil=>exact absurd rfl h
         | cons=>cases ry
        ·simpa using fC
      obtain⟨ac4,vW,cf,aW,bg,bj,bL,bC,cv⟩:=oR (by_:=8) sS (x:=.av 1 (rest.length+1) 0 1 1 1) (xs:=[h2 i]) (by rw[gW]; simp[dL,h2]) (by simp[h2]) (by omega) (by omega) (by rw[l3]; simp; omega);obtain⟨gg,rfl⟩:∃ gg,cf=bp.cells 2 [bc g.ids,c8 g.ops] ::gg:=Du (by rw[bL 0 (by omega) (by omega),gW]; rfl);have Ce:(bp.cells 2 [bc g.ids,c8 g.ops] ::gg)[rest.length+2]? = some (.cells 32 Y) :=by rw[bL (rest.length+2) (by omega) (by omega),gW]; simp
      have gK:(bp.cells 2 [bc g.ids,c8 g.ops] ::gg)[rest.length+1]? = some (.cells 1 [.int .i64 (i:Int)]) :=by rw[bL (rest.length+1) (by omega) (by omega),gW]; simp
      have km:=aoz.frame (l':=bp.cells 2 [bc g.ids,c8 g.ops] ::gg) (fun h=>bL hf h (Ne.symm fh));rw[gW] at aW;simp[eP,Cw,b8,amT,aCI,aW];refine dx.c6 ?_;simp;have TE:gg[rest.length+1]? = some (.cells 32 Y) :=by simpa using Ce
      refine⟨⟨TE,by omega,aCI (by omega)⟩,?_⟩;have Vh:ac4≠.aK:=fun h=>by have:=(cv.1 h).2; cases this
      have ayT:vW<gg.length+1:=by have:=bg.lt.resolve_left Vh; simpa using this
      have J3:1<=vW/\vW≠hf:=by rcases bC with h | h<;>omega
      obtain⟨k8,LF,t1,t2,t3,t4⟩:∃ k8,bW 32 (bp.cells 2 [bc g.ids,c8 g.ops] ::gg) v4 k8 ((out.map (cw g.ids.l)).map a1)/\1<=k8/\k8≠hf/\k8≠vW/\(k8<gg.length+1\/gg.length+1<=k8) :=by
       by_cases h:out=[]
       ·have ay:=(tW h).2;rw[ay,h];simp at bj;exact⟨gg.length+1,.nil _,by omega,by omega,by omega,.inr (aCL _)⟩
       ·obtain⟨h1,ag,aq,aH,bd⟩:=bX.resolve_left h;have bM:k8<rest.length+1:=by
         rcases sV.lt with fC | fC
         ·rw[fC] at sU;cases out with
          | nil=>exact absurd rfl h
          | cons=>cases sU
         ·simpa using fC
        have dq:=ji.resolve_left h;refine⟨k8,LF.frame (fun h=>bL k8 h (Ne.symm dq)),ag,bd,by rcases bC with h | h<;>omega,.inl (by simp at bj; omega)⟩
      obtain⟨ac5,vX,fb,f1,f2,f3,f4,f5,f6⟩:=oR (by_:=32) LF (x:=.av 32 (rest.length+1+1) 0 1 1 32) (xs:=[Y]) (by simp[dL,b8,TE,aCI]) (by simp[b8]) (by omega) (by omega) (by rw[l3]; simp; omega);obtain⟨mM,rfl⟩:∃ mM,fb=bp.cells 2 [bc g.ids,c8 g.ops] ::mM:=Du (by rw[f4 0 (by simp) (by omega)]; rfl);have Vi:ac5≠.aK:=fun h=>by have:=(f6.1 h).2; cases this
      have ayU:vX<mM.length+1:=by have:=f2.lt.resolve_left Vi; simpa using this
      have eF:=bg.frame (l':=bp.cells 2 [bc g.ids,c8 g.ops] ::mM) (fun h=>f4 vW h (Ne.symm t3));have qL:=km.frame (l':=bp.cells 2 [bc g.ids,c8 g.ops] ::mM) (fun h=>f4 hf h (Ne.symm t2));obtain⟨p,j3,lk,mQ,Nd,ac1,Nf⟩:=yo (k:=i) (x:=true) (X:=.bool true) (enc:=lw) rfl qL (fun _ _=>rfl) (by rw[BI]; exact ea) rfl;simp[f1];refine dx.c6 ?_;simp[lk,mQ];have IV:vX=k8\/gg.length+1<=vX:=by simpa using f5
      have ayl:rest.length+3<=gg.length+1:=by rw[Kb] at bj; simpa using bj
      have iB:1<=vX:=by rcases IV with h | h<;>omega
      have hq:vX≠hf:=by rcases IV with h | h<;>omega
      have z3:vW≠vX:=by rcases IV with h | h<;>omega
      obtain⟨qC,rfl⟩:∃ qC,j3=bp.cells 2 [bc g.ids,c8 g.ops] ::qC:=Du (by rw[Nf 0 (by omega)]; rfl);have pg:kp g.ids.l g.ops.l out=some i:=aoX ea (by rw[Cl]; simp[FP]) ap;have mA:gy g.ids.l g.ops.l (k+1)=out++[i] :=by rw[Dx (by rw[<-l0]; exact pg),<-l0]
      have aP:k<g.ops.l.length:=by
       have fC:=(Dw g.ids.l g.ops.l ar am (k+1)).1;rw[mA] at fC;have:=uJ (b:=List.range g.ops.l.length) fC (fun x al=>aDw.2 (by
        rw[aDr,aDm] at al;rcases al with al | rfl
        ·exact (ot x al).1
        ·exact ea))
       simp at this; omega
      have dG:(out++[i]).map h2=out.map h2++[h2 i] :=by simp
      have j8:((out++[i]).map (cw g.ids.l)).map a1=(out.map (cw g.ids.l)).map a1++[Y] :=by
       have alJ:cw g.ids.l i=y:=iO aE;rw[aDe,aDe,List.map_singleton,List.map_singleton,alJ,dB]
      refine⟨g.ops.l.length - (k+1)+1,by omega,k+1,qC,rfl,?_,by rw[mA]; simp[hk],rfl⟩;rw[mA];refine⟨⟨vW,vX,hf,?_,?_,?_,bd,mc,?_,?_,.inr ⟨J3.1,iB,z3,J3.2,hq⟩⟩⟩
      ·rw[dG]; exact eF.frame (fun h=>Nf vW J3.2)
      ·rw[j8]; exact f2.frame (fun h=>Nf vX hq)
      ·rw[<-aiR ea]; exact Nd
      ·cases ay:cX ac4 with
       | true=>exact absurd (jB.1 ay) Vh
       | false=>simp
      ·cases ay:cX ac5 with
       | true=>exact absurd (jB.1 ay) Vi
       | false=>simp
     ·rw[aE3] at eP;rw[eP] at Cl;simp[eP,ea,a2];refine⟨rfl,fun j am=>?_⟩;by_cases ou:j=i
      ·subst ou; rw[Cl]; simp
      ·exact ap j (by omega)
   ·have ayS:i=g.ops.l.length:=by omega
    simp[dK,fY,ea];have fT:kp g.ids.l g.ops.l out=none:=aoY fun j am=>ap j (by omega)
    refine⟨0,by omega,k,by rw[<-l0]; exact q3,by rw[<-l0]; exact fT,by omega,rfl⟩
  ·obtain⟨ah,rfl⟩:=mR aW bj bL bC cv;clear aW bj bL bC cv;unfold Lv;simp;obtain⟨mH,k8,hf,qz,sV,jE,bd,mc,ry,sU,bX⟩:=q3;have cL:ps g.ids.l g.ops.l=out:=by
    unfold ps;have:=LV (k:=k) (by rw[<-l0]; exact fT) (g.ops.l.length - k);rw[show k+(g.ops.l.length - k)=g.ops.l.length by omega,<-l0] at this;exact this
   rw[cL];exact qz.q.mP (fun x=>rfl) (hn out) (by rw[ry,A3]) (jH _)
 ·refine⟨0,_,rfl,by simp,?_,.inl ⟨by simp,rfl,rfl⟩⟩;simp;refine⟨⟨0,0,1,.nil 0,.nil 0,?_,by omega,rfl,rfl,rfl,.inl rfl⟩⟩;show bW _ _ _ _ ((qY g.ops.l.length []).map lw);have:(qY g.ops.l.length []).map lw=List.replicate g.ops.l.length [ad.bool false] :=by rw[aiQ,List.map_replicate]; rfl
  rw[this];exact lG
def wd (ids:List (List B)) (ops:List bJ) :Bool:=decide (∀ o∈ops,tp ids o.bN.l=true)
def n1 (ids:List (List B)) (ops:List bJ) :Int:=if eH ids=true then (if wd ids ops=true then (if (ps ids ops).length=ops.length then 0 else 36) else 40) else 32
theorem atc (g:cR) (aA:ib g) (ar:g.ids.l.length=g.ops.l.length) :bE Tryz.prog GS 40 [de g] (.int .i64 (n1 g.ids.l g.ops.l)) :=by
 refine bS Tryz.checked.mixed bP ?_;apply bw ahi ar0;unfold QZ aaS;have dY:=eZ g.ids;have cQ:=ml g.ops;have jw:=EF g;have fY:c1 (.av 11) (c8 g.ops)=some (.int .i64 g.ops.l.length) :=by simp[c8]
 have bu:=aA.dn;have F3:=Hc g.ids aA.ids aA.li;simp[de,dK,fY];refine a8 F3 (by simp[a7,dY]) ?_;by_cases aC:eH g.ids.l=true
 ·have am:=sJ aC;have nP:=as2 g aA ar am;unfold de dK at nP jw;simp[aC];refine c2 g.ops.l.length (fun k ah l=>l=[.cells 2 [bc g.ids,c8 g.ops]]/\ah 1=.ptr 0 0 2/\ah 3=.int .i64 k/\∀ (j:Nat) (o:bJ),j<k->g.ops.l[j]? = some o->tp g.ids.l o.bN.l=true) ?_ (by simp);rintro k ah l hk ⟨rfl,aW,bj,ap⟩;obtain⟨ah,rfl⟩:=lS aW bj;clear aW bj;unfold WW;by_cases dt:k<g.ops.l.length
  ·obtain⟨o,ax,e2⟩:=bV dt;have a2:IntKind.i64.wrap ((k:Int)+1)=((k+1:Nat) :Int) :=by rw[IntKind.wrap_i64]; omega
   have bZ:cC (.av 11) (c8 g.ops) (.int .i64 (k:Int))=some (.cm (bn o) 0) :=by simp[c8,ax]
   have fS:=abG g.ids aA.ids aA.li o.bN (aA.ops o e2).ids (aA.ops o e2).len;have iJ:=eZ o.bN;simp[fY,dt,bZ,bn];refine a8 fS (by simp[a7,dY,iJ]) ?_;by_cases eP:tp g.ids.l o.bN.l=true
   ·simp[eP,dt,a2];intro j eh fp ev;by_cases eL:j=k
    ·subst eL; rw[ax] at ev; obtain rfl:=Option.some.inj ev; exact eP
    ·exact ap j eh (by omega) ev
   ·rw[aE3] at eP;simp[eP];refine aJ (congrArg (ad.int .i64) ?_) rfl;have fT:¬ wd g.ids.l g.ops.l=true:=fun h=>by
     have:=of_decide_eq_true h o e2;rw[eP] at this; cases this
    unfold n1;rw[if_pos aC,if_neg fT]
  ·have lE:k=g.ops.l.length:=by omega
   have gN:wd g.ids.l g.ops.l=true:=decide_eq_true fun o e2=>by
    obtain⟨j,fp⟩:=aCY.1 e2;exact ap j o (by rw[lE]; exact (aCJ.1 fp).1) fp
   have eD:(ps g.ids.l g.ops.l).length<=g.ops.l.length:=(Dw g.ids.l g.ops.l ar am _).2.1;have rh:c1 (.av 1) (IL (hn (ps g.ids.l g.ops.l)))=some (.int .i64 (ps g.ids.l g.ops.l).length) :=by unfold IL; rw[rr,jH]
   simp[fY,dt];refine a8 nP (by simp[a7,jw]) ?_;by_cases aP:(ps g.ids.l g.ops.l).length<g.ops.l.length
   ·simp[fY,rh,aP];refine aJ (congrArg (ad.int .i64) ?_) rfl;unfold n1;rw[if_pos aC,if_pos gN,if_neg (by omega)]
   ·simp[fY,rh,aP];refine aJ (congrArg (ad.int .i64) ?_) rfl;unfold n1;rw[if_pos aC,if_pos gN,if_pos (by omega)]
 ·rw[aE3] at aC;simp[aC];refine aJ (congrArg (ad.int .i64) ?_) rfl;unfold n1;rw[aC]; rfl
def m1 (g:cR) (k:Nat) :Bool:=match g.ops.l[k]?,g.ids.l[k]? with
 | some o,some x=>decide (rO o=0)&&decide (db o=x)
 | _,_=>true
def xj (g:cR) :Bool:=decide (∀ k,k<g.ops.l.length->m1 g k=true)
theorem zt (g:cR) :xj g=true<->∀ k,k<g.ops.l.length->m1 g k=true:=by unfold xj; rw[decide_eq_true_eq]
def gR (g:cR) :Int:=if 60<g.ops.l.length then 4 else if g.ids.l.length=g.ops.l.length then (if xj g=true then n1 g.ids.l g.ops.l else 8) else 8
theorem E3 {g:cR} {k:Nat} {o:bJ} {x:List B} (ax:g.ops.l[k]? = some o) (al:g.ids.l[k]? = some x) :m1 g k=(decide (rO o=0)&&decide (db o=x)) :=by
 unfold m1; rw[ax,al]
theorem Nn {o:bJ} (h:rO o=0) :fZ o=0:=by
 unfold rO at h;by_cases aG:fZ o=0
 ·exact aG
 ·rw[if_neg aG] at h; exact h
theorem KU (o:bJ) :(db o).length=32:=by
 unfold db;split
 ·exact uH _
 ·simp
set_option maxHeartbeats 4000000 in
theorem asS (g:cR) (aA:ib g) :bE Tryz.prog GS 11 [de g] (.int .i64 (gR g)) :=by
 refine bS Tryz.checked.mixed bP ?_;apply bw afk ap0;unfold OQ YM;have dY:=eZ g.ids;have cQ:=ml g.ops;have jw:=EF g;have fY:c1 (.av 11) (c8 g.ops)=some (.int .i64 g.ops.l.length) :=by simp[c8]
 have jY:c1 (.av 32) (bc g.ids)=some (.int .i64 g.ids.l.length) :=by simp[bc]
 have bu:=aA.dn;by_cases i9:60<(g.ops.l.length:Int)
 ·simp[de,dK,fY,i9];refine aJ (congrArg (ad.int .i64) ?_) rfl;unfold gR; rw[if_pos (by omega)]
 by_cases ar:g.ids.l.length=g.ops.l.length
 ·have pi:=atc g aA ar;unfold de dK at pi jw;have dN:(g.ids.l.length:Int)=(g.ops.l.length:Int) :=by omega
  simp[de,dK,fY,jY,i9,dN];refine c2 g.ops.l.length (fun k ah l=>l=[.cells 2 [bc g.ids,c8 g.ops]]/\ah 1=.ptr 0 0 2/\ah 3=.int .i64 k/\∀ j,j<k->m1 g j=true) ?_ (by simp);rintro k ah l hk ⟨rfl,aW,bj,ap⟩;obtain⟨ah,rfl⟩:=lS aW bj;clear aW bj;unfold V4;by_cases dt:k<g.ops.l.length
  ·obtain⟨o,ax,e2⟩:=bV dt;obtain⟨x,al,dT⟩:=bV (l:=g.ids.l) (k:=k) (by omega);have eC:=E3 ax al;have a2:IntKind.i64.wrap ((k:Int)+1)=((k+1:Nat) :Int) :=by rw[IntKind.wrap_i64]; omega
   have bZ:cC (.av 11) (c8 g.ops) (.int .i64 (k:Int))=some (.cm (bn o) 0) :=by simp[c8,ax]
   have xP:cC (.av 32) (bc g.ids) (.int .i64 (k:Int))=some (.cm (a1 x) 0) :=by simp[bc,al]
   have ay:=atm o (aA.ops o e2);have oq:=i6 o;have bm:=c3 (aA.ids x dT);have cH:(bn o).length=11:=rfl;have q4:¬ m1 g k=true->gR g=8:=fun h=>by
    unfold gR;rw[if_neg (by omega),if_pos ar,if_neg fun aR=>h ((zt g).1 aR k dt)]
   by_cases pj:rO o=0
   ·have aG:=Nn pj;have k0:=Mh o (aA.ops o e2) (by have:=wc aG; omega);have iK:db o=iR (iu o) :=by unfold db; rw[if_pos aG]
    rw[<-iK] at k0;have heq:=C9 (KU o) (aA.ids x dT);change bE Tryz.prog GS 33 [.aM (bn o)] (.aM (a1 (db o))) at k0;obtain⟨I,q3⟩:∃ I,I=a1 (db o) :=⟨_,rfl⟩
    rw[<-q3] at k0 heq;rw[pj] at ay;obtain⟨O,eO⟩:∃ O,O=bn o:=⟨_,rfl⟩
    obtain⟨X,ce⟩:∃ X,X=a1 x:=⟨_,rfl⟩
    rw[<-eO] at bZ ay k0 oq cH;rw[<-ce] at xP bm heq;simp[fY,dt,bZ,cH,aCI];refine a8 ay (by simp[a7,ad.closed,oq]) ?_;simp[cH,xP,bm,bZ,aCI];refine a8 k0 (by simp[a7,ad.closed,oq]) ?_;by_cases fO:db o=x
    ·simp[heq,fO,dt,a2,bm,aCI];intro j am;by_cases eL:j=k
     ·subst eL; rw[eC]; simp[pj,fO]
     ·exact ap j (by omega)
    ·have ai:¬ m1 g k=true:=fun h=>by rw[eC] at h; simp[fO] at h
     simp[heq,fO,bm,aCI];exact aJ (congrArg (ad.int .i64) (q4 ai).symm) rfl
   ·have ai:¬ m1 g k=true:=fun h=>by rw[eC] at h; simp[pj] at h
    simp[fY,dt,bZ,cH,aCI];refine a8 ay (by simp[a7,ad.closed,oq]) ?_;simp[pj];exact aJ (congrArg (ad.int .i64) (q4 ai).symm) rfl
  ·have lE:k=g.ops.l.length:=by omega
   simp[fY,dt];refine a8 pi (by simp[a7,jw]) ?_;simp;refine aJ (congrArg (ad.int .i64) ?_) rfl;unfold gR;rw[if_neg (by omega),if_pos ar,if_pos ((zt g).2 fun j am=>ap j (by omega))]
 ·have dN:¬ (g.ids.l.length:Int)=(g.ops.l.length:Int) :=by omega
  simp[de,dK,fY,jY,i9,dN];refine aJ (congrArg (ad.int .i64) ?_) rfl;unfold gR; rw[if_neg (by omega),if_neg ar]
def o9 (ids:List (List B)) (D:List Nat) (p:List B) :Nat:=(D.map fun a=>if p == cw ids a then 1 else 0).sum
def nt (ids:List (List B)) (D:List Nat) (L:List (List B)) :Nat:=(D.map fun a=>L.count (cw ids a)).sum
theorem auW (ids:List (List B)) (D:List Nat) :nt ids D []=0:=by
 unfold nt
 induction D with
 | nil=>rfl
 | cons a D aY=>rw[aDc,aEN,aY]; rfl
theorem acJ (ids:List (List B)) (p:List B) (L:List (List B)) :∀ D,nt ids D (p::L)=nt ids D L+o9 ids D p
 | []=>rfl
 | a::D=>by
  have aY:=acJ ids p L D;unfold nt o9 at aY ⊢;rw[aDc,aEN,aDc,aEN,aDc,aEN,aY,List.count_cons];omega
theorem MS (ids:List (List B)) (D:List Nat) (a:Nat) (L:List (List B)) :nt ids (D++[a]) L=nt ids D L+L.count (cw ids a) :=by
 unfold nt; rw[aDe,List.sum_append]; simp
theorem Oe {ids:List (List B)} (am:kK ids) {i j:Nat} (aB:i<ids.length) (eW:j<ids.length) (h:cw ids i=cw ids j) :i=j:=by
 obtain⟨x,al,_⟩:=bV aB;obtain⟨y,aE,_⟩:=bV eW;rw[iO al,iO aE] at h;subst h;exact am i j x al aE
theorem Ul {ids:List (List B)} {p:List B}:∀ {D:List Nat},(∀ a∈D,cw ids a≠p)->o9 ids D p=0
 | [],_=>rfl
 | a::D,h=>by
  have aY:=Ul (ids:=ids) (p:=p) (D:=D) fun b ai=>h b (by simp[ai])
  have aD:(p == cw ids a)=false:=by rw[beq_eq_false_iff_ne]; exact Ne.symm (h a (by simp))
  unfold o9 at aY ⊢;rw[aDc,aEN,aY,aD]; rfl
theorem Uk {ids:List (List B)} (am:kK ids) {p:List B}:∀ {D:List Nat},D.Nodup->(∀ a∈D,a<ids.length)->o9 ids D p<=1/\(o9 ids D p=1<->∃ a∈D,cw ids a=p)
 | [],_,_=>⟨aD5 _,Iff.intro (fun h=>(by cases h)) (fun ⟨a,aD,_⟩=>(by cases aD))⟩
 | a::D,aI,ai=>by
  rw[aE8] at aI;obtain⟨dO,fF⟩:=Uk (p:=p) am aI.2 (fun b ca=>ai b (by simp[ca]));by_cases h:cw ids a=p
  ·have az:o9 ids D p=0:=Ul fun b TP FB=>aI.1 (by rw[Oe am (ai a (by simp)) (ai b (by simp[TP])) (h.trans FB.symm)]; exact TP)
   have aD:(p == cw ids a)=true:=by rw[h]; simp
   have e:o9 ids (a::D) p=1:=by
    unfold o9 at az ⊢;rw[aDc,aEN,az,aD]; rfl
   rw[e];exact⟨aCL _,fun _=>⟨a,by simp,h⟩,fun _=>rfl⟩
  ·have aD:(p == cw ids a)=false:=by rw[beq_eq_false_iff_ne]; exact Ne.symm h
   have e:o9 ids (a::D) p=o9 ids D p:=by
    unfold o9;rw[aDc,aEN,aD]; simp
   rw[e];refine⟨dO,fF.trans ⟨fun ⟨b,hd,gK⟩=>⟨b,by simp[hd],gK⟩,fun ⟨b,hd,gK⟩=>?_⟩⟩;rw[aDY] at hd;rcases hd with rfl | hd
   ·exact absurd gK h
   ·exact⟨b,hd,gK⟩
theorem MT {ids:List (List B)} (am:kK ids) {D:List Nat} (aI:D.Nodup) (ai:∀ a∈D,a<ids.length) :∀ L:List (List B),nt ids D L<=L.length/\(nt ids D L=L.length<->∀ p∈L,∃ a∈D,cw ids a=p)
 | []=>by rw[auW]; exact⟨aCL _,Iff.intro (fun _ p aF=>by cases aF) (fun _=>rfl)⟩
 | p::L=>by
  obtain⟨dO,fF⟩:=MT am aI ai L;obtain⟨h1,ag⟩:=Uk (p:=p) am aI ai;rw[acJ,aC6];refine⟨by omega,fun h=>?_,fun h=>?_⟩
  ·have a2:nt ids D L=L.length:=by omega
   have b7:o9 ids D p=1:=by omega
   intro q bD;rw[aDY] at bD;rcases bD with rfl | bD
   ·exact ag.1 b7
   ·exact fF.1 a2 q bD
  ·have a2:=fF.2 fun q bD=>h q (by simp[bD])
   have b7:=ag.2 (h p (by simp));omega
structure HP (ids:List (List B)) (ops:List bJ) (cS:List (List Nat)) :Prop where
 len:cS.length=ops.length
 cnt:∀ (a:Nat) (row:List Nat),cS[a]? = some row->∀ k,k<ops.length->row.count k=(dR ops k).count (cw ids a)
 lt:∀ (a:Nat) (row:List Nat),cS[a]? = some row->∀ k∈row,k<ops.length
structure rX (ids:List (List B)) (ops:List bJ) (row:List Nat) (d j:Nat) (R:List Nat) (W:List Int) :Prop where
 md:R.Nodup
 oX:∀ k∈R,k<ops.length/\qN ids ops k
 dl:d<=R.length
 wl:W.length=ops.length
 w:∀ k,k<ops.length->W[k]? = some (((dR ops k).length:Int) - nt ids (R.take d) (dR ops k) - (row.take j).count k)
 r:∀ k,k<ops.length->(k∈R<->W[k]? = some 0)
theorem an8 {ids:List (List B)} {ops:List bJ} (ar:ids.length=ops.length) (am:kK ids) {cS:List (List Nat)} (ai:HP ids ops cS) {a:Nat} {row:List Nat} {d j:Nat} {R:List Nat} {W:List Int}
  (h:rX ids ops row d j R W) (aD:R[d]? = some a) (cW:cS[a]? = some row) {k:Nat} (hk:row[j]? = some k) :
  ∃ x:Int,W[k]? = some x/\1<=x/\x<=(dR ops k).length/\rX ids ops row d (j+1) (if x - 1=0 then R++[k] else R) (W.set k (x - 1)) :=by
 have iM:=ai.lt a row cW k (aCP hk);have zJ:=ai.cnt a row cW k iM;have xH:=(aCJ.1 aD).1;have hC:R.take (d+1)=R.take d++[a] :=by rw[aC4,aD]; rfl
 have ama:(R.take (d+1)).Nodup:=List.Sublist.nodup (aFL _ _) h.md;have qa:∀ b∈R.take (d+1),b<ids.length:=fun b ca=>by have:=(h.oX b (aDs ca)).1; omega
 obtain⟨hF,jG⟩:=MT am ama qa (dR ops k);rw[hC,MS,<-zJ] at hF;have sq:(row.take (j+1)).count k=(row.take j).count k+1:=by
  rw[aC4,hk,aEU]; simp
 have m4:(row.take (j+1)).count k<=row.count k:=List.Sublist.count_le _ (aFL _ _);have hw:=h.w k iM;obtain⟨x,al⟩:∃ x:Int,x=((dR ops k).length:Int) - nt ids (R.take d) (dR ops k) - (row.take j).count k:=⟨_,rfl⟩
 rw[<-al] at hw;have Ak:1<=x:=by omega
 have Us:k∉R:=fun hm=>by
  have:=(h.r k iM).1 hm;rw[hw] at this;have:=Option.some.inj this;omega
 refine⟨x,hw,Ak,by omega,?_⟩;have Ut:k<W.length:=by rw[h.wl]; exact iM
 have CZ:(if x - 1=0 then R++[k] else R).take d=R.take d:=by
  split
  ·rw[aDb (by omega)]
  ·rfl
 have pf:x - 1=0->qN ids ops k:=fun aG=>by
  have heq:nt ids (R.take (d+1)) (dR ops k)=(dR ops k).length:=by rw[hC,MS,<-zJ]; omega
  have fS:=jG.1 heq;have eK:∀ t,t<ids.length->ids[t]? = some (cw ids t) :=fun t aQ=>by
   obtain⟨y,aE,_⟩:=bV (l:=ids) aQ;rw[aE,iO aE]
  refine .mk k (by omega) (fun p aF=>?_) fun p aF k4 gj=>?_
  ·obtain⟨t,aQ,rfl⟩:=fS p aF;exact aCP (eK t (qa t aQ))
  ·obtain⟨t,aQ,rfl⟩:=fS p aF;rw[am k4 t _ gj (eK t (qa t aQ))];exact (h.oX t (aDs aQ)).2
 refine⟨?_,fun y aE=>?_,?_,by simpa using h.wl,fun y aE=>?_,fun y aE=>?_⟩
 ·split
  ·rw[aEx];refine⟨h.md,by simp,fun u aS v ay e=>?_⟩;rw[aDm] at ay;subst e;rw[ay] at aS;exact Us aS
  ·exact h.md
 ·split at aE
  ·rename_i aG;rw[aDr,aDm] at aE;rcases aE with aE | rfl
   ·exact h.oX y aE
   ·exact⟨iM,pf aG⟩
  ·exact h.oX y aE
 ·split
  ·simp; have:=h.dl; omega
  ·exact h.dl
 ·rw[CZ,aEg];by_cases xS:k=y
  ·subst xS;rw[if_pos rfl,if_pos Ut,sq];congr 1;omega
  ·rw[if_neg xS,h.w y aE,aC4,hk,aEU];have:([k] :List Nat).count y=0:=by rw[aE4]; simp[xS]
   simp only[Option.toList_some,this,aFq]
 ·rw[aEg];by_cases xS:k=y
  ·subst xS;rw[if_pos rfl,if_pos Ut];by_cases aG:x - 1=0
   ·rw[if_pos aG]; simp[aG]
   ·rw[if_neg aG];exact⟨fun hm=>absurd hm Us,fun aR=>absurd (Option.some.inj aR) aG⟩
  ·rw[if_neg xS,<-h.r y aE];split
   ·rw[aDr,aDm];exact⟨fun h=>h.resolve_right (Ne.symm xS),.inl⟩
   ·exact Iff.rfl
theorem an5 {ids:List (List B)} {ops:List bJ} {cS:List (List Nat)} (ai:HP ids ops cS) {a:Nat} {row uE:List Nat} {d:Nat} {R:List Nat} {W:List Int}
  (h:rX ids ops row d row.length R W) (aD:R[d]? = some a) (cW:cS[a]? = some row) :rX ids ops uE (d+1) 0 R W:=by
 have hC:R.take (d+1)=R.take d++[a] :=by rw[aC4,aD]; rfl
 refine⟨h.md,h.oX,(aCJ.1 aD).1,h.wl,fun k hk=>?_,h.r⟩;rw[h.w k hk,hC,MS,aDi,ai.cnt a row cW k hk,aD1,List.count_nil];congr 1;omega
theorem an6 {ids:List (List B)} {ops:List bJ} {row uE:List Nat} {d:Nat} {R:List Nat} {W:List Int} (h:rX ids ops row d 0 R W) :rX ids ops uE d 0 R W:=
 ⟨h.md,h.oX,h.dl,h.wl,fun k hk=>by rw[h.w k hk,aD1,aD1],h.r⟩
theorem an7 {ids:List (List B)} {ops:List bJ} (ar:ids.length=ops.length) :rX ids ops [] 0 0 ((List.range ops.length).filter fun k=>(dR ops k).isEmpty) ((List.range ops.length).map fun k=>((dR ops k).length:Int)) :=by
 refine⟨List.Sublist.nodup aFz aFZ,fun k hk=>?_,aD5 _,by simp,fun k hk=>?_,fun k hk=>?_⟩
 ·rw[aEd,aDw] at hk;have aG:dR ops k=[] :=aFU.1 hk.2;exact⟨hk.1,.mk k (by omega) (fun p aF=>by rw[aG] at aF; cases aF) fun p aF=>by rw[aG] at aF; cases aF⟩
 ·rw[aCO,aDN hk];simp[nt]
 ·rw[aEd,aDw,aCO,aDN hk];simp only[aCR,Option.some.injEq,hk,true_and,aFU];constructor
  ·intro h; rw[h]; rfl
  ·intro h; exact aDk.1 (by omega)
theorem an4 {ids:List (List B)} {ops:List bJ} (ar:ids.length=ops.length) (am:kK ids) {row:List Nat} {R:List Nat} {W:List Int} (h:rX ids ops row R.length 0 R W) :
  R.length<=ops.length/\(R.length=ops.length<->(ps ids ops).length=ops.length) :=by
 have eD:R.length<=ops.length:=by
  have:=uJ (b:=List.range ops.length) h.md fun x al=>aDw.2 (h.oX x al).1
  simpa using this
 refine⟨eD,?_⟩;rw[X4 ar am];constructor
 ·intro au i aB;exact (h.oX i (XI h.md au (fun i aB=>(h.oX i aB).1) i aB)).2
 ·intro fS;have ea:∀ i,qN ids ops i->i<ops.length->i∈R:=by
   intro i aA
   induction aA with
   | mk i aB aF aA aY=>
    intro aP;rw[h.r i aP,h.w i aP,aDi];have Fp:=(MT am h.md (fun a aD=>by have:=(h.oX a aD).1; omega) (dR ops i)).2.2 fun p CQ=>by
     obtain⟨cx,fp⟩:=aCY.1 (aF p CQ);exact⟨cx,aY p CQ cx fp (by have:=(aCJ.1 fp).1; omega),iO fp⟩
    rw[Fp];simp
  have:=uJ (a:=List.range ops.length) (b:=R) aFZ fun i aB=>ea i (fS i (aDw.1 aB)) (aDw.1 aB)
  simp at this;omega
end Op

end Go.ct

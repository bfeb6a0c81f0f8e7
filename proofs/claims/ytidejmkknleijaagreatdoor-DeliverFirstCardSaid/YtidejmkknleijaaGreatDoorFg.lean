/-
  The canonical machine: slices.Insert of one element into a row of one's own.
-/
import Derived.Test.YtidejmkknleijaaGreatDoorFf
import Derived.Lib.AppendZerosOnto
import Derived.ProofKit
import Derived.Test.YtidejmkknleijaaGreatDoorRows
import Derived.LaidMore
import Derived.MakeChecks
set_option linter.unusedVariables false
set_option linter.unusedSimpArgs false
set_option linter.unnecessarySimpa false
namespace Go.bY
open Go Go.Proofs Go.Shelf
structure Bq (P:Program) (f:FuncId) (T I e z:Nat) :Prop where
 yN:P.underlying T=some (.slice e)
 alL:P.underlying I=some (.int .i64)
 fin:∀ (base:Option Addr) (n c ec fa g7:Nat) (r:Value) (w w' : World),n<=c->n<=4611686018427387904->(base=none->n=0/\c=0)->
  (Builtin.append_ #[T,T] T #[.slice base n c,.slice (some ⟨fa,g7,none⟩) 1 ec]).run P w=.ok r w'->
  Calls P f #[.slice base n c,.int .i64 n,.slice (some ⟨fa,g7,none⟩) 1 ec] w fun x w2=>x=.returned r/\w2=w'
 shift:∀ (b off n c i fa g7 ec:Nat) (bU b8:Value) (w cC dG:World) (yK fi:TypeId) (p2 sv:Nat),i<n->n+1<=c->n<=4611686018427387904->fa≠b->
  w.shape? fa=some (yK,p2)->w.shape? b=some (fi,sv)->sv≠0->w.frozen? ⟨fa,g7,none⟩=false->w.frozen? ⟨fa,p2,none⟩=false->
  (Builtin.copy_ #[T,T] I #[.slice (some ⟨b,off+(i+1)*z,none⟩) (n - i) (c - (i+1)),.slice (some ⟨b,off+i*z,none⟩) (n+1 - i) (c - i)]).run P w.drew=.ok bU cC->
  (Builtin.copy_ #[T,T] I #[.slice (some ⟨b,off+i*z,none⟩) (n+1 - i) (c - i),.slice (some ⟨fa,g7,none⟩) 1 ec]).run P cC=.ok b8 dG->
  Calls P f #[.slice (some ⟨b,off,none⟩) n c,.int .i64 i,.slice (some ⟨fa,g7,none⟩) 1 ec] w fun x w2=>x=.returned (.slice (some ⟨b,off,none⟩) (n+1) c)/\w2=dG
 grow:∀ (b off n c i fa g7 ec N G:Nat) (bU b8:Value) (w qz cC dG:World),i<n->n<=c->c<n+1->n+1<=G->n<=4611686018427387904->
  (Builtin.append_ #[T,I] T #[.slice (some ⟨b,off,none⟩) i c,.int .i64 ((n:Int)+1 - (i:Int))]).run P w=.ok (.slice (some ⟨N,0,none⟩) (n+1) G) qz->
  (Builtin.copy_ #[T,T] I #[.slice (some ⟨N,i*z,none⟩) (n+1 - i) (G - i),.slice (some ⟨fa,g7,none⟩) 1 ec]).run P qz=.ok bU cC->
  (Builtin.copy_ #[T,T] I #[.slice (some ⟨N,(i+1)*z,none⟩) (n - i) (G - (i+1)),.slice (some ⟨b,off+i*z,none⟩) (n - i) (c - i)]).run P cC.drew=.ok b8 dG->
  Calls P f #[.slice (some ⟨b,off,none⟩) n c,.int .i64 i,.slice (some ⟨fa,g7,none⟩) 1 ec] w fun x w2=>x=.returned (.slice (some ⟨N,0,none⟩) (n+1) G)/\w2=dG
section
variable {P:Program} {G:Nat->U} {R:Nat->Prop} {B:Nat} {w:World} {h:aM} {μ:cg}
theorem Hp (rel:bI R B w h μ) {b sz o n:Nat} {cs:List U} {m:M} (af:h.f b=.cells sz cs) (hm:μ b=some m) (cZ:o+n<=sz) :
  ∃ vs:List Value,s6 w R h μ ((cs.drop o).take n) vs/\(loadCells ⟨m.r,m.s+o,none⟩ n).run P w=.ok vs.toArray w:=by
 have ed:=rel.blk b m hm;rw[af] at ed;obtain⟨ew,eh,arr,e,eU,ay,eM,oa,lF⟩:=ed;have bD:((cs.drop o).take n).length=n:=by rw[ati,at7]; omega
 obtain⟨vs,cJ,al⟩:=Nr (P:=P) (w:=w) (R:=R) (h:=h) (μ:=μ) (w2:=w) (xs:=(cs.drop o).take n) (blk:=m.r) (o:=m.s+o) (fun _=>rfl) (fun j c ai=>by
  have aK:j<n:=by have:=(as0.1 ai).1; omega
  rw[atp aK,atH] at ai;obtain⟨v,ad,ae,aj⟩:=lF (o+j) c ai;refine⟨v,?_,ae,aj⟩;simp only[World.cell?,ay,avd];rw[auA];exact ad)
 refine⟨vs,cJ,?_⟩;have:=al n (by omega) w (fun _=>rfl)
 rwa [as1 (by rw[cJ.1,bD]; exact as3 _)] at this
theorem Fv (rel:bI R B w h μ) {t u ty e z:Nat} (kG:P.underlying t=some (.slice e)) (ax:cu P e=some z) {b sz k:Nat} {cs:List U} {m:M} (af:h.f b=.cells sz cs) (hm:μ b=some m) (ar:k<=sz)
  {dLen dc sLen sc cnt:Nat} {a:Addr} {xs:List U} {vs:List Value} (Gh:Nat.min sLen dLen=cnt) (bn:xs.length=cnt*z) (aew:(loadCells a (cnt*z)).run P w=.ok vs.toArray w)
  (cJ:s6 w R h μ xs vs) (eh:m.s+max sz (k+cnt*z)<=m.T) :
  ∃ w',(Builtin.copy_ #[t,u] ty #[.slice (some ⟨m.r,m.s+k,none⟩) dLen dc,.slice (some a) sLen sc]).run P w=.ok (goInt cnt) w' ∧
   c5 w h μ w' (h.set b (.cells (max sz (k+cnt*z)) (bg cs k xs))) μ/\bI R B w' (h.set b (.cells (max sz (k+cnt*z)) (bg cs k xs))) μ:=by
 obtain⟨w',ad,ae,aj⟩:=yR (P:=P) rel (cvs:=xs) (vs:=vs) (k:=k) af hm ar cJ.1 (by rw[bn]; exact eh) cJ.2;rw[bn] at ae aj;refine⟨w',?_,ae,aj⟩;simp[Builtin.copy_,cr kG,Builtin.lenOf,Builtin.firstCells,fD ax,Gh,aew,ad]
theorem W6 {bL:World} {ad:aM} {gR:cg} (mi:bI R B bL ad gR) (ex:c5 w h μ bL ad gR) {b z n nc ns:Nat} {row:List U} {v:Value} (aE:ad.f=bw h.f b (.cells ns row)) (aC:ad.n=h.n) (sf:ns=nc*z) (aI:0<n) (oR:b<h.n)
  (ap:aN bL R ad gR (.aq z b 0 n nc ns) v) :
  ∃ μ',c5 w h μ bL ((h.set b .dead).push (.cells ns row)) μ'/\bI R B bL ((h.set b .dead).push (.cells ns row)) μ'/\aN bL R ((h.set b .dead).push (.cells ns row)) μ' (.aq z h.n 0 n nc ns) v:=by
 have gd:ad.f b=.cells ns row:=by rw[aE,hB]
 cases ap with
 | ht _ _ _ _ _ _ _ _ _ _ aw=>
  exfalso;rcases aw with aw | ⟨hs,cs',aw,aK⟩
  ·rw[gd] at aw; cases aw
  ·rw[gd] at aw; cases aw; omega
 | iN=>omega
 | aq _ _ _ _ _ _ cap' px m n4 hm al au dn=>
  have pY:=mi.W5 (b:=b) (off:=0) (m:=m) (h':=(h.set b .dead).push (.cells ns row)) gd hm (auc _) (by
   rw[eb,dM,eS,aE,aC];funext x;simp only[bw,avh,auf];by_cases ae:x=h.n
   ·rw[if_pos ae,if_pos ae]
   ·rw[if_neg ae,if_neg ae];split<;>rfl) (by rw[ft,eS,aC])
  refine⟨_,ex.trans pY.1,pY.2,?_⟩;rw[aC];exact .aq z h.n 0 n nc ns cap' row ⟨m.r,m.s+0,m.T⟩ (by rw[eb,eS,hB]) (by simp) al au (by
   rcases dn with dn | ⟨mD,l9,zX⟩
   ·omega
   ·exact .inr ⟨mD,l9,by simpa using zX⟩)
theorem O9 (w:World) :RowKit.Below w.heap.size w w.drew:=⟨rfl,rfl,rfl,as3 _,fun _ _=>rfl⟩
theorem ago {z i len:Nat} {cs vs:List U} (jQ:vs.length=z) (az:i<len) (al:len*z<=cs.length) :
  bg (bg cs ((i+1)*z) ((cs.drop (i*z)).take ((len - i)*z))) (i*z) vs=oj z cs vs i len:=by
 have ad:(i+1)*z=i*z+z:=by rw[atL]
 have ae:(i+1)*z<=len*z:=as6 _ az;have aj:i*z+(len - i)*z=len*z:=by rw[<-atQ]; congr 1; omega
 have aF:(len+1)*z=len*z+z:=by rw[atL]
 have zN:((cs.drop (i*z)).take ((len - i)*z)).length=(len - i)*z:=by rw[ati,at7]; omega
 have dm:(cs.take ((i+1)*z)).length=i*z+z:=by rw[ati]; omega
 unfold oj bg;rw[zN,jQ];have aQ:(i+1)*z+(len - i)*z=(len+1)*z:=by omega
 rw[aQ,atK (cs.take ((i+1)*z)),atG (by rw[dm]; omega),auH,show min (i*z) ((i+1)*z)=i*z by omega];rw[show i*z+z=(cs.take ((i+1)*z)).length by rw[dm],List.drop_left];simp only[atK]
theorem agl {z i len:Nat} {cs vs:List U} (jQ:vs.length=z) (az:i<len) (al:len*z=cs.length) :
  bg (bg (cs.take (i*z)) (i*z) vs) ((i+1)*z) ((cs.drop (i*z)).take ((len - i)*z))=oj z cs vs i len:=by
 have ad:(i+1)*z=i*z+z:=by rw[atL]
 have ae:(i+1)*z<=len*z:=as6 _ az;have aj:i*z+(len - i)*z=len*z:=by rw[<-atQ]; congr 1; omega
 have aF:(len+1)*z=len*z+z:=by rw[atL]
 have dm:(cs.take (i*z)).length=i*z:=by rw[ati]; omega
 have fm:bg (cs.take (i*z)) (i*z) vs=cs.take (i*z)++vs:=by
  unfold bg;rw[atE (by rw[dm]; omega),atB,as1 (by rw[dm]; exact as3 _)]
 rw[fm];unfold oj bg;have aQ:(cs.take (i*z)++vs).take ((i+1)*z)=cs.take (i*z)++vs:=as1 (by rw[as8,dm,jQ]; omega);have bx:∀ k,(cs.take (i*z)++vs).drop ((i+1)*z+k)=[] :=fun k=>atE (by rw[as8,dm,jQ]; omega)
 have fc:cs.drop ((len+1)*z)=[] :=atE (by omega);rw[aQ,bx,fc]
theorem ahH (a b z:Nat) :max a b*z=max (a*z) (b*z) :=by
 rcases Nat.le_total a b with h | h
 ·rw[avR h,avR (as6 _ h)]
 ·rw[av0 h,av0 (as6 _ h)]
theorem agd {T e z by_:Nat} (eM:iT P T=some e) (ax:cu P e=some z) (dI:kv P e=some by_) (qZ:0<z) (xD:0<by_) (h9:sU P e=some z)
  {b h1 len cap:Nat} {cs vs:List U} (af:h.f b=.cells (cap*z) cs) (ew:cs.length=cap*z) (k2:h.f h1=.cells z vs) (jQ:vs.length=z) (pQ:len<=cap) (dy:(len+1)*by_<=ct) :
  rV P h T (.aq z b 0 len cap (cap*z)) (.aq z h1 0 1 1 z)=some (.aq z b 0 (len+1) (max cap (len+1)) (max cap (len+1)*z),h.set b (.cells (max cap (len+1)*z) (oj z cs vs len len))) :=by
 have aF:(len+1)*z=len*z+z:=by rw[atL]
 have dY:len*z<=cap*z:=as6 _ pQ;have cJ:oj z cs vs len len=cs.take (len*z)++vs++cs.drop ((len+1)*z) :=by simp[oj]
 have mN:(vs.drop 0).take (1*z)=vs:=by rw[auf,avn,as1 (by omega)]
 unfold rV;rw[eM];simp only[ax,dI,contents,k2,and_self,if_true,mN];unfold uV;rw[if_neg (by omega),if_neg (by rw[h9]; simp; omega)];simp only[af,true_and,dy,if_true];by_cases aE:len+1<=cap
 ·have GC:(len+1)*z<=cap*z:=as6 _ aE;rw[if_pos aE,av0 aE,cJ];simp only[bg,aue,jQ,<-aF]
 ·obtain rfl:len=cap:=by omega
  rw[if_neg aE,if_neg (by omega),avR (by omega),cJ,atE (by omega),atB]
theorem agf {f T I e z by_:Nat} (L:Bq P f T I e z) (eM:iT P T=some e) (ax:cu P e=some z) (dI:kv P e=some by_) (qZ:0<z) (xD:0<by_) (h9:sU P e=some z)
  {b h1 len cap i:Nat} {cs vs:List U} (af:h.f b=.cells (cap*z) cs) (k2:h.f h1=.cells z vs) (bV:h1≠b) (az:i<=len) (pQ:len<=cap) (dy:(len+1)*by_<=ct) :
  qq P G f [.aq z b 0 len cap (cap*z),.int .i64 i,.aq z h1 0 1 1 z] h (.aq z h.n 0 (len+1) (max cap (len+1)) (max cap (len+1)*z)) ((h.set b .dead).push (.cells (max cap (len+1)*z) (oj z cs vs i len))) :=by
 intro R B w μ ez rel xv al ap;obtain⟨qn⟩:=ez
 match qn,al with
 | [sT,cj,b2],_=>
 have jP:=ap 0 _ sT rfl rfl;have mN:=ap 1 _ cj rfl rfl;have fX:=ap 2 _ b2 rfl rfl;have LB:=fX;cases mN;have tp:len<=4611686018427387904:=by
  have:=Nat.le_mul_of_pos_right (len+1) xD;unfold ct at dy;omega
 have K6:AI P T:=⟨_,L.yN,fun k ar=>by cases ar⟩
 have mb:=ahH cap (len+1) z;have aF:(len+1)*z=len*z+z:=by rw[atL]
 have dY:len*z<=cap*z:=as6 _ pQ;cases fX with
 | ht _ _ _ _ _ _ _ _ _ _ aw=>
  exfalso;rcases aw with aw | ⟨hs,cs',aw,aK⟩
  ·rw[k2] at aw; cases aw
  ·rw[k2] at aw; cases aw; omega
 | aq _ _ _ _ _ _ ec al6 fL adm sa pT Dc kz=>
 have CH:=rel.blk h1 fL sa;rw[k2] at CH;obtain⟨jQ,ao5,OY,cS,aoB,Lq,aoP,Tg,aoZ⟩:=CH;by_cases dS:i=len
 ·subst dS;have aeB:∃ a cap',sT=.slice (some a) i cap'/\i<=cap'/\cs.length=cap*z/\b<h.n:=by
   cases jP with
   | ht _ _ _ _ _ _ _ _ _ _ aw=>
    exfalso;rcases aw with aw | ⟨hs,cs',aw,aK⟩
    ·rw[af] at aw; cases aw
    ·rw[af] at aw; cases aw; omega
   | iN _ _ _ _ a px m n4 hm=>
    have ed:=rel.blk b m hm;rw[af] at ed;exact⟨a,0,rfl,as3 _,ed.1,rel.m4 hm⟩
   | aq _ _ _ _ _ _ cap' px m n4 hm al au dn=>
    have ed:=rel.blk b m hm;rw[af] at ed;exact⟨_,cap',rfl,by omega,ed.1,rel.m4 hm⟩
  obtain⟨a,cap',rfl,z7,ew,oR⟩:=aeB;obtain⟨v,bL,gR,fJ,xK,Ln,tT⟩:=I7 (P:=P) (ty:=T) (u:=T) rel K6 (agd (P:=P) eM ax dI qZ xD h9 af ew k2 jQ pQ dy) jP LB;refine (L.fin (some a) i cap' ec fL.r (fL.s+0) v w bL z7 tp (fun h=>by cases h) fJ).mono ?_;rintro x w2 ⟨rfl,rfl⟩;obtain⟨μ',ad,ae,aj⟩:=W6 (h:=h) Ln xK (b:=b) (row:=oj z cs vs i i) (ns:=max cap (i+1)*z) (dM _ _ _) rfl rfl (by omega) oR tT;exact⟨v,μ',rfl,ad,ae,aj⟩
 have CV:i<len:=by omega
 have aoE:(i+1)*z=i*z+z:=by rw[atL]
 have aoG:(i+1)*z<=len*z:=as6 _ CV;have aoH:i*z+(len - i)*z=len*z:=by rw[<-atQ]; congr 1; omega
 cases jP with
 | ht _ _ _ _ _ _ _ _ _ _ aw=>
  exfalso;rcases aw with aw | ⟨hs,cs',aw,aK⟩
  ·rw[af] at aw; cases aw
  ·rw[af] at aw; cases aw; omega
 | iN=>omega
 | aq _ _ _ _ _ _ cap' px m n4 hm apc au dn=>
 rw[af] at n4; cases n4;have ed:=rel.blk b m hm;rw[af] at ed;obtain⟨ew,ao4,arr,qI,eU,ay,aoO,oa,lF⟩:=ed;obtain⟨l9,zX⟩:cap<=cap'/\m.s+cap'*z<=m.T:=by
  rcases dn with dn | ⟨mD,l9,zX⟩
  ·omega
  ·exact⟨l9,by simpa using zX⟩
 have oR:=rel.m4 hm;have K3:fL.r≠m.r:=fun am=>bV (rel.inj h1 b fL m (by rw[k2]; rfl) (by rw[af]; rfl) sa hm am)
 have mN:(vs.drop 0).take z=vs:=by rw[auf,as1 (by omega)]
 have Sr:((cs.drop (i*z)).take ((len - i)*z)).length=(len - i)*z:=by rw[ati,at7]; omega
 by_cases eh:len+1<=cap'
 ·have GC:(len+1)*z<=cap'*z:=as6 _ eh;obtain⟨oI,nC⟩:=Na rel (w':=w.drew) (O9 w);obtain⟨cd,GZ,KY⟩:=Hp (P:=P) nC (o:=i*z) (n:=(len - i)*z) af hm (by omega);obtain⟨cC,pM,nY,mi⟩:=Fv (P:=P) (t:=T) (u:=T) (ty:=I) nC L.yN ax (k:=(i+1)*z) af hm (by omega) (dLen:=len - i) (dc:=cap' - (i+1)) (sLen:=len+1 - i) (sc:=cap' - i) (cnt:=len - i)
   (by simp only[av2]; split<;>omega) Sr KY GZ (by omega)
  have Ag:max (cap*z) ((i+1)*z+(len - i)*z)=max cap (len+1)*z:=by omega
  rw[Ag] at nY mi;have gd:(h.set b (.cells (max cap (len+1)*z) (bg cs ((i+1)*z) ((cs.drop (i*z)).take ((len - i)*z))))).f b=.cells (max cap (len+1)*z) (bg cs ((i+1)*z) ((cs.drop (i*z)).take ((len - i)*z))) :=by rw[dM,hB]
  have adn:(h.set b (.cells (max cap (len+1)*z) (bg cs ((i+1)*z) ((cs.drop (i*z)).take ((len - i)*z))))).f h1=.cells z vs:=by rw[dM,b1 _ _ _ _ bV]; exact k2
  obtain⟨Hu,G0,KZ⟩:=Hp (P:=P) mi (o:=0) (n:=z) adn sa (by omega);rw[mN] at G0;obtain⟨dG,pN,oJ,rA⟩:=Fv (P:=P) (t:=T) (u:=T) (ty:=I) mi L.yN ax (k:=i*z) gd hm (by omega) (dLen:=len+1 - i) (dc:=cap' - i) (sLen:=1) (sc:=ec) (cnt:=1)
   (by simp only[av2]; split<;>omega) (by omega) (by rw[avn]; exact KZ) G0 (by omega)
  have Ah:max (max cap (len+1)*z) (i*z+1*z)=max cap (len+1)*z:=by omega
  rw[Ah,ago jQ CV (by omega)] at oJ rA;have xL:w.frozen? ⟨fL.r,fL.s+0,none⟩=false:=by
   simp only[World.frozen?,Lq];rcases Tg with aI | aI
   ·subst aI; simp
   ·simp; intro aj; omega
  have xM:w.frozen? ⟨fL.r,OY.size,none⟩=false:=by
   simp only[World.frozen?,Lq];rcases Tg with aI | aI
   ·subst aI; simp
   ·simp; intro aj; omega
  refine (L.shift m.r m.s len cap' i fL.r (fL.s+0) ec _ _ w cC dG cS qI OY.size arr.size CV eh tp K3 (by simp[World.shape?,Lq]) (by simp[World.shape?,ay]) (by omega) xL xM pM pN).mono ?_;rintro x w2 ⟨rfl,rfl⟩;obtain⟨μ',ad,ae,aj⟩:=W6 (h:=h) rA ((oI.trans nY).trans oJ) (b:=b) (row:=oj z cs vs i len) (ns:=max cap (len+1)*z) (n:=len+1) (nc:=max cap (len+1)) (z:=z) (v:=.slice (some ⟨m.r,m.s+0,none⟩) (len+1) cap') (by
   rw[dM,dM];funext y;simp only[bw];split<;>rfl) rfl rfl (by omega) oR (.aq z b 0 (len+1) (max cap (len+1)) (max cap (len+1)*z) cap' _ m (by rw[dM,hB]) hm (by omega) (by omega) (.inr ⟨by omega,by omega,by simpa using zX⟩))
  exact⟨_,μ',rfl,ad,ae,aj⟩
 ·obtain rfl:cap=len:=by omega
  obtain rfl:cap'=cap:=by omega
  obtain⟨vN,zv,KH,lP,jR⟩:=YO h9;have q7:vN.size=z:=by simp[cu,KH] at ax; exact ax
  have l8:vN.bytes=by_:=by simp[kv,KH] at dI; exact dI
  have eg:contents h z (.aq z b 0 i cap' (cap'*z))=some ((cs.drop 0).take (i*z),i) :=by simp[contents,af]
  obtain⟨dF,_,fM,iq,x1⟩:=vi (P:=P) rel eg (aN.aq z b 0 i cap' (cap'*z) cap' cs m af hm (by omega) (by omega) (.inr ⟨by omega,as3 _,by simpa using zX⟩));have Da:=x1 i (as3 _) w.drew (fun _=>rfl);rw[as1 (by rw[iq.1,dF]; exact as3 _)] at Da;rw[auf] at iq dF;have T8:(cap'+1)*vN.bytes<=ct:=by rw[l8]; exact dy
  have tI:i+(cap'+1 - i)=cap'+1:=by omega
  have aoU:(cap'+1 - i)*vN.bytes<=(cap'+1)*vN.bytes:=as6 _ (by omega);have lE:=Lib.run_append_grow_zeros w T I T e vN zv .i64 .i64 L.yN L.alL KH lP (some ⟨m.r,m.s+0,none⟩) i cap' fM (by rw[q7]; exact Da) (cap'+1 - i) (by omega) (by omega) (by omega) (by omega) (by unfold ct at T8; omega)
   (by rw[tI]; have:=growslice_fits (old:=cap') (need:=cap'+1) (by omega) T8; omega)
  rw[tI] at lE;obtain⟨rN,Ss⟩:∃ rN,rN=grownCap w (cap'+1) cap' e:=⟨_,rfl⟩
  have Su:cap'+1<=rN:=by rw[Ss]; exact grownCap_ge w _ _ _
  rw[<-Ss] at lE;obtain⟨ROW,FV⟩:∃ ROW:Array Value,ROW=fM.toArray++Builtin.zeroCells zv.cells (cap'+1 - i)++Builtin.zeroCells zv.cells (rN - (cap'+1)) :=⟨_,rfl⟩
  rw[<-FV] at lE;have aoN:(cap'+1)*z<=ROW.size:=by
   have aQ:i*z+(cap'+1 - i)*z=(cap'+1)*z:=by rw[<-atQ]; congr 1
   rw[FV];simp only[avK,avL,Builtin.zeroCells];simp[jR,iq.1];omega
  have dm:(cs.take (i*z)).length=i*z:=by rw[ati]; omega
  obtain⟨oI,nC⟩:=rel.push (w':=w.drew.alloc (.cells ROW e)) (cs.take (i*z)) ROW e rfl rfl rfl rfl (by omega) (fun j c ai=>by
   obtain⟨v,aO,aT,aZ⟩:=iq.2 j c ai;refine⟨v,?_,aT,aZ⟩;have aK:j<fM.length:=(as0.1 aO).1;rw[FV,avc,aua (by simpa using aK)];simpa using aO)
  rw[dm] at oI nC;have Gb:b≠h.n:=by omega
  have aoY:=rel.m4 sa;have SV:h1≠h.n:=by omega
  have k6:(bw μ h.n (some ⟨w.heap.size,0,ROW.size⟩)) h.n=some ⟨w.heap.size,0,ROW.size⟩:=hB _ _ _;have aeI:(bw μ h.n (some ⟨w.heap.size,0,ROW.size⟩)) h1=some fL:=by rw[b1 _ _ _ _ SV]; exact sa
  have aeC:(bw μ h.n (some ⟨w.heap.size,0,ROW.size⟩)) b=some m:=by rw[b1 _ _ _ _ Gb]; exact hm
  have ac9:(h.push (.cells (i*z) (cs.take (i*z)))).f h.n=.cells (i*z) (cs.take (i*z)) :=by rw[eb,hB]
  have adb:(h.push (.cells (i*z) (cs.take (i*z)))).f h1=.cells z vs:=by rw[eb,b1 _ _ _ _ SV]; exact k2
  obtain⟨Hu,GZ,KY⟩:=Hp (P:=P) nC (o:=0) (n:=z) adb aeI (by omega);rw[mN] at GZ;obtain⟨cC,pM,nY,mi⟩:=Fv (P:=P) (t:=T) (u:=T) (ty:=I) nC L.yN ax (k:=i*z) ac9 k6 (as3 _) (dLen:=cap'+1 - i) (dc:=rN - i) (sLen:=1) (sc:=ec) (cnt:=1)
   (by simp only[av2]; split<;>omega) (by omega) (by rw[avn]; exact KY) GZ (by simp only; omega)
  have Ag:max (i*z) (i*z+1*z)=(i+1)*z:=by omega
  rw[Ag] at nY mi;obtain⟨abF,WZ⟩:=Na mi (w':=cC.drew) (O9 cC);have ada:((h.push (.cells (i*z) (cs.take (i*z)))).set h.n (.cells ((i+1)*z) (bg (cs.take (i*z)) (i*z) vs))).f h.n=.cells ((i+1)*z) (bg (cs.take (i*z)) (i*z) vs) :=by rw[dM,hB]
  have SS:((h.push (.cells (i*z) (cs.take (i*z)))).set h.n (.cells ((i+1)*z) (bg (cs.take (i*z)) (i*z) vs))).f b=.cells (cap'*z) cs:=by rw[dM,b1 _ _ _ _ Gb,eb,b1 _ _ _ _ Gb]; exact af
  obtain⟨cd,G0,KZ⟩:=Hp (P:=P) WZ (o:=i*z) (n:=(cap' - i)*z) SS aeC (by omega);obtain⟨dG,pN,oJ,rA⟩:=Fv (P:=P) (t:=T) (u:=T) (ty:=I) WZ L.yN ax (k:=(i+1)*z) ada k6 (as3 _) (dLen:=cap' - i) (dc:=rN - (i+1)) (sLen:=cap' - i) (sc:=cap' - i) (cnt:=cap' - i)
   (by simp only[av2]; split<;>omega) Sr KZ G0 (by simp only; omega)
  have Ah:max ((i+1)*z) ((i+1)*z+(cap' - i)*z)=(cap'+1)*z:=by omega
  rw[Ah,agl jQ CV (by omega)] at oJ rA;simp only[aue] at pM pN;have Ab:max cap' (cap'+1)=cap'+1:=by omega
  rw[Ab];refine (L.grow m.r (m.s+0) cap' cap' i fL.r (fL.s+0) ec w.heap.size rN _ _ w _ cC dG CV (as3 _) (by omega) Su tp ?_ pM pN).mono ?_
  ·have:(cap' : Int)+1 - (i:Int)=((cap'+1 - i:Nat) :Int) :=by omega
   rw[this];exact lE
  rintro x w2 ⟨rfl,rfl⟩;have ar:=rA.kill (b:=b) (sz:=cap'*z) (cs:=cs) (h':=(h.set b .dead).push (.cells ((cap'+1)*z) (oj z cs vs i cap'))) (by rw[dM,b1 _ _ _ _ Gb]; exact SS) (by rw[eS,eS,ft]; omega) (by
   rw[eb,dM,eS,dM,dM,eb];funext y;simp only[bw];by_cases ad:y=h.n
   ·rw[if_pos ad,if_neg (by omega),if_pos ad]
   ·rw[if_neg ad];split
    ·rfl
    ·simp[ad]) (by rw[ft,eS,eS,eS,ft])
  refine⟨_,_,rfl,(((oI.trans nY).trans abF).trans oJ).trans ar.1,ar.2,?_⟩;have:=aN.aq (w:=w2) (R:=R) (h:=(h.set b .dead).push (.cells ((cap'+1)*z) (oj z cs vs i cap'))) (μ:=bw μ h.n (some ⟨w.heap.size,0,ROW.size⟩)) z h.n 0 (cap'+1) (cap'+1) ((cap'+1)*z) rN (oj z cs vs i cap') ⟨w.heap.size,0,ROW.size⟩ (by rw[eb,eS,hB]) (by simp) (as3 _) (by omega) (.inr ⟨by omega,Su,by
   simp only;have aQ:i*z+(cap'+1 - i)*z=(cap'+1)*z:=by rw[<-atQ]; congr 1
   have bx:(cap'+1)*z+(rN - (cap'+1))*z=rN*z:=by rw[<-atQ]; congr 1; omega
   rw[FV];simp only[avK,avL,Builtin.zeroCells];simp[jR,iq.1];omega⟩)
  simpa using this
theorem age {f T I e z by_:Nat} (L:Bq P f T I e z) (eM:iT P T=some e) (ax:cu P e=some z) (dI:kv P e=some by_) (qZ:0<z) (xD:0<by_) (h9:sU P e=some z)
  {h1:Nat} {vs:List U} (k2:h.f h1=.cells z vs) (dy:by_<=ct) :
  qq P G f [.aH,.int .i64 0,.aq z h1 0 1 1 z] h (.aq z h.n 0 1 1 z) (h.push (.cells z vs)) :=by
 intro R B w μ ez rel xv al ap;obtain⟨qn⟩:=ez
 match qn,al with
 | [sT,cj,b2],_=>
 have jP:=ap 0 _ sT rfl rfl;have mN:=ap 1 _ cj rfl rfl;have fX:=ap 2 _ b2 rfl rfl;have LB:=fX;cases mN;have afD:=jP;cases jP;have K6:AI P T:=⟨_,L.yN,fun k ar=>by cases ar⟩
 cases fX with
 | ht _ _ _ _ _ _ _ _ _ _ aw=>
  exfalso;rcases aw with aw | ⟨hs,cs',aw,aK⟩
  ·rw[k2] at aw; cases aw
  ·rw[k2] at aw; cases aw; omega
 | aq _ _ _ _ _ _ ec al6 fL adm sa pT Dc kz=>
 have CH:=rel.blk h1 fL sa;rw[k2] at CH;obtain⟨jQ,_⟩:=CH;have aB:rV P h T .aH (.aq z h1 0 1 1 z)=some (.aq z h.n 0 1 1 z,h.push (.cells z vs)) :=by
  have mN:(vs.drop 0).take (1*z)=vs:=by rw[auf,avn,as1 (by omega)]
  unfold rV;rw[eM];simp only[ax,dI,contents,k2,and_self,if_true,mN];unfold uV;rw[if_neg (by omega),if_neg (by rw[h9]; simp; omega)];simp only[avn,dy,if_true]
 obtain⟨v,bL,gR,fJ,xK,Ln,tT⟩:=I7 (P:=P) (ty:=T) (u:=T) rel K6 aB afD LB;refine (L.fin none 0 0 ec fL.r (fL.s+0) v w bL (as3 _) (by omega) (fun _=>⟨rfl,rfl⟩) fJ).mono ?_;rintro x w2 ⟨rfl,rfl⟩;exact⟨v,gR,rfl,xK,Ln,tT⟩
theorem UE {f T I e z by_:Nat} (L:Bq P f T I e z) (eM:iT P T=some e) (ax:cu P e=some z) (dI:kv P e=some by_) (qZ:0<z) (xD:0<by_) (h9:sU P e=some z)
  (args:List U) (h:aM) (r:U) (h' : aM) (ag:sq z by_ args h=some (r,h')) :qq P G f args h r h':=by
 unfold sq at ag;split at ag
 ·rename_i s x y;split at ag
  ·rename_i i fU h1 gP bo b5 ie tU;have afM:x=.int .i64 i:=by
    unfold OZ at tU;split at tU
    ·split at tU
     ·cases tU; rfl
     ·cases tU
    ·cases tU
   subst afM;split at ag
   ·rename_i eG vs k2;split at ag
    ·rename_i ah;obtain⟨rfl,rfl,rfl,rfl,rfl,rfl,aI⟩:=ah;obtain⟨k,rfl⟩:=at4 aI;rw[atD] at ag;unfold Dy at ag;cases s<;>simp only at ag<;>try (cases ag; done)
     case aH=>
      split at ag
      ·rename_i ah;obtain⟨rfl,ay⟩:=ah;cases ag;exact age L eM ax dI qZ xD h9 k2 ay
      ·cases ag
     case aq gA b off len cap sz=>
      cases af:h.f b<;>rw[af] at ag<;>(try simp only at ag)<;>try (cases ag; done)
      split at ag
      ·rename_i ah;obtain⟨rfl,rfl,rfl,rfl,bV,az,pQ,ay⟩:=ah;cases ag;exact agf L eM ax dI qZ xD h9 af k2 bV az pQ ay
      ·cases ag
    ·cases ag
   ·cases ag
  ·cases ag
 ·cases ag
end

end Go.bY

namespace Go.bY
open Go
section
variable (P:Program)
abbrev pm:=List (List Nat)
def XJ (ops:Array Oper) (o:Oper) (i:Nat) (hN:List Nat) (cb:Bool) :dd:=
 let g:=match o.guard with | none=>none | some fS=>some (match ops[fS.1]? with | some dt=>dt.dst | none=>none,fS.2)
 match m8 P o.op with
 | some m=>⟨i,o.dst,g,.gu m,hN,cb⟩
 | none=>match o.op with
  | .call c=>match c.callee with
   | .value (.func f)=>⟨i,o.dst,g,.mu f c.args.toList,hN,cb⟩
   | .value x=>⟨i,o.dst,g,.mv x c.args.toList,hN,cb⟩
   | .invoke x name=>⟨i,o.dst,g,.nT x name c.args.toList,hN,cb⟩
   | _=>⟨i,none,none,.gu .stop,[],false⟩
  | _=>⟨i,none,none,.gu .stop,[],false⟩
def XM (ops:Array Oper) :List Oper->Nat->List dd
 | [],_=>[]
 | o::r,i=>XJ P ops o i [] false::XM ops r (i+1)
def UC (i:Nat) :List Nat->Bool
 | []=>false
 | x::r=>match Nat.beq i x with | true=>true | false=>UC i r
def Vg (i:Nat) :pm->Bool
 | []=>false
 | p::r=>match UC i p.tail with | true=>true | false=>Vg i r
def OL:pm->Bool
 | []=>false
 | p::r=>match p.tail with | []=>OL r | _=>true
def NJ (ops:Array Oper) (q:pm) (n:Nat) :pm->List dd
 | []=>XM P ops (ops.toList.drop n) n
 | p::r=>(match p with
  | []=>⟨0,none,none,.gu .stop,[],false⟩
  | i::c=>match ops[i]? with | some o=>XJ P ops o i c (Vg i q) | none=>⟨0,none,none,.gu .stop,[],false⟩) ::NJ ops q n r
def M9 (ops:Array Oper) (p:pm) :fw:=match OL p with
 | true=>.xm (NJ P ops p p.length p)
 | false=>.lk (NJ P ops p p.length p)
def akZ (a b:fw) :fw:=match a with
 | .skip=>b
 | a=>match b with
  | .skip=>a
  | b=>.seq a b
def v2:Code->List pm->fw × List pm
 | .skip,p=>(.skip,p)
 | .label _,p=>(.skip,p)
 | .ret,p=>(.ret,p)
 | .exit id,p=>(.exit id,p)
 | .region _ ops true,p=>match p with
  | []=>(M9 P ops [],[])
  | x::p=>(M9 P ops x,p)
 | .region _ ops false,p=>(M9 P ops [],p)
 | .seq a b,p=>match v2 a p with | (a,p)=>match v2 b p with | (b,p)=>(akZ a b,p)
 | .cond c a b,p=>match v2 a p with | (a,p)=>match v2 b p with | (b,p)=>(.cond c a b,p)
 | .block id c,p=>match v2 c p with | (c,p)=>(.block id c,p)
 | .loop c,p=>match v2 c p with | (c,p)=>(.loop c,p)
 | .scope c,p=>v2 c p
 | _,p=>(.skip,p)
def v3 (fn:Func) (p:List pm) :fw:=match fn.body with
 | some c=>(v2 P c p).1
 | none=>.skip
def uf:List ResultVar->List c2
 | []=>[]
 | x::r=>(match Jw P x with | some m=>m | none=>.stop) ::uf r
end
theorem H1 (x:U) (t:List U) :x::x::x::x::x::x::x::x::x::x::x::x::x::x::x::x::x::x::x::x::x::x::x::x::x::x::x::x::x::x::x::x::t=rep 32 x++t:=rfl
theorem H2 (x:U) (t:List U) :rep 32 x++(rep 32 x++t)=rep 64 x++t:=rfl
theorem acf {P:Program} {f:FuncId} {fn:Func} (aE:P.funcs[f]? = some fn) (p:List pm) {c:fw} {ms:List c2}
  (ah:v3 P fn p=c:=by conv=>lhs; (cbv; try simp only[H1,H2,atB]))
  (ay:uf P fn.results.toList=ms:=by conv=>lhs; cbv)
  (ar:(ve P f,vf P f)=(some (v3 P fn p),some (uf P fn.results.toList)) :=by kernel_rfl)
  {G:Nat->U} {args:List U} {l:ao} {K:s1} (h:run P G c (lv args) l (DJ P G ms K.k)) :dh P G f args l (c:=K) :=by
 rw[ah,ay] at ar;exact Fp (Prod.mk.inj ar).1 (Prod.mk.inj ar).2 h
theorem bq {P:Program} {f:FuncId} {fn:Func} (aE:P.funcs[f]? = some fn) (p:List pm) {T:Tables} {F:Array Func} {c:fw} {ms:List c2} (eM:P=⟨T,F⟩:=by rfl)
  (ah:v3 ⟨T,#[]⟩ fn p=c:=by conv=>lhs; (cbv; try simp only[H1,H2,atB]))
  (ay:uf ⟨T,#[]⟩ fn.results.toList=ms:=by conv=>lhs; cbv)
  (ar:(ve P f,vf P f)=(some (v3 ⟨T,#[]⟩ fn p),some (uf ⟨T,#[]⟩ fn.results.toList)) :=by kernel_rfl)
  {G:Nat->U} {args:List U} {l:ao} {K:s1} (h:run P G c (lv args) l (DJ P G ms K.k)) :dh P G f args l (c:=K) :=by
 rw[ah,ay] at ar;exact Fp (Prod.mk.inj ar).1 (Prod.mk.inj ar).2 h
def ace {P:Program} {f:FuncId} {fn:Func} (aE:P.funcs[f]? = some fn) (p:List pm) {c:fw} {ms:List c2}
  (ah:v3 P fn p=c:=by conv=>lhs; (cbv; try simp only[H1,H2,atB]))
  (ay:uf P fn.results.toList=ms:=by conv=>lhs; cbv)
  (ar:(ve P f,vf P f)=(some (v3 P fn p),some (uf P fn.results.toList)) :=by kernel_rfl) :{x:fw × List c2 // E0 P f x}:=
 ⟨(c,ms),by rw[ah,ay] at ar; exact⟨(Prod.mk.inj ar).1,(Prod.mk.inj ar).2⟩⟩
def cq {P:Program} {f:FuncId} {fn:Func} (aE:P.funcs[f]? = some fn) (p:List pm) {T:Tables} {F:Array Func} {c:fw} {ms:List c2} (eM:P=⟨T,F⟩:=by rfl)
  (ah:v3 ⟨T,#[]⟩ fn p=c:=by conv=>lhs; (cbv; try simp only[H1,H2,atB]))
  (ay:uf ⟨T,#[]⟩ fn.results.toList=ms:=by conv=>lhs; cbv)
  (ar:(ve P f,vf P f)=(some (v3 ⟨T,#[]⟩ fn p),some (uf ⟨T,#[]⟩ fn.results.toList)) :=by kernel_rfl) :{x:fw × List c2 // E0 P f x}:=
 ⟨(c,ms),by rw[ah,ay] at ar; exact⟨(Prod.mk.inj ar).1,(Prod.mk.inj ar).2⟩⟩
end Go.bY

namespace Go.bY
open Go Go.Proofs
set_option maxRecDepth 100000
set_option maxHeartbeats 8000000
noncomputable def Pz:=cq Tryz.func11 []
noncomputable def PN:=cq Tryz.func13 []
noncomputable def Fm:=cq Tryz.func15 []
noncomputable def P0:=cq Tryz.func17 []
noncomputable def P7:=cq Tryz.func19 []
noncomputable def P9:=cq Tryz.func21 []
noncomputable def Qa:=cq Tryz.func24 [[[0],[1],[2],[3,2,1]],[[0],[1],[2],[3],[4],[5,2]]]
noncomputable def Qb:=cq Tryz.func25 []
noncomputable def Qc:=cq Tryz.func26 []
noncomputable def Qd:=cq Tryz.func27 []
noncomputable def Qe:=cq Tryz.func28 []
noncomputable def Qf:=cq Tryz.func29 [[[0],[1],[2],[3],[4],[5],[6],[7],[8],[9],[10],[11],[12],[13],[14],[15,11,9,7,5],[16,11,9]]]
noncomputable def Qg:=cq Tryz.func33 []
noncomputable def Qh:=cq Tryz.func34 [[[0],[1],[2],[3],[4,2]]]
noncomputable def Qi:=cq Tryz.func35 []
noncomputable def Qj:=cq Tryz.func36 [[[0],[1],[2],[3,2]],[[0],[1],[2],[3,2]]]
noncomputable def Qk:=cq Tryz.func38 []
noncomputable def Ql:=cq Tryz.func43 []
noncomputable def Qm:=cq Tryz.func46 []
noncomputable def Qn:=cq Tryz.func48 []
noncomputable def Qp:=cq Tryz.func53 []
noncomputable def Qq:=cq Tryz.func54 []
noncomputable def Qr:=cq Tryz.func55 []
noncomputable def Qs:=cq Tryz.func56 [[[0],[1],[2],[3],[4],[6],[5,0]]]
noncomputable def Qu:=cq Tryz.func60 []
noncomputable def Qv:=cq Tryz.func61 []
noncomputable def Qw:=cq Tryz.func62 []
noncomputable def Qx:=cq Tryz.func63 []
noncomputable def Qy:=cq Tryz.func64 [[[0],[1],[2],[3],[4],[5],[6],[7],[8],[9,1]]]
noncomputable def Qz:=cq Tryz.func65 []
noncomputable def QA:=cq Tryz.func66 []
noncomputable def QB:=cq Tryz.func67 []
noncomputable def QC:=cq Tryz.func68 []
noncomputable def QD:=cq Tryz.func69 []
noncomputable def QE:=cq Tryz.func71 []
noncomputable def QF:=cq Tryz.func72 []
noncomputable def QG:=cq Tryz.func75 []
noncomputable def QH:=cq Tryz.func76 []
noncomputable def QI:=cq Tryz.func78 []
noncomputable def QJ:=cq Tryz.func80 []
noncomputable def QK:=cq Tryz.func81 []
noncomputable def QL:=cq Tryz.func82 [[[0],[1],[2],[3],[5],[6],[7],[9],[10],[11],[12],[4,12,11,7,0],[8,12,11,0]]]
noncomputable def QM:=cq Tryz.func83 []
noncomputable def QN:=cq Tryz.func84 [[[0],[1],[2],[3],[4],[6],[7],[8],[9],[5,9,8]]]
noncomputable def QO:=cq Tryz.func86 []
noncomputable def QP:=cq Tryz.func88 [[[0],[1],[2],[4],[5],[3,5],[7],[8],[6]],[[0],[1],[2],[3],[4],[5],[7],[8],[9],[10],[6,10]],[[0],[1],[2],[3],[4],[5],[6],[7],[8],[9],[10],[11],[12],[13,3]]]
noncomputable def QQ:=cq Tryz.func89 [[[0],[1],[2],[3,1]],[[0],[1],[2],[3],[4],[5],[6],[7],[8],[10],[11],[12],[13],[14],[15],[16],[9,16,15,13]],[[0],[1],[2,1]]]
noncomputable def QR:=cq Tryz.func93 []
noncomputable def QS:=cq Tryz.func94 []
noncomputable def QT:=cq Tryz.func95 []
noncomputable def QU:=cq Tryz.func96 []
noncomputable def QV:=cq Tryz.func97 []
noncomputable def QW:=cq Tryz.func98 []
noncomputable def QX:=cq Tryz.func99 [[[0],[1],[2],[3],[4],[5],[6],[10],[11],[12],[7,11],[8,11],[9]]]
noncomputable def Pt:=cq Tryz.func100 []
noncomputable def Pu:=cq Tryz.func101 []
noncomputable def Pv:=ace Tryz.func104 []
noncomputable def Pw:=cq Tryz.func107 []
noncomputable def Px:=cq Tryz.func108 []
noncomputable def Py:=cq Tryz.func109 []
noncomputable def PA:=cq Tryz.func110 []
noncomputable def PB:=cq Tryz.func111 []
noncomputable def PC:=cq Tryz.func114 []
noncomputable def PD:=cq Tryz.func115 []
noncomputable def PE:=cq Tryz.func116 []
noncomputable def PF:=cq Tryz.func117 []
noncomputable def PG:=cq Tryz.func120 []
noncomputable def PH:=cq Tryz.func121 []
noncomputable def PI:=cq Tryz.func122 []
noncomputable def PJ:=cq Tryz.func123 []
noncomputable def PK:=cq Tryz.func124 []
noncomputable def PL:=cq Tryz.func125 [[[0],[1],[3],[4],[7],[2,7,4],[5,7],[6]],[[0],[1],[2],[3],[4],[5],[6],[7],[8],[9,1]]]
noncomputable def PM:=cq Tryz.func128 []
noncomputable def PO:=cq Tryz.func134 []
noncomputable def PP:=cq Tryz.func135 []
noncomputable def PQ:=cq Tryz.func136 []
noncomputable def PR:=cq Tryz.func137 []
noncomputable def PS:=cq Tryz.func138 []
noncomputable def PT:=cq Tryz.func139 []
noncomputable def PU:=cq Tryz.func149 []
noncomputable def PV:=cq Tryz.func152 []
noncomputable def PW:=cq Tryz.func153 []
noncomputable def PX:=cq Tryz.func156 []
noncomputable def PY:=cq Tryz.func157 []
noncomputable def PZ:=cq Tryz.func164 []
noncomputable def P1:=cq Tryz.func175 [[[0],[1],[3],[2,3]]]
noncomputable def P2:=cq Tryz.func176 [[],[],[[0],[1],[2],[3],[4],[5],[6],[7],[8],[9],[10],[11],[12],[13],[14],[16],[17],[18],[19],[20],[21],[22],[23],[24],[25],[26],[27],[28],[29],[30],[15,30,29,27,23,19,17],[32],[31]]]
noncomputable def P3:=cq Tryz.func177 []
noncomputable def P4:=cq Tryz.func178 []
noncomputable def P5:=cq Tryz.func180 []
noncomputable def P6:=cq Tryz.func187 []
noncomputable def P8:=cq Tryz.func206 []
noncomputable def X1:cy (fw × List c2) :=(.node (.node (.node (.node (.node (.node (.node .nil (some Qx.1) .nil) none (.node .nil (some QT.1) .nil)) (some Fm.1) (.node .nil none (.node (.node .nil (some P1.1) .nil) (some PB.1) .nil))) none (.node (.node (.node (.node .nil (some PP.1) .nil) (some QE.1) .nil) none .nil) none (.node .nil (some Qr.1) .nil))) none (.node (.node (.node (.node .nil (some QB.1) .nil) (some Qi.1) (.node .nil (some QX.1) .nil)) (some P7.1) (.node (.node .nil (some QM.1) .nil) none (.node .nil (some PD.1) .nil))) (some Pz.1) (.node (.node (.node (.node .nil (some PT.1) .nil) (some QG.1) .nil) (some Ql.1) (.node .nil (some Pw.1) .nil)) (some Qd.1) (.node .nil none (.node (.node .nil (some P6.1) .nil) (some PJ.1) .nil))))) none (.node (.node (.node (.node (.node .nil (some Qz.1) .nil) (some Qg.1) (.node .nil (some QV.1) .nil)) (some P0.1) (.node (.node .nil (some QK.1) .nil) none (.node (.node .nil (some P3.1) .nil) none .nil))) none (.node (.node (.node (.node .nil (some PR.1) .nil) none .nil) none .nil) (some Qb.1) (.node (.node (.node .nil (some PW.1) .nil) (some QQ.1) .nil) none (.node .nil (some PH.1) .nil)))) none (.node (.node (.node (.node .nil (some QD.1) .nil) none (.node .nil (some Pu.1) .nil)) (some P9.1) (.node (.node (.node .nil (some PU.1) .nil) none .nil) (some Qp.1) (.node .nil (some PF.1) .nil))) (some PN.1) (.node (.node .nil none (.node .nil (some Py.1) .nil)) (some Qf.1) (.node (.node (.node .nil (some PY.1) .nil) (some QR.1) .nil) (some Qv.1) (.node .nil (some PL.1) .nil)))))) none (.node (.node (.node (.node (.node (.node (.node .nil (some PM.1) .nil) (some Qy.1) .nil) none (.node .nil (some QU.1) .nil)) none (.node (.node .nil (some QJ.1) .nil) (some Qn.1) (.node (.node .nil (some P2.1) .nil) none .nil))) none (.node (.node (.node (.node .nil (some PQ.1) .nil) (some QF.1) .nil) none (.node .nil (some Pv.1) .nil)) (some Qa.1) (.node (.node (.node .nil (some PV.1) .nil) (some QP.1) .nil) (some Qs.1) (.node .nil (some PG.1) .nil)))) none (.node (.node (.node (.node .nil (some QC.1) .nil) (some Qj.1) (.node (.node .nil (some PZ.1) .nil) (some Pt.1) .nil)) none (.node (.node .nil (some QN.1) .nil) none (.node (.node .nil (some P5.1) .nil) (some PE.1) .nil))) none (.node (.node (.node .nil (some QH.1) .nil) none (.node .nil (some Px.1) .nil)) (some Qe.1) (.node (.node (.node .nil (some PX.1) .nil) none .nil) (some Qu.1) (.node .nil (some PK.1) .nil))))) none (.node (.node (.node (.node (.node .nil (some QA.1) .nil) (some Qh.1) (.node .nil (some QW.1) .nil)) none (.node (.node .nil (some QL.1) .nil) none (.node (.node .nil (some P4.1) .nil) (some PC.1) .nil))) none (.node (.node (.node (.node .nil (some PS.1) .nil) none .nil) none .nil) (some Qc.1) (.node .nil none (.node .nil (some PI.1) .nil)))) none (.node (.node (.node (.node (.node .nil (some PO.1) .nil) none .nil) (some Qk.1) .nil) none (.node (.node .nil (some QO.1) .nil) (some Qq.1) .nil)) none (.node (.node (.node .nil (some QI.1) (.node .nil (some P8.1) .nil)) (some Qm.1) (.node .nil (some PA.1) .nil)) none (.node (.node .nil (some QS.1) .nil) (some Qw.1) .nil))))))
theorem alj:pj (E0 Tryz.prog) X1:=(fl (fl (fl (fl (ck Fm.2 (fl (ck Qx.2 bH bH) (ck QT.2 bH bH)) (fl bH (ck PB.2 (ck P1.2 bH bH) bH))) (fl (fl (ck QE.2 (ck PP.2 bH bH) bH) bH) (ck Qr.2 bH bH))) (ck Pz.2 (ck P7.2 (ck Qi.2 (ck QB.2 bH bH) (ck QX.2 bH bH)) (fl (ck QM.2 bH bH) (ck PD.2 bH bH))) (ck Qd.2 (ck Ql.2 (ck QG.2 (ck PT.2 bH bH) bH) (ck Pw.2 bH bH)) (fl bH (ck PJ.2 (ck P6.2 bH bH) bH))))) (fl (fl (ck P0.2 (ck Qg.2 (ck Qz.2 bH bH) (ck QV.2 bH bH)) (fl (ck QK.2 bH bH) (fl (ck P3.2 bH bH) bH))) (ck Qb.2 (fl (fl (ck PR.2 bH bH) bH) bH) (fl (ck QQ.2 (ck PW.2 bH bH) bH) (ck PH.2 bH bH)))) (ck PN.2 (ck P9.2 (fl (ck QD.2 bH bH) (ck Pu.2 bH bH)) (ck Qp.2 (fl (ck PU.2 bH bH) bH) (ck PF.2 bH bH))) (ck Qf.2 (fl bH (ck Py.2 bH bH)) (ck Qv.2 (ck QR.2 (ck PY.2 bH bH) bH) (ck PL.2 bH bH)))))) (fl (fl (fl (fl (fl (ck Qy.2 (ck PM.2 bH bH) bH) (ck QU.2 bH bH)) (ck Qn.2 (ck QJ.2 bH bH) (fl (ck P2.2 bH bH) bH))) (ck Qa.2 (fl (ck QF.2 (ck PQ.2 bH bH) bH) (ck Pv.2 bH bH)) (ck Qs.2 (ck QP.2 (ck PV.2 bH bH) bH) (ck PG.2 bH bH)))) (fl (fl (ck Qj.2 (ck QC.2 bH bH) (ck Pt.2 (ck PZ.2 bH bH) bH)) (fl (ck QN.2 bH bH) (ck PE.2 (ck P5.2 bH bH) bH))) (ck Qe.2 (fl (ck QH.2 bH bH) (ck Px.2 bH bH)) (ck Qu.2 (fl (ck PX.2 bH bH) bH) (ck PK.2 bH bH))))) (fl (fl (fl (ck Qh.2 (ck QA.2 bH bH) (ck QW.2 bH bH)) (fl (ck QL.2 bH bH) (ck PC.2 (ck P4.2 bH bH) bH))) (ck Qc.2 (fl (fl (ck PS.2 bH bH) bH) bH) (fl bH (ck PI.2 bH bH)))) (fl (fl (ck Qk.2 (fl (ck PO.2 bH bH) bH) bH) (ck Qq.2 (ck QO.2 bH bH) bH)) (fl (ck Qm.2 (ck QI.2 bH (ck P8.2 bH bH)) (ck PA.2 bH bH)) (ck Qw.2 (ck QS.2 bH bH) bH))))))
theorem kq:Bx Tryz.prog (fun f=>X1.get f) :=ali alj
end Go.bY

namespace Go.bY
open Go
namespace hl
abbrev W:=BitVec 32
abbrev B:=BitVec 8
def nD (x:W) (n:Nat) :W:=(x >>> n) ||| (x <<< (32 - n))
def pg (l:List B) :W:=l.foldl (fun a x=>(a <<< 8) ||| x.setWidth 32) 0#32
def part (b:List B) (k t:Nat) :W:=pg (((b.take k).drop (4*t)).take 4)
def fu (b:List B) :List W:=(List.range 16).map fun t=>pg ((b.drop (4*t)).take 4)
def ext (w:List W) :W:=
 let t:=w.length
 let x:=w.getD (t - 15) 0#32
 let y:=w.getD (t - 2) 0#32
 w.getD (t - 16) 0#32+w.getD (t - 7) 0#32+(nD x 7 ^^^ nD x 18 ^^^ (x >>> 3))+(nD y 17 ^^^ nD y 19 ^^^ (y >>> 10))
def iU:Nat->List W->List W
 | 0,w=>w
 | n+1,w=>iU n (w++[ext w])
def fE (b:List B) :List W:=iU 48 (fu b)
def My (x:W) (i j k:Nat) :W:=nD x i ^^^ nD x j ^^^ nD x k
structure eJ where
 (a b c d e f g h:W)
def round (s:eJ) (k w:W) :eJ:=
 let p:=s.h+My s.e 6 11 25+((s.e &&& s.f) ^^^ (~~~s.e &&& s.g))+k+w
 let q:=My s.a 2 13 22+((s.a &&& s.b) ^^^ (s.a &&& s.c) ^^^ (s.b &&& s.c))
 ⟨p+q,s.a,s.b,s.c,s.d+p,s.e,s.f,s.g⟩
def rounds:eJ->List W->List W->eJ
 | s,k::cc,w::hv=>rounds (round s k w) cc hv
 | s,_,_=>s
def table:List Nat:=[0x428a2f98,0x71374491,0xb5c0fbcf,0xe9b5dba5,0x3956c25b,0x59f111f1,0x923f82a4,0xab1c5ed5,0xd807aa98,0x12835b01,0x243185be,0x550c7dc3,0x72be5d74,0x80deb1fe,0x9bdc06a7,0xc19bf174,0xe49b69c1,0xefbe4786,0x0fc19dc6,0x240ca1cc,0x2de92c6f,0x4a7484aa,0x5cb0a9dc,0x76f988da,0x983e5152,0xa831c66d,0xb00327c8,0xbf597fc7,0xc6e00bf3,0xd5a79147,0x06ca6351,0x14292967,0x27b70a85,0x2e1b2138,0x4d2c6dfc,0x53380d13,0x650a7354,0x766a0abb,0x81c2c92e,0x92722c85,0xa2bfe8a1,0xa81a664b,0xc24b8b70,0xc76c51a3,0xd192e819,0xd6990624,0xf40e3585,0x106aa070,0x19a4c116,0x1e376c08,0x2748774c,0x34b0bcb5,0x391c0cb3,0x4ed8aa4a,0x5b9cca4f,0x682e6ff3,0x748f82ee,0x78a5636f,0x84c87814,0x8cc70208,0x90befffa,0xa4506ceb,0xbef9a3f7,0xc67178f2]
def cc:List W:=table.map (BitVec.ofNat 32)
def grind (h:eJ) (b:List B) :eJ:=
 let v:=rounds h cc (fE b)
 ⟨h.a+v.a,h.b+v.b,h.c+v.c,h.d+v.d,h.e+v.e,h.f+v.f,h.g+v.g,h.h+v.h⟩
def Jk:Nat->eJ->List B->eJ × List B
 | 0,h,b=>(h,b)
 | n+1,h,b=>if 64<=b.length then Jk n (grind h (b.take 64)) (b.drop 64) else (h,b)
def hM (h:eJ) (b:List B) :eJ × List B:=Jk (b.length / 64) h b
def first:eJ:=⟨0x6a09e667#32,0xbb67ae85#32,0x3c6ef372#32,0xa54ff53a#32,0x510e527f#32,0x9b05688c#32,0x1f83d9ab#32,0x5be0cd19#32⟩
def BI (n:BitVec 64) :List B:=[(n >>> 56).setWidth 8,(n >>> 48).setWidth 8,(n >>> 40).setWidth 8,(n >>> 32).setWidth 8,(n >>> 24).setWidth 8,(n >>> 16).setWidth 8,(n >>> 8).setWidth 8,(n >>> 0).setWidth 8]
def tail (n:Nat) :List B:=128#8::List.replicate ((119 - n % 64) % 64) 0#8++BI (BitVec.ofNat 64 n*8#64)
def uD (w:W) :List B:=[(w >>> 24).setWidth 8,(w >>> 16).setWidth 8,(w >>> 8).setWidth 8,w.setWidth 8]
def eJ.l (s:eJ) :List W:=[s.a,s.b,s.c,s.d,s.e,s.f,s.g,s.h]
def written (s:eJ) :List B:=(s.l.map uD).flatten
def iM (b:List B) :List B:=written (hM first (b++tail b.length)).1
theorem amq (l:List B) (x:B) :pg (l++[x])=(pg l <<< 8) ||| x.setWidth 32:=by simp[pg,avm]
theorem xq:∀ (n:Nat) (w:List W),(iU n w).length=w.length+n
 | 0,w=>rfl
 | n+1,w=>by rw[iU,xq n]; simp; omega
theorem Et (b:List B) :(fE b).length=64:=by rw[fE,xq]; simp[fu]
theorem IC (s:eJ) :(written s).length=32:=rfl
theorem wB (b:List B) :(iM b).length=32:=rfl
theorem JP:∀ (n:Nat) (w:List W),iU (n+1) w=iU n w++[ext (iU n w)]
 | 0,w=>rfl
 | n+1,w=>by rw[iU,JP n (w++[ext w])]; rfl
theorem Ig (a:W) (x:B) :(a <<< 8) ||| x.setWidth 32=a*256#32+x.setWidth 32:=by
 apply atg;have ag:x.toNat<256:=x.isLt;have aB:=a.isLt;rw[BitVec.toNat_or,auV,avS,auL,ath];have ad:x.toNat % 2 ^ 32=x.toNat:=atb (by omega);have ae:a.toNat <<< 8 % 2 ^ 32=(a.toNat % 2 ^ 24) <<< 8:=by rw[aut,aut]; omega
 have aj:=avA (b:=x.toNat) (i:=8) (by omega) (a.toNat % 2 ^ 24);rw[ad,ae,<-aj,aut];have aF:(256#32).toNat=256:=rfl;rw[aF];omega
theorem BG (h:eJ) (b:List B) (af:64<=b.length) :hM h b=hM (grind h (b.take 64)) (b.drop 64) :=by
 have:b.length / 64=(b.drop 64).length / 64+1:=by simp; omega
 rw[hM,this,Jk,if_pos af];rfl
theorem Fh (h:eJ) (b:List B) (af:b.length<64) :hM h b=(h,b) :=by
 rw[hM,avT af]; rfl
theorem ZU (h:eJ) (b:List B) :(hM h b).2.length=b.length % 64:=by
 generalize aC:b.length=n
 induction n using Nat.strongRecOn generalizing h b with
 | _ n aS=>
  rcases aub b.length 64 with ad | ad
  ·rw[Fh h b ad,atb (by omega)]; exact aC
  ·rw[BG h b ad,aS (b.length - 64) (by omega) _ (b.drop 64) (by simp)];omega
theorem Ph (h:eJ) (a b:List B) :hM h (a++b)=hM (hM h a).1 ((hM h a).2++b) :=by
 generalize aC:a.length=n
 induction n using Nat.strongRecOn generalizing h a with
 | _ n aS=>
  rcases aub a.length 64 with ad | ad
  ·rw[Fh h a ad]
  ·rw[BG h a ad,BG h (a++b) (by simp; omega),atG ad,atY ad];exact aS (a.length - 64) (by omega) _ (a.drop 64) (by simp)
end hl

end Go.bY

namespace Go.bY
open Go Go.Proofs
def Bd:List U:=hl.cc.map br
def GS:Nat->U:=fun g=>match Nat.beq g 1 with | true=>.bK Bd 0 | false=>.bad
theorem bl:∀ g,(GS g).closed=true:=by
 intro g;unfold GS;split
 ·exact mw br (fun _=>rfl) _
 ·rfl
@[simp]
theorem amQ:GS 1=.bK Bd 0:=id rfl
theorem alg (i:Nat) (h:i<64) :Bd[i]? = some (br (hl.cc.getD i 0#32)) :=by
 have al:hl.cc.length=64:=rfl;unfold Bd;rw[as5,atf,as4 (by omega)];rfl
end Go.bY

namespace Go.bY
open Go Go.Proofs
set_option maxRecDepth 100000
namespace hl
def Ng (x:W) (k:Int) :W:=(x <<< (BitVec.ofInt 64 k &&& 31#64).toNat) ||| (x >>> (32#64 - (BitVec.ofInt 64 k &&& 31#64)).toNat)
theorem yD (x:W) (n:Nat) (aI:0<n) (h:n<32) :Ng x (-(n:Int))=nD x n:=by
 have ad:∀ n:Fin 32,0<n.val->(BitVec.ofInt 64 (-(n.val:Int)) &&& 31#64)=BitVec.ofNat 64 (32 - n.val) :=by decide
 have ae:=ad ⟨n,h⟩ aI;simp only at ae;unfold Ng nD;rw[ae,BitVec.or_comm];congr 2
 ·have:∀ n:Fin 32,0<n.val->(32#64 - BitVec.ofNat 64 (32 - n.val)).toNat=n.val:=by decide
  exact this ⟨n,h⟩ aI
 ·have:∀ n:Fin 32,0<n.val->(BitVec.ofNat 64 (32 - n.val)).toNat=32 - n.val:=by decide
  exact this ⟨n,h⟩ aI
theorem yC (x:W) (k:Int) :bA Tryz.prog GS 230 [br x,.int .i64 k] (br (Ng x k)) :=by
 refine bW Tryz.checked.mixed bl ?_;apply bq Tryz.func230 [];simp;exact aP rfl rfl
theorem VD (x:W) (i j k:Nat) (az:0<i/\i<32) (ai:0<j/\j<32) (ar:0<k/\k<32) :bA Tryz.prog GS 213 [br x,.int .i64 i,.int .i64 j,.int .i64 k] (br (My x i j k)) :=by
 refine bW Tryz.checked.mixed bl ?_;apply bq Tryz.func213 [];have aC:∀ n:Nat,n<32->IntKind.i64.wrap (-(n:Int))=-(n:Int) :=fun n aC=>wrap_i64 (by omega) (by omega)
 simp[aC i az.2];refine a4 (yC x _) rfl ?_;simp[aC j ai.2];refine a4 (yC x _) rfl ?_;simp[aC k ar.2];refine a4 (yC x _) rfl ?_;simp[yD x _ az.1 az.2,yD x _ ai.1 ai.2,yD x _ ar.1 ar.2];exact aP rfl rfl
def b7 (x:B) :List U:=[bz x]
abbrev eH:=c3 B
abbrev cz (s:eH) :U:=cA 1 b7 s
theorem mx (s:eH) :(cz s).closed=true:=BR (fun _=>rfl) s
def ph (b:List B) (k:Nat) :List W:=((List.range 16).map fun t=>pg (((b.take k).drop (4*t)).take 4))++List.replicate 48 0#32
theorem YC (b:List B) (k:Nat) :(ph b k).length=64:=by simp[ph]
theorem amE (b:List B) :ph b 0=List.replicate 64 0#32:=by simp[ph,pg]; rfl
theorem N9 (b:List B) (k t:Nat) (aV:t<16) :(ph b k)[t]? = some (pg (((b.take k).drop (4*t)).take 4)) :=by
 unfold ph;rw[as2 (by simpa using aV),as5,atC aV];rfl
theorem amD (b:List B) (k:Nat) (ar:k<64) (af:k<b.length) (x:B) (ag:b[k]? = some x) :
  (ph b k).set (k / 4) ((pg (((b.take k).drop (4*(k / 4))).take 4) <<< 8) ||| x.setWidth 32)=ph b (k+1) :=by
 apply atO;intro t;rw[at9,YC];have Un:b.take (k+1)=b.take k++[x] :=by rw[atu,ag]; rfl
 have bD:(b.take k).length=k:=by simp; omega
 by_cases aV:t<16
 ·rw[N9 b _ t aV,N9 b _ t aV];by_cases h:k / 4=t
  ·rw[if_pos h,if_pos (by omega),<-amq,Un,h];congr 2;rw[atY (by omega)];obtain⟨A,dm⟩:∃ A,A=List.drop (4*t) (List.take k b) :=⟨_,rfl⟩
   have k0:A.length<4:=by rw[dm]; simp; omega
   rw[<-dm,as1 (by omega),as1 (by simp; omega)]
  ·rw[if_neg h,Un];congr 2;rcases aub k (4*t) with ad | ad
   ·rw[atE (by omega),atE (by simp; omega)]
   ·rw[atY (by omega),atG (by simp; omega)]
 ·rw[if_neg (by omega)];unfold ph;rw[atl (by simp; omega),atl (by simp; omega)];simp
theorem amC (b:List B) (af:64<=b.length) :ph b 64=fu b++List.replicate 48 0#32:=by
 unfold ph fu;congr 1;apply aup;intro t aV;have:=atA.1 aV;congr 1;rw[avk,auH,auy (by omega)]
def qd (b:List B) (k:Nat) :List W:=iU k (fu b)++List.replicate (48 - k) 0#32
theorem akv (b:List B) (k:Nat) (ar:k<=48) :(qd b k).length=64:=by simp[qd,xq,fu]; omega
theorem Ib (b:List B) (k i:Nat) (az:i<16+k) :(qd b k)[i]? = some ((iU k (fu b)).getD i 0#32) :=by
 unfold qd;have al:(iU k (fu b)).length=16+k:=by simp[xq,fu]
 rw[as2 (by omega),atf,as4 (by omega)];rfl
theorem akw (b:List B) (k:Nat) (ar:k<48) :(qd b k).set (16+k) (ext (iU k (fu b)))=qd b (k+1) :=by
 have al:(iU k (fu b)).length=16+k:=by simp[xq,fu]
 unfold qd;rw[at8 _ _ (by omega),al,auZ,show 48 - k=(48 - (k+1))+1 by omega,atP,auR,JP];simp
set_option maxHeartbeats 4000000 in
theorem aky (b:List B) (af:64<=b.length) :bA Tryz.prog GS 212 [cz (some b)] (.aG ((fE b).map br)) :=by
 refine bW Tryz.checked.mixed bl ?_;apply bq Tryz.func212 [];have bS:fF (.aq 1) (cz (some b)) none (some (.int .i64 64)) none=some (cz (some (b.take 64))) :=by
  unfold cz; rw[Xw (by omega) (by omega)]; rfl
 have z8:min 64 b.length=64:=by omega
 simp[bS,z8];refine cB 64 (fun k σ l=>σ 2=.ptr 0 0 64/\σ 11=cz (some (b.take 64))/\σ 12=.int .i64 64/\σ 13=.int .i64 k/\l=[.cells 64 ((ph b k).map br)]) ?_ ?_
 ·rintro k σ l ar ⟨aT,kw,lB,lC,rfl⟩;obtain⟨σ,rfl⟩:=i2 aT kw lB lC;clear aT kw lB lC;simp;by_cases h:(k:Int)<64
  ·obtain⟨x,ag⟩:∃ x,b[k]? = some x:=⟨_,as4 (by omega)⟩
   have Dq:(b.take 64)[k]? = some x:=by rw[atp (by omega)]; exact ag
   have bZ:cN (.aq 1) (cz (some (b.take 64))) (.int .i64 k)=some (.bK (b7 x) 0) :=by simp[cz,tX,Dq]
   obtain⟨q,Lj⟩:∃ q,q=k / 4:=⟨_,rfl⟩
   have bj:cm .quo .i64 (k:Int) .i64 4=some (.int .i64 (q:Int)) :=by rw[Lj]; exact Jn k 4 (by omega) (by omega)
   have fg:IntKind.i64.wrap ((k:Int)+1)=k+1:=wrap_i64 (by omega) (by omega);have aK:(q:Int)<64:=by omega
   have aw:=N9 b k q (by omega);have ak:=pb br (ph b k) q (((pg (((b.take k).drop (4*q)).take 4) <<< 8) ||| x.setWidth 32)) (by rw[YC]; omega);rw[Lj,amD b k (by omega) (by omega) x ag,<-Lj] at ak;have dY:q+1<=64:=by omega
   simp[h,bZ,b7,bj,aK,aw,dY,fg,ak];omega
  ·have xR:k=64:=by omega
   subst xR;simp;refine cB 48 (fun j σ l=>σ 2=.ptr 0 0 64/\σ 5=.int .i64 (16+j:Nat)/\l=[.cells 64 ((qd b j).map br)]) ?_ ?_
   ·rintro j σ l ai ⟨aT,bm,rfl⟩;obtain⟨σ,rfl⟩:=qm aT bm;clear aT bm;obtain⟨t,aV⟩:∃ t,t=16+j:=⟨_,rfl⟩
    rw[<-aV];simp;by_cases h:(t:Int)<64
    ·have nu:IntKind.i64.wrap ((t:Int)+1)=(t+1:Nat) :=wrap_i64 (by omega) (by omega);have Iq:IntKind.i64.wrap ((t:Int) - 15)=(t - 15:Nat) :=by rw[wrap_i64 (by omega) (by omega)]; omega
     have w2:IntKind.i64.wrap ((t:Int) - 2)=(t - 2:Nat) :=by rw[wrap_i64 (by omega) (by omega)]; omega
     have Ir:IntKind.i64.wrap ((t:Int) - 16)=(t - 16:Nat) :=by rw[wrap_i64 (by omega) (by omega)]; omega
     have EL:IntKind.i64.wrap ((t:Int) - 7)=(t - 7:Nat) :=by rw[wrap_i64 (by omega) (by omega)]; omega
     have al:(iU j (fu b)).length=t:=by simp[xq,fu]; omega
     have th:=Ib b j (t - 15) (by omega);have aT:=Ib b j (t - 2) (by omega);have zD:=Ib b j (t - 16) (by omega);have fe:=Ib b j (t - 7) (by omega);have ak:=pb br (qd b j) t (ext (iU j (fu b))) (by rw[akv b j (by omega)]; omega);rw[aV,akw b j (by omega),<-aV] at ak;unfold ext at ak;rw[al] at ak
     dsimp only at ak
     obtain⟨vP,JG⟩:∃ i,i=t - 15:=⟨_,rfl⟩
     obtain⟨dT,bx⟩:∃ i,i=t - 2:=⟨_,rfl⟩
     obtain⟨vQ,Fy⟩:∃ i,i=t - 16:=⟨_,rfl⟩
     obtain⟨iF,zu⟩:∃ i,i=t - 7:=⟨_,rfl⟩
     rw[<-JG] at Iq th ak;rw[<-bx] at w2 aT ak;rw[<-Fy] at Ir zD ak;rw[<-zu] at EL fe ak;have Jb:(vP:Int)<64:=by omega
     have dC:(dT:Int)<64:=by omega
     have Jc:(vQ:Int)<64:=by omega
     have s8:(iF:Int)<64:=by omega
     have dY:t+1<=64:=by omega
     generalize (iU j (fu b)).getD vP 0#32=x at th ak;generalize (iU j (fu b)).getD dT 0#32=y at aT ak;generalize (iU j (fu b)).getD vQ 0#32=Od at zD ak;generalize (iU j (fu b)).getD iF 0#32=Oe at fe ak;have WF:=yD x 7 (by omega) (by omega);have WC:=yD x 18 (by omega) (by omega);have WB:=yD y 17 (by omega) (by omega);have WD:=yD y 19 (by omega) (by omega);simp at WF WC WB WD;simp[h,Iq,w2,th,aT,Jb,dC];refine a4 (yC _ _) rfl ?_;simp;refine a4 (yC _ _) rfl ?_;simp;refine a4 (yC _ _) rfl ?_;simp;refine a4 (yC _ _) rfl ?_;simp[WF,WC,WB,WD,Ir,EL,zD,fe,Jc,s8,h,ak,nu,dY];omega
    ·have aej:j=48:=by omega
     have afl:qd b 48=fE b:=by simp[qd,fE]
     subst aej;have C1:=Et b;rw[afl];simp[h,C1,nJ,as1];exact aP rfl (Ra br (fun _=>rfl) _)
   ·simp[qd,iU,amC b af]
 ·simp[amE,W3 _ 32]
theorem amA (b:List B) (n:Nat) (aC:64<=n) :fu (b.take n)=fu b:=by
 unfold fu;apply aup;intro t aV;have:=atA.1 aV;congr 1;rw[avk,auH,auy (by omega)]
theorem akx (b:List B) (n:Nat) (aC:64<=n) :fE (b.take n)=fE b:=by unfold fE; rw[amA b n aC]
theorem rounds_succ:∀ (k:Nat) (s:eJ) (a b:List W) (x y:W),a[k]? = some x->b[k]? = some y->rounds s (a.take (k+1)) (b.take (k+1))=round (rounds s (a.take k) (b.take k)) x y
 | 0,s,a,b,x,y,aB,af=>by
  cases a with
  | nil=>simp at aB
  | cons a OH=>
   cases b with
   | nil=>simp at af
   | cons b bs=>simp at aB af; subst aB af; simp[rounds]
 | k+1,s,a,b,x,y,aB,af=>by
  cases a with
  | nil=>simp at aB
  | cons a OH=>
   cases b with
   | nil=>simp at af
   | cons b bs=>
    simp only[List.take_succ_cons,rounds];exact rounds_succ k _ OH bs x y (by simpa using aB) (by simpa using af)
def mU (h:eJ) (b:List B) (k:Nat) :eJ:=rounds h (cc.take k) ((fE b).take k)
theorem WI (h:eJ) (b:List B) :mU h b 0=h:=rfl
theorem WH (h:eJ) (b:List B) (k:Nat) (ar:k<64) :mU h b (k+1)=round (mU h b k) (cc.getD k 0#32) ((fE b).getD k 0#32) :=by
 have ad:cc.length=64:=rfl;have ae:=Et b;refine rounds_succ k h cc (fE b) _ _ ?_ ?_
 ·rw[atf,as4 (by omega)]; rfl
 ·rw[atf,as4 (by omega)]; rfl
theorem WG (h:eJ) (b:List B) :mU h b 64=rounds h cc (fE b) :=by
 have ad:cc.length=64:=rfl;have ae:=Et b;unfold mU;rw[as1 (by omega),as1 (by omega)]
def i4 (a b:List W) (k:Nat) :List W:=(List.zipWith (·+·) a b).take k++a.drop k
theorem OE (a b:List W) :i4 a b 0=a:=rfl
theorem IZ {a b:List W} (h:a.length=b.length) (k:Nat) :(i4 a b k).length=a.length:=by simp[i4]; omega
theorem OC {a b:List W} (h:a.length=b.length) {k:Nat} (ar:k<a.length) :(i4 a b k)[k]? = a[k]?:=by
 unfold i4;rw[atl (by simp; omega)];have:(List.take k (List.zipWith (·+·) a b)).length=k:=by simp; omega
 rw[this,atH]; simp
theorem OD {a b:List W} (h:a.length=b.length) {k:Nat} {x y:W} (ag:a[k]? = some x) (aJ:b[k]? = some y) :(i4 a b k).set k (x+y)=i4 a b (k+1) :=by
 have ar:=(as0.1 ag).1;unfold i4;have al:(List.take k (List.zipWith (·+·) a b)).length=k:=by simp; omega
 have ax:(List.zipWith (·+·) a b)[k]? = some (x+y) :=by rw[List.getElem?_zipWith,ag,aJ]
 rw[at8 _ _ (by omega),al,auZ,atZ ar,auR,atu,ax];simp
set_option maxHeartbeats 8000000 in
theorem aci {h:eJ} {b:List B} (af:64<=b.length) {l:ao} {bk sz:Nat} {rest:List U} {x:U} {K:U->ao->Prop} (al:l[bk]? = some (.cells sz (h.l.map br++rest))) (hX:8<=sz) (ag:gm (a7 l) x (cz (some b)))
  (aU:∀ junk,K (.bv []) (l.set bk (.cells sz ((grind h b).l.map br++rest))++junk)) :dh Tryz.prog GS 192 [.ptr bk 0 sz,x] l (c:=⟨K⟩) :=by
 apply bq Tryz.func192 [[],[[0],[1],[4],[5],[6],[7],[8],[9],[10],[11],[13],[14],[15],[17],[18],[19],[2,19,15],[3],[12],[16]]];simp;refine lV (aky b af) (.cons ag .nil) (RT br (fun _=>rfl) _) ?_;have aC:=cp al;have bS:=Et b;have iX:(l++[aY.cells 64 ((fE b).map br)])[bk]? = some (.cells sz (h.l.map br++rest)) :=by rw[as2 aC]; exact al
 have aw:∀ i (y:W),i<8->h.l[i]? = some y->(h.l.map br++rest)[i]? = some (br y) :=fun i y az aJ=>by
  rw[as2 (by simpa [eJ.l] using az),as5,aJ]; rfl
 have cE:=aw 0 h.a (by omega) rfl;have q1:=aw 1 h.b (by omega) rfl;have db:=aw 2 h.c (by omega) rfl;have gh:=aw 3 h.d (by omega) rfl;have ur:=aw 4 h.e (by omega) rfl;have ajd:=aw 5 h.f (by omega) rfl;have aje:=aw 6 h.g (by omega) rfl;have ajf:=aw 7 h.h (by omega) rfl;simp[nJ,bS,iX,cE,q1,db,gh,ur,ajd,aje,ajf];refine cB 64 (fun k σ l'=>σ 0=.ptr bk 0 sz/\σ 4=.ptr l.length 0 64/\σ 5=br (mU h b k).a/\σ 6=br (mU h b k).b/\σ 7=br (mU h b k).c/\σ 8=br (mU h b k).d/\σ 9=br (mU h b k).e/\σ 10=br (mU h b k).f/\σ 11=br (mU h b k).g/\σ 12=br (mU h b k).h/\σ 52=.int .i64 k ∧
  l'=l++[.cells 64 ((fE b).map br)]) ?_ ?_
 ·rintro k σ l' ar ⟨ce,bi,bm,cw,fe,gc,h3,j9,kw,lB,Sc,rfl⟩;obtain⟨σ,rfl⟩:=alO ce bi bm cw fe gc h3 j9 kw lB Sc;clear ce bi bm cw fe gc h3 j9 kw lB Sc;simp;by_cases e4:(k:Int)<64
  ·have fg:IntKind.i64.wrap ((k:Int)+1)=k+1:=wrap_i64 (by omega) (by omega);have e5:k<64:=by omega
   have aV:=alg k e5;have hd:(fE b)[k]? = some ((fE b).getD k 0#32) :=by rw[atf,as4 (by omega)]; rfl
   rw[WH h b k e5];generalize (fE b).getD k 0#32=ix at *
   generalize cc.getD k 0#32=mQ at *
   generalize mU h b k=s at *
   have eQ:=VD s.e 6 11 25 (by omega) (by omega) (by omega);have eG:=VD s.a 2 13 22 (by omega) (by omega) (by omega);simp at eQ eG;simp[e4,aV,hd];refine a4 eQ rfl ?_;simp[aV,hd];refine a4 eG rfl ?_;simp[e5,fg];simp[round]
  ·have xR:k=64:=by omega
   subst xR;rw[WG];obtain⟨v,ap⟩:∃ v,rounds h cc (fE b)=v:=⟨_,rfl⟩
   rw[ap];have k5:grind h b=⟨h.a+v.a,h.b+v.b,h.c+v.c,h.d+v.d,h.e+v.e,h.f+v.f,h.g+v.g,h.h+v.h⟩:=by unfold grind; rw[ap]
   simp;have pT:h.l.length=v.l.length:=rfl;have oc:h.l.length=8:=rfl;have tG:(grind h b).l=i4 h.l v.l 8:=by rw[k5]; rfl
   rw[tG] at aU;refine cB 8 (fun k σ l'=>σ 0=.ptr bk 0 sz/\σ 111=.aG (v.l.map br)/\σ 112=.int .i64 k/\l'=l.set bk (.cells sz ((i4 h.l v.l k).map br++rest))++[.cells 64 ((fE b).map br)]) ?_ ?_
   ·rintro k σ l' ar ⟨ce,R6,R7,rfl⟩;obtain⟨σ,rfl⟩:=ln ce R6 R7;clear ce R6 R7;simp;by_cases e4:(k:Int)<8
    ·have fg:IntKind.i64.wrap ((k:Int)+1)=k+1:=wrap_i64 (by omega) (by omega);have io:k<8:=by omega
     obtain⟨y,aJ⟩:∃ y,v.l[k]? = some y:=⟨_,as4 (show k<v.l.length from io)⟩
     obtain⟨z,ax⟩:∃ z,h.l[k]? = some z:=⟨_,as4 (show k<h.l.length from io)⟩
     have aB:=OC pT (k:=k) (by rw[oc]; exact io);rw[ax] at aB;have hT:=IZ pT k;have ak:=pb br (i4 h.l v.l k) k (z+y) (by rw[hT,oc]; exact io);rw[OD pT ax aJ] at ak;have np:((i4 h.l v.l k).map br).length=8:=by rw[ate,hT,oc]
     have q8:bg ((i4 h.l v.l k).map br++rest) k [br (z+y)]=(i4 h.l v.l (k+1)).map br++rest:=by
      rw[<-ak];unfold bg;rw[atG (by omega),atY (by simp; omega)];simp
     have r6:((i4 h.l v.l k).map br++rest)[k]? = some (br z) :=by rw[as2 (by omega),as5,aB]; rfl
     have C0:(l.set bk (.cells sz ((i4 h.l v.l k).map br++rest))++[aY.cells 64 ((fE b).map br)])[bk]? = some (.cells sz ((i4 h.l v.l k).map br++rest)) :=by
      rw[as2 (by simpa using aC),at9]; simp[aC]
     have r8:k+1<=sz:=by omega
     simp[e4,aJ,r6,C0,fg,q8,io,r8,aC,List.set_append]
    ·have io:k=8:=by omega
     subst io;simp;exact aU _
   ·have k8:l.set bk (.cells sz ((i4 h.l v.l 0).map br++rest))=l:=by
     rw[OE]; exact akC al
    rw[k8];simp[eJ.l]
 ·simp[WI]
abbrev na (cd:c3 eH) :U:=cA 1 (fun s=>[cz s]) cd
theorem Q8 (cd:c3 eH) :(na cd).closed=true:=BR (fun s=>by simp only[a5,mx,auO]) cd
def bytesOf (cd:List eH) :List B:=(cd.map c3.l).flatten
theorem bytesOf_take (cd:List eH) (k:Nat) (s:eH) (h:cd[k]? = some s) :bytesOf (cd.take (k+1))=bytesOf (cd.take k)++s.l:=by
 unfold bytesOf;rw[atu,h]; simp
theorem Ps (cd:List eH) (k:Nat) :(bytesOf (cd.take k)).length<=(bytesOf cd).length:=by
 conv=>rhs; rw[<-at3 k cd]
 unfold bytesOf;rw[atn,atT,as8];omega
theorem acm {n:Nat} (aC:n<=1000000000) {l:ao} {K:U->ao->Prop} (aU:∀ v j l',bO 1 l' v j []->l.length<=l'.length->(∀ b,b<l.length->l'[b]? = l[b]?)->(cD v=decide (n=0))->K v l') :dh Tryz.prog GS 153 [.aH,.int .i64 n] l (c:=⟨K⟩) :=by
 apply bq Tryz.func153 [];have ad:¬((n:Int)<0) :=by omega
 have aW:IntKind.i64.wrap (n:Int)=n:=wrap_i64 (by omega) (by omega);have LG:IntKind.i64.wrap (0:Int)=0:=rfl;by_cases aI:n=0
 ·subst aI;simp;exact aU _ 0 _ (.nil 0) (as3 _) (fun _ _=>rfl) rfl
 have ae:(0:Int)<n:=by omega
 have ax:qB l 1 1 [.int .u8 0] .aH (.int .i64 n)=some (.aq 1 l.length 0 n n (n*1),l++[.cells (n*1) (dx [.int .u8 0] n)]) :=by
  unfold qB jq;simp only[atD];have ay:ct=140737488355328:=rfl;rw[if_pos ⟨by omega,by omega,by rw[ay]; omega⟩,if_neg aI,if_neg (by omega),if_pos (by rw[ay]; omega)]
 have ak:fF (.aq 1) (.aq 1 l.length 0 n n (n*1)) none (some (.int .i64 0)) none=some (.aq 1 l.length 0 0 n (n*1)) :=by
  rw[Ex,Jm,if_pos ⟨by omega,by omega⟩];simp[aI]
 rw[aux] at ax ak;have aj:0<n:=by omega
 simp[ad,ae,aj,aW,ax,LG,ak];refine aU _ l.length (l++[.cells n (dx [.int .u8 0] n)]) (.aq _ 0 n n (dx [.int .u8 0] n) [] (by simp) (by rw[Em]; simp) rfl (by simp) (by omega) (by omega) rfl) (by simp) (fun b af=>as2 af) ?_;simp[cD,aI]
def zd (cd:List eH) :eH:=if bytesOf cd=[] then none else some (bytesOf cd)
theorem aan (cd:List eH) :(zd cd).l=bytesOf cd:=by unfold zd; split<;>simp_all
set_option maxHeartbeats 4000000 in
theorem aaJ (cd:List eH) (al:(bytesOf cd).length<=1000000000) (C4:cd.length<=1000000000) :gl Tryz.prog GS 110 [na (some cd)] (cz (zd cd)) :=by
 refine AR Tryz.checked.mixed bl ?_;apply bq Tryz.func110 [];simp;have bZ:∀ (k:Nat) (s:eH),cd[k]? = some s->cN (.aq 1) (na (some cd)) (.int .i64 k)=some (.bK [cz s] 0) :=fun k s ak=>by simp[na,tX,ak]
 refine cB cd.length (fun k σ l=>σ 0=na (some cd)/\σ 9=na (some cd)/\σ 10=.int .i64 cd.length/\σ 11=.int .i64 k/\σ 3=.int .i64 (bytesOf (cd.take k)).length/\l=[]) ?_ ?_
 ·rintro k σ l ar ⟨ce,h3,j9,kw,aZ,rfl⟩;obtain⟨σ,rfl⟩:=lo ce aZ h3 j9 kw;clear ce aZ h3 j9 kw;simp;by_cases h:k<cd.length
  ·obtain⟨s,ak,_⟩:=bP h;have af:=bytesOf_take cd k s ak;have dY:=Ps cd (k+1);rw[af,as8] at dY;have aW:IntKind.i64.wrap (((bytesOf (cd.take k)).length:Int)+s.l.length)=((bytesOf (cd.take k)).length:Int)+s.l.length:=wrap_i64 (by omega) (by omega);have fg:IntKind.i64.wrap ((k:Int)+1)=k+1:=wrap_i64 (by omega) (by omega);have jO:¬(((bytesOf (cd.take k)).length:Int)+s.l.length<0) :=by omega
   simp[h,bZ k s ak,aW,jO,fg,af]
  ·have bB:k=cd.length:=by omega
   subst bB;simp;refine acm al ?_;intro v j l au bD _ ip;simp;refine cB cd.length (fun k σ l=>σ 25=na (some cd)/\σ 26=.int .i64 cd.length/\σ 27=.int .i64 k/\∃ v j,σ 6=v/\bO 1 l v j ((bytesOf (cd.take k)).map b7)/\cD v=decide (bytesOf cd=[])) ?_ ?_
   ·rintro k σ l ar ⟨tk,zF,zG,v,j,cw,au,ip⟩;obtain⟨σ,rfl⟩:=i2 cw tk zF zG;clear cw tk zF zG;simp;by_cases h:k<cd.length
    ·obtain⟨s,ak,_⟩:=bP h;have af:=bytesOf_take cd k s ak;have dY:=Ps cd (k+1);rw[af,as8] at dY;have fg:IntKind.i64.wrap ((k:Int)+1)=k+1:=wrap_i64 (by omega) (by omega);have ay:ct=140737488355328:=rfl;obtain⟨a3,cn,l',ad,ae,aj,aF,a6,bu⟩:=oE (by_:=1) au (x:=cz s) (xs:=s.l.map b7) (by simp[cz]) (fun e am=>by obtain⟨x,_,rfl⟩:=atx.1 am; rfl) (by omega) (by omega) (by simp; omega);simp[h,bZ k s ak,ad];refine c8.cb ?_;simp[h,fg];refine⟨⟨cn,by rw[af,atn]; exact ae⟩,?_⟩;rw[vT bu,ip];by_cases am:bytesOf cd=[]
     ·have aI:(bytesOf cd).length=0:=by rw[am]; rfl
      have:s.l=[] :=atI.1 (by omega);simp[am,this]
     ·simp[am]
    ·have bB:k=cd.length:=by omega
     subst bB;simp;rw[aty] at au;refine au.Ek (fun _=>rfl) _ ?_ (aan cd);rw[ip];unfold zd;split<;>simp_all
   ·simp;refine⟨⟨j,by simpa [bytesOf] using au⟩,?_⟩;rw[ip];simp[atI]
 ·simp[bytesOf]
theorem aaA (s:c3 B) :gD Tryz.prog .eql 143 (cA 1 b7 s) .aH=some (.bool s.isNone) :=Jh (e:=5) (by kernel_rfl) 1 b7 s
theorem aaB {s:c3 B} (ak:s.l.length<=1000000000) {l:ao} {K:U->ao->Prop} (aU:∀ v j l',bO 1 l' v j (s.l.map b7)->l.length<=l'.length->(∀ b,b<l.length->l'[b]? = l[b]?)->(v=.aH\/l.length<=j)->cD v=s.isNone->K v l') :dh Tryz.prog GS 193 [cA 1 b7 s] l (c:=⟨K⟩) :=by
 apply bq Tryz.func193 [];simp[aaA];cases s with
 | none=>
  simp;exact aU _ 0 _ (.nil 0) (as3 _) (fun _ _=>rfl) (.inl rfl) rfl
 | some b=>
  simp;have ay:ct=140737488355328:=rfl;have q6:b.length<=1000000000:=ak;have au:bO 1 (l++[aY.cells 0 []]) (.aq 1 l.length 0 0 0 0) l.length [] :=.aq l.length 0 0 0 [] [] (by simp) rfl rfl (by simp) (as3 _) (by omega) rfl;obtain⟨a3,cn,l',ad,ae,aj,aF,a6,bu⟩:=oE (by_:=1) au (x:=cA 1 b7 (some b)) (xs:=b.map b7) (by simp) (fun e am=>by obtain⟨x,_,rfl⟩:=atx.1 am; rfl) (by omega) (by omega) (by simp; omega);simp[ad];refine c8.cb ?_;simp;have mC:l.length+1<=l'.length:=by simpa using aj
  refine aU _ cn _ ae (by omega) (fun b af=>?_) (.inr (by rcases a6 with h | h<;>(try simp only[as8,atk,atF] at h)<;>omega)) ?_
  ·rw[aF b (by simp; omega) (by omega),as2 af]
  ·rw[vT bu]; rfl
structure s2 where
 st:eJ
 rest:eH
 n:Int
def g2 (s:eJ) (r:U) (n:Int) :List U:=s.l.map br++[r,.int .i64 n]
def qJ (m:s2) :U:=.aG (g2 m.st (cz m.rest) m.n)
def tg (m:s2) (b:eH) :s2:=
 let all:=m.rest.l++b.l
 ⟨(hM m.st all).1,if all=[] then none else some (hM m.st all).2,m.n+b.l.length⟩
theorem aao (a b:eH) :zd [a,b]=if a.l++b.l=[] then none else some (a.l++b.l) :=by
 have:bytesOf [a,b]=a.l++b.l:=by simp[bytesOf]
 unfold zd;rw[this]
theorem acj (h:eJ) (b:List B) :grind h (b.take 64)=grind h b:=by unfold grind; rw[akx b 64 (by omega)]
theorem v7 (s:eJ) (r:U) (n:Int) :(g2 s r n).length=10:=rfl
set_option maxHeartbeats 8000000 in
theorem RK (m:s2) (b:eH) (al:m.rest.l.length+b.l.length<=1000000000) (aC:0<=m.n) (tN:m.n<=1000000000) :gl Tryz.prog GS 161 [qJ m,cz b] (qJ (tg m b)) :=by
 refine AR Tryz.checked.mixed bl ?_;apply bq Tryz.func161 [[[0],[1],[2],[3],[4],[5],[6,1]]];have ah:(U.aG (g2 m.st (cz m.rest) m.n)).cells=some (g2 m.st (cz m.rest) m.n) :=rfl;have gM:(g2 m.st (cz m.rest) m.n)[8]? = some (cz m.rest) :=rfl;have SZ:=aaJ [m.rest,b] (by simp[bytesOf]; exact al) (by simp);rw[aao] at SZ;simp[qJ,v7,gM];refine Wu SZ (.cons ?_ .nil) ?_
 ·exact HW (es:=[[cz m.rest],[cz b]]) (rest:=[]) rfl rfl (by simp) (by simp[a5,mx])
 obtain⟨all,dL⟩:∃ all,all=m.rest.l++b.l:=⟨_,rfl⟩
 have hT:all.length<=1000000000:=by rw[dL]; simpa using al
 rw[<-dL];simp;refine cB (all.length / 64) (fun k σ l=>σ 1=cz b/\σ 2=.ptr 0 0 10/\σ 4=.ptr 1 0 10/\∃ h s hw junk,σ 5=cz s/\l=.cells 10 (g2 h (cz m.rest) m.n) ::.cells 10 hw::junk/\hM m.st all=hM h s.l/\s.l.length=all.length - 64*k/\hw.length=10/\s.isNone=decide (all=[])) ?_ ?_
 ·rintro k σ l ar ⟨aO,aT,bi,h,s,hw,junk,bm,rfl,fV,ew,p0,TR⟩;obtain⟨σ,rfl⟩:=i2 aO aT bi bm;clear aO aT bi bm;have bD:cv (.aq 1) (cz s)=some (.int .i64 s.l.length) :=sx _;simp[bD];by_cases J4:(64:Int)<=s.l.length
  ·cases s with
   | none=>simp at J4
   | some il=>
   have acr:(64:Int)<=il.length:=J4;have Sn:64<=il.length:=by omega
   simp[acr];refine aci (h:=h) (b:=il) Sn (l:=.cells 10 (g2 h (cz m.rest) m.n) ::.cells 10 hw::junk) (bk:=0) (sz:=10) (rest:=[cz m.rest,.int .i64 m.n]) rfl (by omega) (WR (mx _)) (fun apO=>?_);have bS:fF (.aq 1) (cz (some il)) (some (.int .i64 64)) none none=some (cz (some (il.drop 64))) :=by
    unfold cz; rw[Xu (by omega) (by omega)]; rfl
   simp[bS];have ao0:il.length=all.length - 64*k:=ew;refine⟨by omega,grind h il,some (il.drop 64),rfl,hw,⟨rfl,rfl⟩,?_,?_,p0,?_⟩
   ·rw[fV];show hM h il=_;rw[BG h il Sn,acj]; rfl
   ·simp; omega
   ·exact TR
  ·have aK:s.l.length<64:=by omega
   have aW:IntKind.i64.wrap (m.n+(b.l.length:Int))=m.n+b.l.length:=wrap_i64 (by omega) (by omega);have gE:(g2 h (cz m.rest) m.n)[9]? = some (.int .i64 m.n) :=rfl;have jN:cv (.aq 1) (cz b)=some (.int .i64 b.l.length) :=sx _;simp[J4,gE,jN,aW];refine aaB (by omega) ?_;intro v j l au hD iX ai ip;obtain⟨l',rfl⟩:∃ l',l=.cells 10 (g2 h (cz m.rest) m.n) ::.cells 10 hw::l':=by
    have fm:=iX 0 (by simp);have aQ:=iX 1 (by simp);cases l with
    | nil=>simp at fm
    | cons a l=>cases l with
     | nil=>simp at aQ
     | cons c l=>simp at fm aQ; subst fm aQ; exact⟨l,rfl⟩
   have aft:∀ r n hs,bg (g2 h r n) 9 [.int .i64 hs]=g2 h r hs:=fun _ _ _=>rfl
   have afs:∀ r n cx,bg (g2 h r n) 8 [cx]=g2 h cx n:=fun _ _ _=>rfl
   have ap:=au.cells;simp[gE,aft,afs,ap,v7,p0,nJ];have iZ:∀ r n,List.take 10 (g2 h r n)=g2 h r n:=fun _ _=>rfl
   rw[iZ,iZ];have Gn:tg m b=⟨h,if all=[] then none else some s.l,m.n+b.l.length⟩:=by
    unfold tg;rw[<-dL]
    dsimp only
    rw[fV,Fh h s.l aK]
   rw[Gn];have mM:=(au.lA (l':=.cells 10 (g2 h v (m.n+(b.l.length:Int))) ::.cells 10 (g2 h v (m.n+(b.l.length:Int))) ::l') (by
    rcases ai with ai | ai
    ·exact .inl ai
    ·obtain⟨q,rfl⟩:∃ q,j=q+2:=⟨j - 2,by simp at ai; omega⟩
     exact .inr rfl)).Ek (fun _=>rfl) (if all=[] then none else some s.l) (by
     rw[ip,TR]; split<;>simp_all) (by
     split
     ·rename_i am; rw[am] at ew; simp at ew; rw[ew]; rfl
     ·rfl)
   refine .aG _ _ rfl fun i c c' mD l9=>?_
   rcases i with _ | _ | _ | _ | _ | _ | _ | _ | _ | _ | i<;>simp[g2,eJ.l] at mD l9
   all_goals subst mD l9
   all_goals first | exact mM | exact .flat _ rfl
 ·simp;exact⟨m.st,(if all=[] then none else some all),rfl,⟨[.int .u32 0,.int .u32 0,.int .u32 0,.int .u32 0,.int .u32 0,.int .u32 0,.int .u32 0,.int .u32 0,.aH,.int .i64 0],⟨rfl,rfl⟩,by split<;>simp_all,by split<;>simp_all,rfl,by split<;>simp_all⟩⟩
def gp (b:List B) :U:=.aG (b.map bz)
def nL (n k:Nat) :List B:=128#8::List.replicate ((119 - n % 64) % 64) 0#8++(BI (BitVec.ofNat 64 n*8#64)).take k
theorem NN (n:Nat) :nL n 8=tail n:=rfl
theorem XY (n k:Nat) (x:B) (ag:(BI (BitVec.ofNat 64 n*8#64))[k]? = some x) :nL n (k+1)=nL n k++[x] :=by
 unfold nL;rw[atu,ag]; simp
theorem Il (n k:Nat) :(nL n k).length<=80:=by
 unfold nL;have:(BI (BitVec.ofNat 64 n*8#64)).length=8:=rfl;simp; omega
theorem Po (q:BitVec 64) (k:Nat) (ar:k<8) :(BI q)[k]? = some ((q >>> (56 - 8*k)).setWidth 8) :=by
 match k,ar with
 | 0,_=>rfl
 | 1,_=>rfl
 | 2,_=>rfl
 | 3,_=>rfl
 | 4,_=>rfl
 | 5,_=>rfl
 | 6,_=>rfl
 | 7,_=>rfl
def p9 (s:List W) (k:Nat) :List B:=((s.take k).map uD).flatten++List.replicate (32 - 4*k) 0#8
theorem Yw (s:List W) :(s.map uD).flatten.length=4*s.length:=by
 induction s with
 | nil=>rfl
 | cons w s aS=>simp[aS,uD]; omega
theorem aiE (s:List W) (k:Nat) (ar:k<=s.length) (ak:s.length=8) :(p9 s k).length=32:=by
 unfold p9;rw[as8,Yw];simp; omega
theorem aiF (s:List W) (k:Nat) (w:W) (ar:s[k]? = some w) (ak:s.length=8) :
  ((((p9 s k).set (4*k) ((w >>> 24).setWidth 8)).set (4*k+1) ((w >>> 16).setWidth 8)).set (4*k+2) ((w >>> 8).setWidth 8)).set (4*k+3) (w.setWidth 8)=p9 s (k+1) :=by
 have io:=(as0.1 ar).1;unfold p9;rw[atu,ar];have dm:((s.take k).map uD).flatten.length=4*k:=by rw[Yw]; simp; omega
 obtain⟨A,Sp⟩:∃ A,A=((s.take k).map uD).flatten:=⟨_,rfl⟩
 rw[<-Sp] at dm ⊢;have ay:32 - 4*k=(32 - 4*(k+1))+1+1+1+1:=by omega
 rw[ay,atP,atP,atP,atP];rw[at8 _ _ (by omega),at8 _ _ (by omega),at8 _ _ (by omega),at8 _ _ (by omega)];simp only[dm,auZ,Nat.add_sub_cancel_left,auR,avH,atn,atT,<-Sp];simp[uD]
def FC (s:eJ) (r:eH) (n:Nat) :List B:=written (hM s (r.l++tail n)).1
set_option maxHeartbeats 8000000 in
theorem abp (s:eJ) (r:eH) (n:Nat) (ay:r.l.length<=100000000) (aC:n<=100000000) :bA Tryz.prog GS 162 [qJ ⟨s,r,n⟩] (gp (FC s r n)) :=by
 refine bW Tryz.checked.mixed bl ?_;apply bq Tryz.func162 [];have gE:(g2 s (cz r) n)[9]? = some (.int .i64 n) :=rfl;have ah:(U.aG (g2 s (cz r) n)).cells=some (g2 s (cz r) n) :=rfl;have q4:=y8 n 64 (by omega);obtain⟨q,bj⟩:∃ q,q=n % 64:=⟨_,rfl⟩
 rw[show ((64:Int).toNat)=64 from rfl,<-bj] at q4;have aps:q<64:=by rw[bj]; exact auS _ (by omega)
 have nu:IntKind.i64.wrap (119 - (q:Int))=(119 - q:Nat) :=by rw[wrap_i64 (by omega) (by omega)]; omega
 have GX:=y8 (119 - q) 64 (by omega);rw[show ((64:Int).toNat)=64 from rfl] at GX;obtain⟨m,hm⟩:∃ m,m=(119 - q) % 64:=⟨_,rfl⟩
 rw[<-hm] at GX;have apj:m<64:=by rw[hm]; exact auS _ (by omega)
 obtain⟨t,aV⟩:∃ t,t=119 - q:=⟨_,rfl⟩
 rw[<-aV] at nu GX;have lK:ct=140737488355328:=rfl;obtain⟨L,eV⟩:∃ L:ao,L=[aY.cells 10 (g2 s (cz r) n),aY.cells 32 (rep 32 (U.int IntKind.u8 0)),aY.cells 1 [U.int IntKind.u8 128]] :=⟨_,rfl⟩
 have acI:L[0]? = some (aY.cells 10 (g2 s (cz r) n)) :=by rw[eV]; rfl
 have Cw:L[1]? = some (aY.cells 32 (rep 32 (U.int IntKind.u8 0))) :=by rw[eV]; rfl
 have r3:L.length=3:=by rw[eV]; rfl
 have aeQ:bO 1 L (.aq 1 2 0 1 1 1) 2 [[U.int IntKind.u8 128]] :=by
  rw[eV];exact .aq 2 1 1 1 [.int .u8 128] _ rfl rfl rfl (by simp) (as3 _) (as3 _) rfl
 have aez:m<9223372036854775808:=by omega
 have dy:(List.length [[U.int IntKind.u8 128]]+m)*1<=ct:=by rw[lK]; simp; omega
 have aes:=Zw (n:=m) (k:=.i64) (by_:=1) (zero:=[.int .u8 0]) aeQ rfl (by omega) (by omega) aez dy;obtain⟨v,j,l,ad,au,aj,aF,a6,bu⟩:=aes;have ap:cD v=false:=by
  rw[auF]; intro aR;rw[kK,bu] at aR;cases aR.1
 have aL:u 128#8=128:=by decide
 have am:([[U.int IntKind.u8 128]]++List.replicate m [U.int IntKind.u8 0] :List (List U))=(nL n 0).map b7:=by
  have:m=(119 - n % 64) % 64:=by rw[hm,bj]
  unfold nL;rw[<-this];simp[b7,aL]
 rw[am] at au;have fm:=(aF 0 (by omega) (by omega)).trans acI;have aQ:=(aF 1 (by omega) (by omega)).trans Cw;have xQ:2<=j:=by rcases a6 with h | h<;>omega
 simp[qJ,v7,gE,q4,nu,GX];rw[<-eV];simp[ad];refine cB 8 (fun k σ l=>σ 1=.ptr 0 0 10/\σ 2=.ptr 1 0 32/\σ 3=dN (BitVec.ofNat 64 n*8#64)/\σ 5=.int .i64 (56 - 8*(k:Int))/\∃ v j,σ 4=v/\2<=j/\cD v=false/\bO 1 l v j ((nL n k).map b7)/\l[0]? = some (aY.cells 10 (g2 s (cz r) n))/\l[1]? = some (aY.cells 32 (rep 32 (U.int IntKind.u8 0)))) ?_ ?_
 ·rintro k σ l ar ⟨aO,aT,aZ,bm,v,j,bi,ai,ap,au,fm,aQ⟩;obtain⟨σ,rfl⟩:=lo aO aT aZ bi bm;clear aO aT aZ bi bm;obtain⟨c,ah⟩:∃ c:Int,c=56 - 8*(k:Int) :=⟨_,rfl⟩
  rw[<-ah];simp;by_cases io:0<=c
  ·have z5:k<8:=by omega
   have ag:=Po (BitVec.ofNat 64 n*8#64) k z5;have adt:c.toNat=56 - 8*k:=by omega
   have re:IntKind.i64.wrap (c - 8)=56 - 8*((k:Int)+1) :=by rw[wrap_i64 (by omega) (by omega)]; omega
   have lM:=Il n k;have od:bO 1 (l++[aY.cells 1 [bz (((BitVec.ofNat 64 n*8#64) >>> (56 - 8*k)).setWidth 8)]]) v j ((nL n k).map b7) :=au.more _;obtain⟨a3,cn,l',ad,ae,aj,aF,a6,bu⟩:=oE (by_:=1) od (x:=.aq 1 l.length 0 1 1 1) (xs:=[[bz (((BitVec.ofNat 64 n*8#64) >>> (56 - 8*k)).setWidth 8)]]) (by simp[ds]) (by simp) (by omega) (by omega) (by simp; omega);have eO:j<l.length:=by
    rcases au.lt with h | h
    ·subst h; simp[cD] at ap
    ·exact h
   have abj:l'[0]? = some (aY.cells 10 (g2 s (cz r) n)) :=by rw[aF 0 (by simp) (by omega),as2 (cp fm)]; exact fm
   have abk:l'[1]? = some (aY.cells 32 (rep 32 (U.int IntKind.u8 0))) :=by
    have:=cp aQ;rw[aF 1 (by simp; omega) (by omega),as2 (cp aQ)]; exact aQ
   have fr:cD a3=false:=by rw[vT bu,ap]; rfl
   have fp:2<=cn:=by
    rcases a6 with h | h
    ·omega
    ·have h:=atR (show l.length<=(l++[aY.cells 1 [bz (((BitVec.ofNat 64 n*8#64) >>> (56 - 8*k)).setWidth 8)]]).length by simp) h;omega
   simp[io,adt,ad];refine c8.cb ?_;simp[io,re];exact⟨by omega,cn,fp,fr,by rw[XY n k _ ag,atn]; exact ae,abj,abk⟩
  ·have tJ:k=8:=by omega
   subst tJ;rw[NN] at au;have z0:=RK ⟨s,r,n⟩ (some (tail n)) (by have:=Il n 8; rw[NN] at this; simp; omega) (by simp) (by simp; omega);have ag:=au.wo (fun _=>rfl) (some (tail n)) (by rw[ap]; rfl) rfl;have Tf:(tg ⟨s,r,n⟩ (some (tail n))).st=(hM s (r.l++tail n)).1:=rfl;obtain⟨F,tq⟩:∃ F,F=tg ⟨s,r,n⟩ (some (tail n)) :=⟨_,rfl⟩
   rw[<-tq] at z0 Tf;have z9:a5 [qJ ⟨s,r,n⟩]=true:=by simp[a5,qJ,U.closed,g2,eJ.l,mx]
   have adO:zC 8 0 (qJ F)=some (.aG (F.st.l.map br)) :=rfl;have oc:F.st.l.length=8:=rfl;simp[io,fm,v7];refine Wu z0 (.cons (WR ?_) (.cons ag .nil)) ?_
   ·show (U.aG (g2 s (cz r) n)).closed=true;simp[U.closed,a5,g2,eJ.l,mx]
   simp[adO];refine cB 8 (fun k σ l=>σ 2=.ptr 1 0 32/\σ 33=.aG (F.st.l.map br)/\σ 34=.int .i64 k/\l[1]? = some (aY.cells 32 ((p9 F.st.l k).map bz))) ?_ ?_
   ·rintro k σ l ar ⟨aT,qL,qM,aQ⟩;obtain⟨σ,rfl⟩:=ln aT qL qM;clear aT qL qM;obtain⟨Bm,bo,rfl⟩:=alv aQ;clear aQ;simp;by_cases io:(k:Int)<8
    ·have e4:k<8:=by omega
     obtain⟨w,aW⟩:∃ w,F.st.l[k]? = some w:=⟨_,as4 (show k<F.st.l.length from e4)⟩
     have dF:=aiE F.st.l k (by omega) oc;have pV:=aiF F.st.l k w aW oc;have gQ:IntKind.i64.wrap (4*(k:Int))=(4*k:Nat) :=by rw[wrap_i64 (by omega) (by omega)]; omega
     have bL:IntKind.i64.wrap (((4*k:Nat) :Int)+1)=(4*k+1:Nat) :=by rw[wrap_i64 (by omega) (by omega)]; omega
     have w2:IntKind.i64.wrap (((4*k:Nat) :Int)+2)=(4*k+2:Nat) :=by rw[wrap_i64 (by omega) (by omega)]; omega
     have cO:IntKind.i64.wrap (((4*k:Nat) :Int)+3)=(4*k+3:Nat) :=by rw[wrap_i64 (by omega) (by omega)]; omega
     have ix:IntKind.i64.wrap ((k:Int)+1)=k+1:=wrap_i64 (by omega) (by omega);obtain⟨a,aB⟩:∃ a,a=4*k:=⟨_,rfl⟩
     rw[<-aB] at gQ bL w2 cO pV;have s0:=pb bz (p9 F.st.l k) a ((w >>> 24).setWidth 8) (by omega);have cQ:=pb bz ((p9 F.st.l k).set a ((w >>> 24).setWidth 8)) (a+1) ((w >>> 16).setWidth 8) (by simp; omega);have ie:=pb bz (((p9 F.st.l k).set a ((w >>> 24).setWidth 8)).set (a+1) ((w >>> 16).setWidth 8)) (a+2) ((w >>> 8).setWidth 8) (by simp; omega);have kn:=pb bz ((((p9 F.st.l k).set a ((w >>> 24).setWidth 8)).set (a+1) ((w >>> 16).setWidth 8)).set (a+2) ((w >>> 8).setWidth 8)) (a+3) (w.setWidth 8) (by simp; omega);rw[pV] at kn;have hx:(a:Int)<32:=by omega
     have cX:((a+1:Nat) :Int)<32:=by omega
     have dC:((a+2:Nat) :Int)<32:=by omega
     have kW:((a+3:Nat) :Int)<32:=by omega
     have tb:a+1<=32:=by omega
     have b0:a+1+1<=32:=by omega
     have b5:a+2+1<=32:=by omega
     have ik:a+3+1<=32:=by omega
     have d1:(a:Int)+1<32:=by omega
     have d2:(a:Int)+2<32:=by omega
     have d3:(a:Int)+3<32:=by omega
     have f1:((a:Int)+1).toNat=a+1:=by omega
     have f2:((a:Int)+2).toNat=a+2:=by omega
     have f3:((a:Int)+3).toNat=a+3:=by omega
     have iv:(0:Int)<=(a:Int)+1:=by omega
     have gP:(0:Int)<=(a:Int)+2:=by omega
     have o0:(0:Int)<=(a:Int)+3:=by omega
     simp[io,e4,aW,gQ,bL,w2,cO,ix,hx,s0,cQ,ie,kn,tb,b0,b5,ik,d1,d2,d3,f1,f2,f3,iv,gP,o0,-List.map_set]
    ·have tJ:k=8:=by omega
     subst tJ;have aeS:p9 F.st.l 8=written F.st:=by simp[p9,written,eJ.l]
     rw[aeS];have vL:(written F.st).length=32:=rfl;simp[vL,nJ,as1];exact aP (by unfold gp FC; rw[Tf]) (Ra bz (fun _=>rfl) _)
   ·simp[aQ];rw[W3 .u8 8]; rfl
 ·simp;exact⟨j,xQ,ap,au,fm,aQ⟩
structure yX (m:s2) (b:List B) :Prop where
 Ji:hM first b=(m.st,m.rest.l)
 n:m.n=b.length
theorem agq {m:s2} {b:List B} (h:yX m b) (s:eH) :yX (tg m s) (b++s.l) :=by
 have ad:hM first (b++s.l)=hM m.st (m.rest.l++s.l) :=by rw[Ph,h.Ji]
 refine⟨?_,?_⟩
 ·rw[ad];unfold tg
  dsimp only
  split
  ·rename_i am;rw[am]; rfl
  ·rfl
 ·unfold tg
  dsimp only
  rw[h.n]; simp
theorem agr {m:s2} {b:List B} (h:yX m b) :m.rest.l.length<64:=by
 have:=ZU first b
 rw[h.Ji] at this;simp only at this;rw[this]; exact auS _ (by omega)
theorem agp {m:s2} {b:List B} (h:yX m b) :FC m.st m.rest b.length=iM b:=by
 unfold FC iM;rw[Ph first b,h.Ji]
def start:s2:=⟨first,none,0⟩
theorem ags:yX start [] :=⟨rfl,rfl⟩
theorem ak3:gl Tryz.prog GS 160 [] (qJ start) :=by
 refine AR Tryz.checked.mixed bl ?_;apply bq Tryz.func160 [];simp;exact .flat _ rfl
def sr (s:eH) :Bool:=decide ((10000:Int)<s.l.length)
theorem ahj (s:eH) :bA Tryz.prog GS 159 [cz s] (.bool (sr s)) :=by
 refine bW Tryz.checked.mixed bl ?_;apply bq Tryz.func159 [];simp[cz];exact aP rfl rfl
theorem abX:j8 Tryz.prog 159=true:=by kernel_rfl
def idx (l:List eH) :Int:=match l.findIdx? sr with | some i=>(i:Int) | none=>-1
theorem afW {l:List eH} {k:Nat} {s:eH} (ak:l[k]? = some s) (al:sr s=true) (cU:∀ j s,j<k->l[j]? = some s->sr s=false) :idx l=k:=by
 have:l.findIdx? sr=some k:=by
  rw[List.findIdx?_eq_some_iff_getElem];obtain⟨ad,rfl⟩:=as0.1 ak;refine⟨ad,al,fun j ai=>?_⟩;rw[cU j l[j] ai (as4 (by omega))]; simp
 unfold idx; rw[this]
theorem UB {l:List eH} (cU:∀ j s,j<l.length->l[j]? = some s->sr s=false) :idx l=-1:=by
 have:l.findIdx? sr=none:=by
  rw[List.findIdx?_eq_none_iff];intro x ag;obtain⟨j,ai⟩:=atc.1 ag;exact cU j x (as0.1 ai).1 ai
 unfold idx; rw[this]
theorem L1 (cd:c3 eH) (al:cd.l.length<=1000000000) :bA Tryz.prog GS 191 [na cd,.fn 159 [] []] (.int .i64 (idx cd.l)) :=by
 refine bW Tryz.checked.mixed bl ?_;apply bq Tryz.func191 [];have bD:cv (.aq 1) (na cd)=some (.int .i64 cd.l.length) :=sx _;simp[bD];refine cB cd.l.length (fun k σ l=>σ 0=na cd/\σ 1=.fn 159 [] []/\σ 7=.int .i64 cd.l.length/\σ 8=.int .i64 k/\∀ j s,j<k->cd.l[j]? = some s->sr s=false) ?_ (by simp);rintro k σ l ar ⟨ce,aO,fe,gc,cU⟩;obtain⟨σ,rfl⟩:=i2 ce aO fe gc;clear ce aO fe gc;simp;by_cases h:k<cd.l.length
 ·obtain⟨s,ak,_⟩:=bP h;have bZ:cN (.aq 1) (na cd) (.int .i64 k)=some (.bK [cz s] 0) :=by
   rw[tX]; simp[ak]
  have fg:IntKind.i64.wrap ((k:Int)+1)=k+1:=wrap_i64 (by omega) (by omega);simp[h,bZ];refine⟨abX,a4 (ahj s) (by simp[a5,mx]) ?_⟩;cases tL:sr s with
  | true=>
   simp;rw[afW ak tL cU];exact aP rfl rfl
  | false=>
   simp[h,fg];intro j ga ai q6;rcases aub j k with ad | ad
   ·exact cU j ga ad q6
   ·have:j=k:=by omega
    subst this;rw[ak] at q6; cases q6; exact tL
 ·simp[h];rw[UB (fun j s ai ak=>cU j s (by omega) ak)];exact aP rfl rfl
theorem aaL (cd:c3 eH) (al:cd.l.length<=1000000000) :bA Tryz.prog GS 158 [na cd,.fn 159 [] []] (.bool (decide (0<=idx cd.l))) :=by
 refine bW Tryz.checked.mixed bl ?_;apply bq Tryz.func158 [];simp;refine a4 (L1 cd al) (by simp[a5,U.closed,Q8]) ?_;simp;exact aP rfl rfl
set_option maxHeartbeats 4000000 in
theorem MW (cd:List eH) (aoF:cd.length<=20) (cU:∀ s∈cd,s.l.length<=10000) :bA Tryz.prog GS 118 [na (some cd)] (.bv [gp (iM (bytesOf cd)),.int .i64 0]) :=by
 have vA:idx cd=-1:=UB fun j s ai ak=>by
  have:=cU s (ata ak);unfold sr; simp; omega
 have bD:∀ k,(bytesOf (cd.take k)).length<=200000:=fun k=>by
  have:∀ l:List eH,(∀ s∈l,s.l.length<=10000)->(bytesOf l).length<=10000*l.length:=by
   intro l
   induction l with
   | nil=>intro _; simp[bytesOf]
   | cons s l aS=>
    intro h;have ad:=aS fun x ag=>h x (by simp[ag])
    have ae:=h s (by simp);unfold bytesOf at ad ⊢;rw[atr,atW,as8,atk];omega
  have ad:=this (cd.take k) fun s ak=>cU s (atw ak)
  have ae:(cd.take k).length<=20:=by simp; omega
  omega
 refine bW Tryz.checked.mixed bl ?_;apply bq Tryz.func118 [];have aco:¬(20:Int)<cd.length:=by omega
 have S2:=aaL (some cd) (by simp; omega);rw[c3.AA,vA] at S2;simp[aco];refine a4 S2 (by simp[a5,U.closed,Q8]) ?_;simp;refine a4 ak3.ED rfl ?_;simp[qJ,v7,nJ];refine cB cd.length (fun k σ l=>σ 2=.ptr 0 0 32/\σ 4=.ptr 1 0 10/\σ 16=na (some cd)/\σ 17=.int .i64 cd.length/\σ 18=.int .i64 k/\∃ m,yX m (bytesOf (cd.take k))/\l=[.cells 32 (rep 32 (.int .u8 0)),.cells 10 (g2 m.st (cz m.rest) m.n)]) ?_ ?_
 ·rintro k σ l ar ⟨aT,bi,zD,pF,pG,m,hm,rfl⟩;obtain⟨σ,rfl⟩:=lo aT bi zD pF pG;clear aT bi zD pF pG;simp;have ff:(U.aG (g2 m.st (cz m.rest) m.n)).closed=true:=by simp[U.closed,a5,g2,eJ.l,mx]
  have iZ:List.take 10 (g2 m.st (cz m.rest) m.n)=g2 m.st (cz m.rest) m.n:=rfl;have q5:=agr hm;have k6:=hm.n;have tK:=bD k;by_cases h:k<cd.length
  ·obtain⟨s,ak,kf⟩:=bP h;have bZ:cN (.aq 1) (na (some cd)) (.int .i64 k)=some (.bK [cz s] 0) :=by
    rw[tX]; simp[ak]
   have fg:IntKind.i64.wrap ((k:Int)+1)=k+1:=wrap_i64 (by omega) (by omega);have ad:=cU s kf;have aE:=RK m s (by omega) (by omega) (by omega);have kB:=agq hm s;rw[<-bytesOf_take cd k s ak] at kB;obtain⟨F,tq⟩:∃ F,F=tg m s:=⟨_,rfl⟩
   rw[<-tq] at aE kB;simp[h,bZ,v7,iZ];refine a4 aE.ED ?_ ?_
   ·simp only[a5,ff,mx,auO]
   simp[qJ,v7,nJ,h,fg];exact⟨F,kB,rfl⟩
  ·have bB:k=cd.length:=by omega
   subst bB;rw[aty] at hm k6 tK;have am:=abp m.st m.rest (bytesOf cd).length (by omega) (by omega);rw[agp hm] at am;have nq:m=⟨m.st,m.rest,((bytesOf cd).length:Int)⟩:=by rw[<-k6]
   rw[<-nq] at am;have bS:=wB (bytesOf cd);simp[h,v7,iZ];refine a4 am ?_ ?_
   ·simp only[a5,ff,auO]
   have dS:((iM (bytesOf cd)).map bz).length=32:=by rw[ate,bS]
   simp[gp,bS,nJ,as1];exact aP rfl (by simp[U.closed,a5,mw bz (fun _=>rfl)])
 ·simp[bytesOf];exact⟨start,ags,rfl⟩
theorem XT (s:eH) (h:s.l.length<=10000) :bA Tryz.prog GS 85 [cz s] (.bv [gp (iM s.l),.int .i64 0]) :=by
 have af:bytesOf [s]=s.l:=by simp[bytesOf]
 have av:=MW [s] (by simp) (by simpa using h);rw[af] at av;refine bW Tryz.checked.mixed bl ?_;apply bq Tryz.func85 [];have bS:=wB s.l;simp;refine lV av (.cons ?_ .nil) (by simp[U.flat,l4,gp,zz bz (fun _=>rfl)]) ?_
 ·exact HW (es:=[[cz s]]) (rest:=[]) rfl rfl (by simp) (by simp[a5,mx])
 simp[gp,bS,nJ,as1];exact aP rfl (by simp[U.closed,a5,mw bz (fun _=>rfl)])
theorem sS (x:W) (n:Nat) (aI:0<n) (h:n<32) :bA Tryz.prog GS 237 [br x,.int .i64 n] (br (nD x n)) :=by
 refine bW Tryz.checked.mixed bl ?_;apply bq Tryz.func237 [];have aW:IntKind.i64.wrap (32 - (n:Int))=(32 - n:Nat) :=by rw[wrap_i64 (by omega) (by omega)]; omega
 obtain⟨m,hm⟩:∃ m,m=32 - n:=⟨_,rfl⟩
 rw[<-hm] at aW;simp[aW];exact aP (by unfold nD; rw[hm]) rfl
def eB (x:W) :List U:=[br x]
set_option maxHeartbeats 4000000 in
theorem aaK:gl Tryz.prog GS 238 [] (cA 1 eB (some cc)) :=by
 refine AR Tryz.checked.mixed bl ?_;apply bq Tryz.func238 [];simp;exact WT (z:=1) (es:=cc.map eB) (rest:=[]) (by kernel_rfl) (by kernel_rfl) (fun e am=>by obtain⟨y,_,rfl⟩:=atx.1 am; rfl) (fun e am=>by obtain⟨y,_,rfl⟩:=atx.1 am; rfl)
theorem abR:bA Tryz.prog GS 203 [] (.aG (first.l.map br)) :=by
 refine bW Tryz.checked.mixed bl ?_;apply bq Tryz.func203 [];simp;exact aP rfl rfl
theorem amy (b:List B) (t:Nat) (hx cX dC kW:B) (aI:b[4*t]? = some hx) (ad:b[4*t+1]? = some cX) (ae:b[4*t+2]? = some dC) (aj:b[4*t+3]? = some kW) :
  pg ((b.drop (4*t)).take 4)=((hx.setWidth 32*256#32+cX.setWidth 32)*256#32+dC.setWidth 32)*256#32+kW.setWidth 32:=by
 have h:(b.drop (4*t)).take 4=[hx,cX,dC,kW] :=by
  have al:=(as0.1 aj).1;apply atO;intro i
  match i with
  | 0=>simp[aI]
  | 1=>simp[ad]
  | 2=>simp[ae]
  | 3=>simp[aj]
  | i+4=>rw[atd (by simp; omega),atd (by simp)]
 rw[h];show ((((0#32 <<< 8 ||| hx.setWidth 32) <<< 8 ||| cX.setWidth 32) <<< 8 ||| dC.setWidth 32) <<< 8 ||| kW.setWidth 32)=_;rw[Ig,Ig,Ig,Ig];simp
theorem Yq {l:ao} {v:U} {j:Nat} {hv:List W} (h:bO 1 l v j (hv.map eB)) (ap:cD v=false) :∃ (cap sz:Nat) (cs:List U),v=.aq 1 j 0 hv.length cap sz/\l[j]? = some (.cells sz cs)/\∀ (i:Nat) (x:W),hv[i]? = some x->cs[i]? = some (br x) :=by
 obtain⟨n,cap,sz,cs,ad,ae,aj,aF,a6,bu,_⟩:=h.view ap;rw[ate] at aF;subst aF;refine⟨cap,sz,cs,ad,ae,fun i x ag=>?_⟩;have:=bu i (eB x) (by rw[as5,ag]; rfl) 0 (by omega);simpa [eB] using this
theorem amB (b:List B) (k:Nat) (ar:k<16) :(fu b).take (k+1)=(fu b).take k++[pg ((b.drop (4*k)).take 4)] :=by
 have:(fu b)[k]? = some (pg ((b.drop (4*k)).take 4)) :=by unfold fu; rw[as5,atC ar]; rfl
 rw[atu,this]; rfl
theorem amz (b:List B) :(fu b).length=16:=by simp[fu]
theorem abH (k:Nat) (b:List B) :(iU k (fu b)).length=16+k:=by simp[xq,fu]
set_option maxHeartbeats 16000000 in
theorem ack (h:eJ) (b:List B) (af:64<=b.length) :bA Tryz.prog GS 227 [.aG (h.l.map br),cz (some b)] (.aG ((grind h b).l.map br)) :=by
 have lK:ct=140737488355328:=rfl;have Tm:(h.l.map br).length=8:=rfl;refine bW Tryz.checked.mixed bl ?_;apply bq Tryz.func227 [[],[],[[0],[1],[2],[3],[4],[5],[6],[7],[8],[9],[10],[11],[12],[14],[17],[18],[21],[23],[26],[27],[13,10,5],[15,10,5],[16],[19],[20],[22,10,5],[24,10,5],[25]],[],[[0],[1],[2],[4],[7],[11],[12],[13],[14],[15],[16],[17],[18],[20],[21],[22],[23],[25],[26],[27],[28],[3,28,23,1],[5,28,23,1],[6],[8,28,23,1],[9],[10],[19],[24]]];simp[Tm];refine cB 16 (fun k σ l=>σ 1=cz (some b)/\σ 2=.ptr 0 0 8/\σ 4=.ptr 1 0 8/\σ 6=.int .i64 k/\∃ v j hw rest,σ 5=v/\(cD v=true->k=0)/\(v=.aH\/2<=j)/\bO 1 l v j (((fu b).take k).map eB)/\l=.cells 8 (h.l.map br) ::.cells 8 hw::rest/\hw.length=8) ?_ ?_
 ·rintro k σ l ar ⟨aO,aT,bi,cw,v,j,hw,rest,bm,ap,ai,au,rfl,jR⟩;obtain⟨σ,rfl⟩:=lo aO aT bi bm cw;clear aO aT bi bm cw;by_cases Tt:(k:Int)<16
  ·have e4:k<16:=by omega
   obtain⟨a,aB⟩:∃ a,a=4*k:=⟨_,rfl⟩
   have gQ:IntKind.i64.wrap (4*(k:Int))=(a:Nat) :=by rw[wrap_i64 (by omega) (by omega)]; omega
   obtain⟨a2,CD⟩:∃ x,x=a+1:=⟨_,rfl⟩
   obtain⟨bd,Km⟩:∃ x,x=a+2:=⟨_,rfl⟩
   obtain⟨b4,Kn⟩:∃ x,x=a+3:=⟨_,rfl⟩
   have bL:IntKind.i64.wrap ((a:Int)+1)=a2:=by rw[wrap_i64 (by omega) (by omega)]; omega
   have w2:IntKind.i64.wrap ((a:Int)+2)=bd:=by rw[wrap_i64 (by omega) (by omega)]; omega
   have cO:IntKind.i64.wrap ((a:Int)+3)=b4:=by rw[wrap_i64 (by omega) (by omega)]; omega
   have ix:IntKind.i64.wrap ((k:Int)+1)=k+1:=wrap_i64 (by omega) (by omega);obtain⟨hx,n4⟩:∃ x,b[a]? = some x:=⟨_,as4 (by omega)⟩
   obtain⟨cX,gd⟩:∃ x,b[a2]? = some x:=⟨_,as4 (by omega)⟩
   obtain⟨dC,dX⟩:∃ x,b[bd]? = some x:=⟨_,as4 (by omega)⟩
   obtain⟨kW,tv⟩:∃ x,b[b4]? = some x:=⟨_,as4 (by omega)⟩
   have bZ:∀ (i:Nat) (x:B),b[i]? = some x->cN (.aq 1) (cz (some b)) (.int .i64 i)=some (.bK (b7 x) 0) :=fun i x ag=>by rw[tX]; simp[ag]
   have vN:=bZ a hx n4;have cP:=bZ a2 cX gd;have dT:=bZ bd dC dX;have g1:=bZ b4 kW tv;have LI:=amB b k e4;rw[amy b k hx cX dC kW (by rw[<-aB]; exact n4) (by rw[<-aB,<-CD]; exact gd) (by rw[<-aB,<-Km]; exact dX) (by rw[<-aB,<-Kn]; exact tv)] at LI;obtain⟨w,aW⟩:∃ w,w=((hx.setWidth 32*256#32+cX.setWidth 32)*256#32+dC.setWidth 32)*256#32+kW.setWidth 32:=⟨_,rfl⟩
   rw[<-aW] at LI;have od:bO 1 ([.cells 8 (h.l.map br),.cells 8 hw]++(rest++[aY.cells 1 [br w]])) v j (((fu b).take k).map eB) :=au.more [aY.cells 1 [br w]];have tK:(((fu b).take k).map eB).length<=16:=by simp; omega
   obtain⟨a3,cn,cx,ad,ae,aj,aF⟩:=xe (by_:=4) od ai (x:=.aq 1 (rest.length+2) 0 1 1 1) (xs:=[eB w]) (by simp[ds,eB]) (by simp[eB]) (by omega) (by omega) (by rw[lK]; simp; omega);have go:bO 1 (.cells 8 (h.l.map br) ::.cells 8 hw::cx) a3 cn (((fu b).take (k+1)).map eB) :=by rw[LI,atn]; exact ae
   simp only[atV,at1] at ad;have fr:cD a3=false:=by rw[aF]; simp
   simp[Tt,gQ,bL,w2,cO,vN,cP,dT,g1,b7];rw[<-aW];simp[ad];refine c8.cb ?_;simp[Tt,ix,e4];exact⟨fr,cn,aj,by rw[<-avp]; exact go,jR⟩
  ·have e4:k=16:=by omega
   subst e4;have jP:cD v=false:=by
    cases LF:cD v with
    | false=>rfl
    | true=>exact absurd (ap LF) (by omega)
   have xQ:2<=j:=by
    rcases ai with h | h
    ·subst h; cases jP
    ·exact h
   have aeR:bO 1 (.cells 8 (h.l.map br) ::.cells 8 hw::rest) v j ((fu b).map eB) :=by
    have:(fu b).take 16=fu b:=as1 (by rw[amz]; omega);rw[this] at au; exact au
   clear ap ai au;simp;refine cB 48 (fun k σ l=>σ 2=.ptr 0 0 8/\σ 4=.ptr 1 0 8/\σ 7=.int .i64 (16+k:Nat)/\∃ v j hw rest,σ 5=v/\cD v=false/\2<=j/\bO 1 l v j ((iU k (fu b)).map eB)/\l=.cells 8 (h.l.map br) ::.cells 8 hw::rest/\hw.length=8) ?_ ?_
   ·rintro k σ l ar ⟨aT,bi,fe,v,j,hw,rest,bm,ap,ai,au,rfl,jR⟩;obtain⟨σ,rfl⟩:=i2 aT bi bm fe;clear aT bi bm fe;obtain⟨t,aV⟩:∃ t,t=16+k:=⟨_,rfl⟩
    rw[<-aV];by_cases xR:(t:Int)<64
    ·have nu:IntKind.i64.wrap ((t:Int)+1)=(t+1:Nat) :=wrap_i64 (by omega) (by omega);have al:=abH k b;obtain⟨vP,JG⟩:∃ i,i=t - 15:=⟨_,rfl⟩
     obtain⟨dT,bx⟩:∃ i,i=t - 2:=⟨_,rfl⟩
     obtain⟨vQ,Fy⟩:∃ i,i=t - 16:=⟨_,rfl⟩
     obtain⟨iF,zu⟩:∃ i,i=t - 7:=⟨_,rfl⟩
     have Iq:IntKind.i64.wrap ((t:Int) - 15)=vP:=by rw[wrap_i64 (by omega) (by omega)]; omega
     have w2:IntKind.i64.wrap ((t:Int) - 2)=dT:=by rw[wrap_i64 (by omega) (by omega)]; omega
     have Ir:IntKind.i64.wrap ((t:Int) - 16)=vQ:=by rw[wrap_i64 (by omega) (by omega)]; omega
     have EL:IntKind.i64.wrap ((t:Int) - 7)=iF:=by rw[wrap_i64 (by omega) (by omega)]; omega
     obtain⟨hv,x9⟩:∃ hv,hv=iU k (fu b) :=⟨_,rfl⟩
     have x8:=JP k (fu b);rw[<-x9] at al au x8;have vL:hv.length=t:=by omega
     unfold ext at x8
     dsimp only at x8
     rw[vL,<-JG,<-bx,<-Fy,<-zu] at x8;have FK:∀ i,i<t->hv[i]? = some (hv.getD i 0#32) :=fun i az=>by rw[atf,as4 (by omega)]; rfl
     obtain⟨x,ag⟩:∃ x,x=hv.getD vP 0#32:=⟨_,rfl⟩
     obtain⟨y,aJ⟩:∃ y,y=hv.getD dT 0#32:=⟨_,rfl⟩
     obtain⟨Od,Ul⟩:∃ y,y=hv.getD vQ 0#32:=⟨_,rfl⟩
     obtain⟨Oe,Um⟩:∃ y,y=hv.getD iF 0#32:=⟨_,rfl⟩
     rw[<-ag,<-aJ,<-Ul,<-Um] at x8;obtain⟨cap,sz,cs,rfl,vB,cY⟩:=Yq au ap;have Fm:=cY vP x (by rw[ag]; exact FK vP (by omega));have b5:=cY dT y (by rw[aJ]; exact FK dT (by omega));have BJ:=cY vQ Od (by rw[Ul]; exact FK vQ (by omega));have BK:=cY iF Oe (by rw[Um]; exact FK iF (by omega));obtain⟨w,aW⟩:∃ w,w=Od+Oe+(nD x 7 ^^^ nD x 18 ^^^ x >>> 3)+(nD y 17 ^^^ nD y 19 ^^^ y >>> 10) :=⟨_,rfl⟩
     rw[<-aW] at x8;have od:bO 1 ([.cells 8 (h.l.map br),.cells 8 hw]++(rest++[aY.cells 1 [br w]])) _ j (hv.map eB) :=au.more [aY.cells 1 [br w]];obtain⟨a3,cn,cx,ad,ae,aj,aF⟩:=xe (by_:=4) od (.inr ai) (x:=.aq 1 (rest.length+2) 0 1 1 1) (xs:=[eB w]) (by simp[ds,eB]) (by simp[eB]) (by omega) (by omega) (by rw[lK]; simp; omega);have go:bO 1 (.cells 8 (h.l.map br) ::.cells 8 hw::cx) a3 cn ((iU (k+1) (fu b)).map eB) :=by rw[x8,atn]; exact ae
     simp only[atV,at1] at ad;have fr:cD a3=false:=by rw[aF]; rfl
     obtain⟨jS,rfl⟩:∃ jS,j=jS+2:=⟨j - 2,by omega⟩
     have r9:rest[jS]? = some (.cells sz cs) :=by simpa using vB
     have xV:(rest++[aY.cells 1 [br w]])[jS]? = some (.cells sz cs) :=by rw[as2 (cp r9)]; exact r9
     have Jb:vP<hv.length:=by omega
     have dC:dT<hv.length:=by omega
     have Jc:vQ<hv.length:=by omega
     have s8:iF<hv.length:=by omega
     have t7:=sS x 7 (by omega) (by omega);have t18:=sS x 18 (by omega) (by omega);have t17:=sS y 17 (by omega) (by omega);have t19:=sS y 19 (by omega) (by omega);simp at t7 t18 t17 t19;simp[xR,Iq,w2,Ir,EL,Jb,dC,Jc,s8,r9,Fm,b5,BJ,BK];refine a4 t7 rfl ?_;simp[r9,BJ,BK];refine a4 t18 rfl ?_;simp[r9,BJ,BK];refine a4 t17 rfl ?_;simp[r9,BJ,BK];refine a4 t19 rfl ?_;simp[r9,BJ,BK];rw[<-aW];simp[ad];refine c8.cb ?_;simp[nu];exact⟨by omega,by omega,fr,cn,aj.resolve_left (by intro e; subst e; cases fr),go,jR⟩
    ·have e4:k=48:=by omega
     subst e4;subst aV;have sh:iU 48 (fu b)=fE b:=rfl;rw[sh] at au;obtain⟨cap,sz,cs,rfl,vB,cY⟩:=Yq au ap;obtain⟨jS,rfl⟩:∃ jS,j=jS+2:=⟨j - 2,by omega⟩
     have r9:rest[jS]? = some (.cells sz cs) :=by simpa using vB
     have bS:=Et b;rw[bS];clear au ap ai vB;simp;refine a4 aaK.ED rfl ?_;have oc:h.l.length=8:=rfl;simp[nJ,oc];refine cB 64 (fun k σ l=>σ 2=.ptr 0 0 8/\σ 4=.ptr 1 0 8/\σ 5=.aq 1 (jS+2) 0 64 cap sz/\σ 10=cA 1 eB (some cc)/\σ 11=.ptr (rest.length+2) 0 8/\σ 12=.int .i64 k/\l=.cells 8 (h.l.map br) ::.cells 8 hw::(rest++[.cells 8 ((mU h b k).l.map br)])) ?_ ?_
     ·rintro k σ l ar ⟨aT,bi,bm,j9,kw,lB,rfl⟩;obtain⟨σ,rfl⟩:=wL aT bi bm j9 kw lB;clear aT bi bm j9 kw lB;have eO:=cp r9;have xV:∀ x:aY,(rest++[x])[jS]? = some (.cells sz cs) :=fun x=>by rw[as2 eO]; exact r9
      by_cases xR:(k:Int)<64
      ·have e5:k<64:=by omega
       have fg:IntKind.i64.wrap ((k:Int)+1)=(k+1:Nat) :=wrap_i64 (by omega) (by omega);have r7:cc[k]? = some (cc.getD k 0#32) :=by rw[atf,as4 (show k<cc.length from e5)]; rfl
       have hd:=cY k ((fE b).getD k 0#32) (by rw[atf,as4 (by omega)]; rfl);rw[WH h b k e5];obtain⟨ix,aW⟩:∃ ix,(fE b).getD k 0#32=ix:=⟨_,rfl⟩
       obtain⟨mQ,KV⟩:∃ mQ,cc.getD k 0#32=mQ:=⟨_,rfl⟩
       obtain⟨s,ak⟩:∃ s,mU h b k=s:=⟨_,rfl⟩
       rw[aW] at hd ⊢;rw[KV] at r7 ⊢;rw[ak];have Ar:cN (.aq 1) (cA 1 eB (some cc)) (.int .i64 k)=some (.bK (eB mQ) 0) :=by rw[tX]; simp[r7]
       have t6:=sS s.e 6 (by omega) (by omega);have t11:=sS s.e 11 (by omega) (by omega);have t25:=sS s.e 25 (by omega) (by omega);have t2:=sS s.a 2 (by omega) (by omega);have t13:=sS s.a 13 (by omega) (by omega);have t22:=sS s.a 22 (by omega) (by omega);simp at t6 t11 t25 t2 t13 t22;have afn:s.l=[s.a,s.b,s.c,s.d,s.e,s.f,s.g,s.h] :=rfl;have T4:(round s mQ ix).l=[(round s mQ ix).a,(round s mQ ix).b,(round s mQ ix).c,(round s mQ ix).d,(round s mQ ix).e,(round s mQ ix).f,(round s mQ ix).g,(round s mQ ix).h] :=rfl;simp[xR,afn,Ar,eB,xV,hd];refine a4 t6 rfl ?_;simp[Ar,eB,xV,hd];refine a4 t11 rfl ?_;simp[Ar,eB,xV,hd];refine a4 t25 rfl ?_;simp[Ar,eB,xV,hd];refine a4 t2 rfl ?_;simp[Ar,eB,xV,hd];refine a4 t13 rfl ?_;simp[Ar,eB,xV,hd];refine a4 t22 rfl ?_;simp[nJ,e5,fg];rfl
      ·have e4:k=64:=by omega
       subst e4;rw[WG];obtain⟨v,ap⟩:∃ v,rounds h cc (fE b)=v:=⟨_,rfl⟩
       rw[ap];have k5:grind h b=⟨h.a+v.a,h.b+v.b,h.c+v.c,h.d+v.d,h.e+v.e,h.f+v.f,h.g+v.g,h.h+v.h⟩:=by unfold grind; rw[ap]
       have pT:h.l.length=v.l.length:=rfl;have oc:h.l.length=8:=rfl;have tG:(grind h b).l=i4 h.l v.l 8:=by rw[k5]; rfl
       rw[tG];simp;refine cB 8 (fun k σ l=>σ 2=.ptr 0 0 8/\σ 4=.ptr 1 0 8/\σ 11=.ptr (rest.length+2) 0 8/\σ 21=.int .i64 k/\l=.cells 8 ((i4 h.l v.l k).map br) ::.cells 8 hw::(rest++[.cells 8 (v.l.map br)])) ?_ ?_
       ·rintro k σ l ar ⟨aT,bi,kw,ti,rfl⟩;obtain⟨σ,rfl⟩:=i2 aT bi kw ti;clear aT bi kw ti;by_cases io:(k:Int)<8
        ·have tJ:k<8:=by omega
         have fg:IntKind.i64.wrap ((k:Int)+1)=(k+1:Nat) :=wrap_i64 (by omega) (by omega);obtain⟨y,aJ⟩:∃ y,v.l[k]? = some y:=⟨_,as4 (show k<v.l.length from tJ)⟩
         obtain⟨z,ax⟩:∃ z,h.l[k]? = some z:=⟨_,as4 (show k<h.l.length from tJ)⟩
         have aB:=OC pT (k:=k) (by rw[oc]; exact tJ);rw[ax] at aB;have hT:=IZ pT k;have ra:=pb br (i4 h.l v.l k) k (z+y) (by rw[hT,oc]; exact tJ);rw[OD pT ax aJ] at ra;have Tk:(List.map br (i4 h.l v.l k))[k]? = some (br z) :=by rw[as5,aB]; rfl
         have z5:k<=7:=by omega
         obtain⟨A,dm⟩:∃ A,A=(i4 h.l v.l k).map br:=⟨_,rfl⟩
         have k0:A.length=8:=by rw[dm,ate,hT,oc]
         rw[<-dm] at Tk ra ⊢;obtain⟨acv,ad3⟩:=as0.1 Tk;simp[io,tJ,fg,ad3,aJ,ra,k0,z5]
        ·have e4:k=8:=by omega
         subst e4;have hT:=IZ pT 8;have G5:∀ A:List U,A.length=8->A.take 8=A:=fun A dm=>as1 (by omega)
         obtain⟨A,dm⟩:∃ A,A=(i4 h.l v.l 8).map br:=⟨_,rfl⟩
         have k0:A.length=8:=by rw[dm,ate,hT,oc]
         have zM:a5 A=true:=by rw[dm]; exact mw br (fun _=>rfl) _
         rw[<-dm];simp[nJ,jR,k0,G5 A k0];exact aP rfl (by simp[U.closed,zM])
       ·simp[OE]
     ·simp[WI];exact as1 (by simp[oc])
   ·refine⟨rfl,rfl,rfl,v,j,hw,rest,rfl,jP,xQ,aeR,rfl,jR⟩
 ·simp;exact⟨0,.nil 0⟩
def rx (k:Nat) :List B:=128#8::List.replicate k 0#8
theorem aiR (k:Nat) :rx (k+1)=rx k++[0#8] :=by simp[rx,List.replicate_succ']
theorem V7 (k:Nat) :(rx k).length=k+1:=by simp[rx]
set_option maxHeartbeats 8000000 in
theorem aj2 (n:Nat) (aC:n<=100000000) :gl Tryz.prog GS 204 [.int .i64 n] (cz (some (tail n))) :=by
 have lK:ct=140737488355328:=rfl;refine AR Tryz.checked.mixed bl ?_;apply bq Tryz.func204 [];obtain⟨m,hm⟩:∃ m,m=(119 - n % 64) % 64:=⟨_,rfl⟩
 simp;refine cB m (fun k σ l=>σ 0=.int .i64 n/\∃ v j,σ 3=v/\cD v=false/\bO 1 l v j ((rx k).map b7)) ?_ ?_
 ·rintro k σ l ar ⟨ce,v,j,aZ,ap,au⟩;obtain⟨σ,rfl⟩:=qm ce aZ;clear ce aZ;have bD:=au.len;rw[ate,V7] at bD;obtain⟨bU,Gy⟩:∃ bU,bU=k+1:=⟨_,rfl⟩
  rw[<-Gy] at bD;have nu:IntKind.i64.wrap ((n:Int)+(bU:Int))=(n+bU:Nat) :=wrap_i64 (by omega) (by omega);obtain⟨q,bj⟩:∃ q,q=n+bU:=⟨_,rfl⟩
  rw[<-bj] at nu;have la:IntKind.i64.wrap ((q:Int)+8)=(q+8:Nat) :=wrap_i64 (by omega) (by omega);obtain⟨HT,Lk⟩:∃ HT,HT=q+8:=⟨_,rfl⟩
  rw[<-Lk] at la;have q4:=y8 HT 64 (by omega);rw[show ((64:Int).toNat)=64 from rfl] at q4;obtain⟨x,ag⟩:∃ x,x=HT % 64:=⟨_,rfl⟩
  rw[<-ag] at q4;simp[bD,nu,la,q4];by_cases Uk:x=0
  ·have qW:k=m:=by omega
   subst qW;have Lx:rx k=nL n 0:=by unfold rx nL; rw[<-hm]; simp
   rw[Lx] at au;clear bD nu la q4;simp[Uk];refine cB 8 (fun k σ l=>σ 0=.int .i64 n/\σ 4=.int .i64 (7 - (k:Int))/\∃ v j,σ 3=v/\cD v=false/\bO 1 l v j ((nL n k).map b7)) ?_ ?_
   ·rintro k σ l ar ⟨ce,bi,v,j,aZ,ap,au⟩;obtain⟨σ,rfl⟩:=ln ce aZ bi;clear ce aZ bi;obtain⟨c,ah⟩:∃ c:Int,c=7 - (k:Int) :=⟨_,rfl⟩
    rw[<-ah];by_cases io:0<=c
    ·have z5:k<8:=by omega
     have re:IntKind.i64.wrap (c - 1)=7 - ((k:Int)+1) :=by rw[wrap_i64 (by omega) (by omega)]; omega
     obtain⟨d,bb⟩:∃ d,d=8*c:=⟨_,rfl⟩
     have LH:IntKind.i64.wrap (8*c)=d:=by rw[wrap_i64 (by omega) (by omega)]; omega
     have Kw:0<=d:=by omega
     have adE:d.toNat=56 - 8*k:=by omega
     have ag:=Po (BitVec.ofNat 64 n*8#64) k z5;have lM:=Il n k;obtain⟨y,aJ⟩:∃ y,y=(((BitVec.ofNat 64 n*8#64) >>> (56 - 8*k)).setWidth 8) :=⟨_,rfl⟩
     rw[<-aJ] at ag;have od:bO 1 (l++[aY.cells 1 [bz y]]) v j ((nL n k).map b7) :=au.more _;obtain⟨a3,cn,l',ad,ae,aj,aF,a6,bu⟩:=oE (by_:=1) od (x:=.aq 1 l.length 0 1 1 1) (xs:=[[bz y]]) (by simp[ds]) (by simp) (by omega) (by omega) (by simp; omega);have fr:cD a3=false:=by rw[vT bu,ap]; rfl
     have go:bO 1 l' a3 cn ((nL n (k+1)).map b7) :=by rw[XY n k y ag,atn]; exact ae
     rw[BitVec.mul_comm] at aJ;simp only[bz] at ad;simp[io,LH,Kw,adE];rw[<-aJ];simp[ad];refine c8.cb ?_;simp[re,z5];exact⟨fr,cn,go⟩
    ·have e4:k=8:=by omega
     subst e4;simp[io];exact au.Ek (fun _=>rfl) (some (tail n)) ap rfl
   ·simp;exact⟨ap,_,au⟩
  ·have lM:=V7 k;have od:bO 1 (l++[aY.cells 1 [bz 0#8]]) v j ((rx k).map b7) :=au.more _;obtain⟨a3,cn,l',ad,ae,aj,aF,a6,bu⟩:=oE (by_:=1) od (x:=.aq 1 l.length 0 1 1 1) (xs:=[[bz 0#8]]) (by simp[ds]) (by simp) (by omega) (by omega) (by simp; omega);have fr:cD a3=false:=by rw[vT bu,ap]; rfl
   have go:bO 1 l' a3 cn ((rx (k+1)).map b7) :=by rw[aiR,atn]; exact ae
   have qW:k<m:=by omega
   simp[bz] at ad;simp[Uk,ad];refine c8.cb ?_;simp[qW];exact⟨fr,cn,go⟩
 ·simp;exact⟨rfl,0,.aq 0 1 1 1 [.int .u8 128] _ rfl rfl rfl (by intro e am; simp[rx] at am; subst am; rfl) (as3 _) (as3 _) rfl⟩
set_option maxHeartbeats 8000000 in
theorem ajW (h:eJ) (b:List B) (af:b.length<=100000000) :bA Tryz.prog GS 202 [.aG (h.l.map br),cz (some b)] (.aG ((hM h b).1.l.map br)) :=by
 refine bW Tryz.checked.mixed bl ?_;apply bq Tryz.func202 [];have G5:∀ A:List U,A.length=8->A.take 8=A:=fun A dm=>as1 (by omega)
 have Tm:∀ s:eJ,(s.l.map br).length=8:=fun s=>rfl
 obtain⟨IF,Cq⟩:∃ IF,IF=h.l.map br:=⟨_,rfl⟩
 have acs:IF.length=8:=by rw[Cq]; rfl
 rw[<-Cq];simp[acs];refine cB (b.length / 64) (fun k σ l=>σ 1=cz (some b)/\σ 2=.ptr 0 0 8/\σ 4=.ptr 1 0 8/\σ 5=.int .i64 (64*k:Nat)/\∃ s hw,hM s (b.drop (64*k))=hM h b/\l=[.cells 8 (s.l.map br),.cells 8 hw]/\hw.length=8) ?_ ?_
 ·rintro k σ l ar ⟨aO,aT,bi,bm,s,hw,ak,rfl,jR⟩;obtain⟨σ,rfl⟩:=i2 aO aT bi bm;clear aO aT bi bm;obtain⟨a,aB⟩:∃ a,a=64*k:=⟨_,rfl⟩
  rw[<-aB] at ak ⊢;obtain⟨a2,CD⟩:∃ a2,a2=64*(k+1) :=⟨_,rfl⟩
  rw[<-CD];obtain⟨A,dm⟩:∃ A,A=s.l.map br:=⟨_,rfl⟩
  have k0:A.length=8:=by rw[dm]; rfl
  rw[<-dm];have aW:IntKind.i64.wrap ((a:Int)+64)=a2:=by rw[wrap_i64 (by omega) (by omega)]; omega
  by_cases dY:a2<=b.length
  ·have C3:(a2:Int)<=b.length:=by omega
   have bS:fF (.aq 1) (cz (some b)) (some (.int .i64 (a:Int))) (some (.int .i64 (a2:Int))) none=some (cz (some ((b.drop a).take 64))) :=by
    unfold cz; rw[akO (by omega) (by omega) (by omega)];have:(a2:Int).toNat - (a:Int).toNat=64:=by omega
    rw[this,atD]
   have fV:64<=((b.drop a).take 64).length:=by simp; omega
   have k5:=ack s _ fV;have r6:grind s ((b.drop a).take 64)=grind s (((b.drop a).take 64)) :=rfl;rw[<-dm] at k5;have b3:hM (grind s ((b.drop a).take 64)) (b.drop a2)=hM h b:=by
    rw[<-ak,BG s (b.drop a) (by simp; omega),avC];congr 2; omega
   have e5:k<b.length / 64:=by omega
   have zM:a5 A=true:=by rw[dm]; exact mw br (fun _=>rfl) _
   obtain⟨IE,J6⟩:∃ IE,IE=(grind s ((b.drop a).take 64)).l.map br:=⟨_,rfl⟩
   have acw:IE.length=8:=by rw[J6]; rfl
   rw[<-J6] at k5;simp[aW,dY,C3,k0,G5 A k0,bS];refine a4 k5 (by simp[a5,U.closed,zM,mx]) ?_;simp[nJ,k0,acw,aW,e5];exact⟨_,b3,hw,⟨J6,rfl⟩,jR⟩
  ·have C3:¬(a2:Int)<=b.length:=by omega
   have am:=ak;rw[Fh s (b.drop a) (by simp; omega)] at am;rw[<-am];have zM:a5 A=true:=by rw[dm]; exact mw br (fun _=>rfl) _
   simp[aW,dY,C3,k0,G5 A k0,nJ,jR];exact aP (by rw[dm]) (by rw[dm] at zM; simp[U.closed,zM])
 ·exact⟨rfl,rfl,rfl,rfl,h,rep 8 (.int .u32 0),rfl,by rw[Cq]; rfl,rfl⟩
def sE (s:eJ) (k:Nat) :List B:=(written s).take k++List.replicate (32 - k) 0#8
theorem aiG (s:eJ) (k:Nat) (ar:k<=32) :(sE s k).length=32:=by
 unfold sE;have:=IC s;simp; omega
theorem aiH (s:eJ) (k:Nat) (x:B) (ag:(written s)[k]? = some x) :(sE s k).set k x=sE s (k+1) :=by
 have ar:k<32:=(as0.1 ag).1;unfold sE;have al:(List.take k (written s)).length=k:=by have:=IC s; simp; omega
 rw[at8 _ _ (by omega),al,auZ,atu,ag,show 32 - k=(32 - (k+1))+1 by omega,atP,auR];simp
theorem amH (s:eJ) (k:Nat) (ar:k<32) :∃ w,s.l[k / 4]? = some w/\(written s)[k]? = some ((w >>> (24 - 8*(k % 4))).setWidth 8) :=by
 have aI:∀ w:W,w=w >>> 0:=fun w=>by simp
 obtain⟨a,b,c,d,e,f,g,h⟩:=s;have:∀ (l:List W) (k:Nat),k<4*l.length->∃ w,l[k / 4]? = some w/\(l.map uD).flatten[k]? = some ((w >>> (24 - 8*(k % 4))).setWidth 8) :=by
  intro l
  induction l with
  | nil=>intro k ar; simp at ar
  | cons w l aS=>
   intro k ar
   match k,ar with
   | 0,_=>exact⟨w,rfl,rfl⟩
   | 1,_=>exact⟨w,rfl,rfl⟩
   | 2,_=>exact⟨w,rfl,rfl⟩
   | 3,_=>refine⟨w,rfl,?_⟩; simp[uD]
   | k+4,ar=>
    obtain⟨y,ad,ae⟩:=aS k (by simp at ar; omega);refine⟨y,?_,?_⟩
    ·rw[show (k+4) / 4=k / 4+1 by omega]; exact ad
    ·rw[show (k+4) % 4=k % 4 by omega]; exact ae
 exact this _ k (by simpa [eJ.l] using ar)
set_option maxHeartbeats 8000000 in
theorem aj4 (s:eJ) :bA Tryz.prog GS 201 [.aG (s.l.map br)] (gp (written s)) :=by
 refine bW Tryz.checked.mixed bl ?_;apply bq Tryz.func201 [];obtain⟨A,dm⟩:∃ A,A=s.l.map br:=⟨_,rfl⟩
 have k0:A.length=8:=by rw[dm]; rfl
 rw[<-dm];simp[k0];refine cB 32 (fun k σ l=>σ 1=.ptr 0 0 8/\σ 2=.ptr 1 0 32/\σ 3=.ptr 2 0 32/\σ 4=.int .i64 k/\∃ hw,l=[.cells 8 A,.cells 32 hw,.cells 32 ((sE s k).map bz)]/\hw.length=32) ?_ ?_
 ·rintro k σ l ar ⟨aO,aT,aZ,bi,hw,rfl,jR⟩;obtain⟨σ,rfl⟩:=i2 aO aT aZ bi;clear aO aT aZ bi;by_cases KQ:(k:Int)<32
  ·have e5:k<32:=by omega
   have fg:IntKind.i64.wrap ((k:Int)+1)=(k+1:Nat) :=wrap_i64 (by omega) (by omega);have Ll:=Jn k 4 (by omega) (by omega);have q4:=y8 k 4 (by omega);rw[show ((4:Int).toNat)=4 from rfl] at Ll q4;obtain⟨w,aW,ag⟩:=amH s k e5;obtain⟨q,bj⟩:∃ q,q=k / 4:=⟨_,rfl⟩
   obtain⟨r,ay⟩:∃ r,r=k % 4:=⟨_,rfl⟩
   rw[<-bj] at Ll aW;rw[<-ay] at q4 ag;have Lk:q<8:=by omega
   obtain⟨Eh,T4⟩:∃ Eh,Eh=8*r:=⟨_,rfl⟩
   have LH:IntKind.i64.wrap (8*(r:Int))=Eh:=by rw[wrap_i64 (by omega) (by omega)]; omega
   obtain⟨HU,afh⟩:∃ HU,HU=24 - Eh:=⟨_,rfl⟩
   have afH:IntKind.i64.wrap (24 - (Eh:Int))=HU:=by rw[wrap_i64 (by omega) (by omega)]; omega
   have k8:=aiH s k _ ag;rw[<-T4,<-afh] at ag k8;have dF:=aiG s k (by omega);have ra:=pb bz (sE s k) k ((w >>> HU).setWidth 8) (by rw[dF]; exact e5);rw[k8] at ra;obtain⟨O,eD⟩:∃ O,O=(sE s k).map bz:=⟨_,rfl⟩
   have oO:O.length=32:=by rw[eD,ate,dF]
   rw[<-eD] at ra ⊢;have acx:A[q]? = some (br w) :=by rw[dm,as5,aW]; rfl
   obtain⟨acv,acy⟩:=as0.1 acx;have afc:q<=7:=by omega
   have aem:k<=31:=by omega
   have afd:(q:Int)<8:=by omega
   simp[KQ,e5,fg,Ll,q4,LH,afH,k0,Lk,acy,oO,ra,jR,afc,aem,afd]
  ·have e4:k=32:=by omega
   subst e4;have au:sE s 32=written s:=by unfold sE; rw[as1 (by rw[IC]; omega)]; simp
   rw[au];obtain⟨O,eD⟩:∃ O,O=(written s).map bz:=⟨_,rfl⟩
   have oO:O.length=32:=by rw[eD,ate,IC]
   have acQ:a5 O=true:=by rw[eD]; exact mw bz (fun _=>rfl) _
   have aV:O.take 32=O:=as1 (by omega);unfold gp;rw[<-eD];simp[oO,aV,nJ,jR];exact aP rfl (by simp[U.closed,acQ])
 ·refine⟨rfl,rfl,rfl,rfl,_,rfl,rfl⟩
set_option maxHeartbeats 8000000 in
theorem WX (s:eH) (ak:s.l.length<=1000000) :bA Tryz.prog GS 171 [cz s] (gp (iM s.l)) :=by
 have lK:ct=140737488355328:=rfl;refine bW Tryz.checked.mixed bl ?_;apply bq Tryz.func171 [];simp;refine a4 abR rfl ?_;have aih:bO 1 ([aY.cells 32 (rep 32 (U.int IntKind.u8 0))]++[aY.cells 0 []]) (.aq 1 1 0 0 0 0) 1 [] :=.aq 1 0 0 0 [] _ rfl rfl rfl (by simp) (as3 _) (as3 _) rfl;obtain⟨v,j,r,ad,ae,aj,aF⟩:=xe (by_:=1) aih (.inr (as3 _)) (x:=cz s) (xs:=s.l.map b7) (by unfold cz; rw[vh,ate]) (by intro e am; obtain⟨x,_,rfl⟩:=atx.1 am; rfl) (by omega) (by omega) (by rw[lK]; simp; omega);have ap:cD v=false:=by rw[aF]; rfl
 simp only[at1,List.singleton_append] at ad ae;have bD:cv (.aq 1) (cz s)=some (.int .i64 s.l.length) :=sx _;have lM:=aj2 s.l.length (by omega);have G6:(tail s.l.length).length<=80:=by rw[<-NN]; exact Il _ _
 obtain⟨a3,cn,cx,bU,b8,ei,hg⟩:=xe (by_:=1) (pre:=[aY.cells 32 (rep 32 (U.int IntKind.u8 0))]) ae aj (x:=cz (some (tail s.l.length))) (xs:=(tail s.l.length).map b7) (by unfold cz; rw[vh,ate]; rfl) (by intro e am; obtain⟨x,_,rfl⟩:=atx.1 am; rfl) (by omega) (by omega) (by rw[lK]; simp; omega);have fr:cD a3=false:=by rw[hg,ap]; rfl
 rw[<-atn] at b8;simp only[List.singleton_append] at bU b8;have mM:=b8.wo (fun _=>rfl) (some (s.l++tail s.l.length)) fr rfl;have fV:=ajW first (s.l++tail s.l.length) (by simp; omega)
 have jc:=aj4 (hM first (s.l++tail s.l.length)).1;have oV:iM s.l=written (hM first (s.l++tail s.l.length)).1:=rfl;rw[<-oV] at jc;obtain⟨F,tq⟩:∃ F,F=(hM first (s.l++tail s.l.length)).1:=⟨_,rfl⟩
 rw[<-tq] at fV jc;simp[ad];refine c8.cb ?_;simp[bD];refine a4 lM.ED rfl ?_;simp[bU];refine c8.cb ?_;simp;refine lV fV (.cons (.same _ ?_) (.cons mM .nil)) (RT br (fun _=>rfl) _) ?_
 ·simp[U.closed,mw br (fun _=>rfl)]
 simp;refine a4 jc ?_ ?_
 ·simp[a5,U.closed,mw br (fun _=>rfl)]
 have bS:=wB s.l;simp[gp,bS,nJ,as1];exact aP rfl (by simp[U.closed,mw bz (fun _=>rfl)])
end hl

end Go.bY

namespace Go.bY
open Go Go.Proofs Go.RowKit
set_option maxRecDepth 100000
open hl
theorem Yb {e:TypeId} (aL:Tryz.prog.underlying e=some (.int .u8)) :∀ (n:Nat) {ts:List TypeId} {cs:List U},dB Tryz.prog (List.replicate n e++ts) cs->∃ (x:List B) (cs' : List U),cs=x.map bz++cs'/\x.length=n/\dB Tryz.prog ts cs'
 | 0,ts,cs,h=>⟨[],cs,rfl,rfl,h⟩
 | n+1,ts,cs,h=>by
  obtain⟨k,xk,rfl,ad,ae,aj⟩:=uB aL h;obtain⟨x,hA,rfl,ag,aF⟩:=Yb aL n aj;have a6:(0:Int)<=k:=ad;have bu:k<=255:=ae;refine⟨BitVec.ofNat 8 k.toNat::x,hA,?_,by simp[ag],aF⟩;have:((BitVec.ofNat 8 k.toNat).toNat:Int)=k:=by
   rw[atm,atb (by omega)]; omega
  simp[bz,u]; omega
theorem Yd {ts:List TypeId} {cs:List U} (h:dB Tryz.prog (86::ts) cs) :∃ (x:BitVec 64) (cs' : List U),cs=dN x::cs'/\dB Tryz.prog ts cs':=by
 obtain⟨k,xk,rfl,ad,ae,aj⟩:=uB (k:=.u64) (by kernel_rfl) h;have a6:(0:Int)<=k:=ad;have bu:k<=18446744073709551615:=ae;refine⟨BitVec.ofNat 64 k.toNat,xk,?_,aj⟩;have:((BitVec.ofNat 64 k.toNat).toNat:Int)=k:=by
  rw[atm,atb (by omega)]; omega
 simp[dN,u]; omega
theorem alw {ts:List TypeId} {cs:List U} (h:lu Tryz.prog (3::ts) cs) :∃ (n:Int) (cs' : List U),cs=.int .i64 n::cs'/\IntKind.i64.min<=n/\n<=IntKind.i64.max/\lu Tryz.prog ts cs':=by
 obtain⟨c,cs',rfl,ad,ae⟩:=NV h;obtain⟨n,xk,ak,al,az,aj⟩:=uB (k:=.i64) (by kernel_rfl) (alz (by kernel_rfl) ad);cases ak;exact⟨n,cs',rfl,al,az,ae⟩
def Mb:List Int:=hl.cc.map fun k=>(k.toNat:Int)
theorem alh:Bd=Mb.map fun k=>.int .u32 k:=by unfold Bd Mb; rw[auJ]; rfl
theorem ag7 {W:World} (h:laidMetH Tryz.prog [("braid/digest.constants",Go.Proofs.YtidejmkknleijaaGreatDoor.Rows.laid_braid_digest_constants)] W) :∀ g,dV W (fun _=>True) (GS g) (.pointer (some ⟨g,0,none⟩)) :=by
 intro g;unfold GS;split
 ·rename_i af;have:=atz af;subst this;rw[MakeChecks.laidMetH_plain _ _ _ (by kernel_rfl)] at h;obtain⟨ps,⟨ce,t0,px,f0,jX,cE,KF,Lx,jP,Kw,_,_⟩,_,_⟩:=h;have aQ:Tryz.prog.globalNamed "braid/digest.constants"=some 1:=by kernel_rfl
  have bx:(Tryz.prog.globals[1]?).map (·.type)=some 264:=by kernel_rfl
  obtain rfl:=Option.some.inj (aQ.symm.trans KF);obtain rfl:=Option.some.inj (bx.symm.trans Lx);rw[alh];exact acb Mb aQ jP (n:=64) (e:=85) (by kernel_rfl) (by kernel_rfl) (by kernel_rfl) Kw (by rfl)
 ·exact .bad _
end Go.bY

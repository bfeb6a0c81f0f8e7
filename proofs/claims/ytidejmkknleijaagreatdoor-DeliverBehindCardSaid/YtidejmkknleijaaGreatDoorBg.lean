/-
  The canonical machine: slices.Insert of one element into a row of one's own.
-/
import Derived.Test.YtidejmkknleijaaGreatDoorBf
import Derived.Lib.AppendZerosOnto
import Derived.ProofKit
import Derived.Test.YtidejmkknleijaaGreatDoorRows
import Derived.LaidMore
import Derived.MakeChecks
set_option linter.unusedVariables false
set_option linter.unusedSimpArgs false
set_option linter.unnecessarySimpa false
namespace Go.b0
open Go Go.Proofs Go.Shelf
structure BU (P:Program) (f:FuncId) (T I e z:Nat) :Prop where
 zp:P.underlying T=some (.slice e)
 am3:P.underlying I=some (.int .i64)
 fin:∀ (base:Option Addr) (n c ev fm hj:Nat) (r:Value) (w w' : World),n<=c->n<=4611686018427387904->(base=none->n=0/\c=0)->
  (Builtin.append_ #[T,T] T #[.slice base n c,.slice (some ⟨fm,hj,none⟩) 1 ev]).run P w=.ok r w'->
  Calls P f #[.slice base n c,.int .i64 n,.slice (some ⟨fm,hj,none⟩) 1 ev] w fun x w2=>x=.returned r/\w2=w'
 shift:∀ (b off n c i fm hj ev:Nat) (bZ cc:Value) (w cG dP:World) (zl fr:TypeId) (qt s3:Nat),i<n->n+1<=c->n<=4611686018427387904->fm≠b->
  w.shape? fm=some (zl,qt)->w.shape? b=some (fr,s3)->s3≠0->w.frozen? ⟨fm,hj,none⟩=false->w.frozen? ⟨fm,qt,none⟩=false->
  (Builtin.copy_ #[T,T] I #[.slice (some ⟨b,off+(i+1)*z,none⟩) (n - i) (c - (i+1)),.slice (some ⟨b,off+i*z,none⟩) (n+1 - i) (c - i)]).run P w.drew=.ok bZ cG->
  (Builtin.copy_ #[T,T] I #[.slice (some ⟨b,off+i*z,none⟩) (n+1 - i) (c - i),.slice (some ⟨fm,hj,none⟩) 1 ev]).run P cG=.ok cc dP->
  Calls P f #[.slice (some ⟨b,off,none⟩) n c,.int .i64 i,.slice (some ⟨fm,hj,none⟩) 1 ev] w fun x w2=>x=.returned (.slice (some ⟨b,off,none⟩) (n+1) c)/\w2=dP
 grow:∀ (b off n c i fm hj ev N G:Nat) (bZ cc:Value) (w q2 cG dP:World),i<n->n<=c->c<n+1->n+1<=G->n<=4611686018427387904->
  (Builtin.append_ #[T,I] T #[.slice (some ⟨b,off,none⟩) i c,.int .i64 ((n:Int)+1 - (i:Int))]).run P w=.ok (.slice (some ⟨N,0,none⟩) (n+1) G) q2->
  (Builtin.copy_ #[T,T] I #[.slice (some ⟨N,i*z,none⟩) (n+1 - i) (G - i),.slice (some ⟨fm,hj,none⟩) 1 ev]).run P q2=.ok bZ cG->
  (Builtin.copy_ #[T,T] I #[.slice (some ⟨N,(i+1)*z,none⟩) (n - i) (G - (i+1)),.slice (some ⟨b,off+i*z,none⟩) (n - i) (c - i)]).run P cG.drew=.ok cc dP->
  Calls P f #[.slice (some ⟨b,off,none⟩) n c,.int .i64 i,.slice (some ⟨fm,hj,none⟩) 1 ev] w fun x w2=>x=.returned (.slice (some ⟨N,0,none⟩) (n+1) G)/\w2=dP
section
variable {P:Program} {G:Nat->U} {R:Nat->Prop} {B:Nat} {w:World} {h:aN} {μ:ck}
theorem HY (rel:bN R B w h μ) {b sz o n:Nat} {cs:List U} {m:M} (ag:h.f b=.cells sz cs) (hm:μ b=some m) (cQ:o+n<=sz) :
  ∃ vs:List Value,tK w R h μ ((cs.drop o).take n) vs/\(loadCells ⟨m.r,m.s+o,none⟩ n).run P w=.ok vs.toArray w:=by
 have eA:=rel.blk b m hm;rw[ag] at eA;obtain⟨ea,eC,arr,e,fa,az,dI,oA,lO⟩:=eA;have bC:((cs.drop o).take n).length=n:=by rw[auA,avh]; omega
 obtain⟨vs,cA,al⟩:=N1 (P:=P) (w:=w) (R:=R) (h:=h) (μ:=μ) (w2:=w) (xs:=(cs.drop o).take n) (blk:=m.r) (o:=m.s+o) (fun _=>rfl) (fun j c ai=>by
  have aL:j<n:=by have:=(auk.1 ai).1; omega
  rw[auI aL,auY] at ai;obtain⟨v,ad,ae,aj⟩:=lO (o+j) c ai;refine⟨v,?_,ae,aj⟩;simp only[World.cell?,az,awz];rw[av1];exact ad)
 refine⟨vs,cA,?_⟩;have:=al n (by omega) w (fun _=>rfl)
 rwa [aul (by rw[cA.1,bC]; exact aun _)] at this
theorem FZ (rel:bN R B w h μ) {t u ty e z:Nat} (kV:P.underlying t=some (.slice e)) (ax:cz P e=some z) {b sz k:Nat} {cs:List U} {m:M} (ag:h.f b=.cells sz cs) (hm:μ b=some m) (ar:k<=sz)
  {dLen dc sLen sc cnt:Nat} {a:Addr} {xs:List U} {vs:List Value} (GR:Nat.min sLen dLen=cnt) (bd:xs.length=cnt*z) (afE:(loadCells a (cnt*z)).run P w=.ok vs.toArray w)
  (cA:tK w R h μ xs vs) (eC:m.s+max sz (k+cnt*z)<=m.T) :
  ∃ w',(Builtin.copy_ #[t,u] ty #[.slice (some ⟨m.r,m.s+k,none⟩) dLen dc,.slice (some a) sLen sc]).run P w=.ok (goInt cnt) w' ∧
   df w h μ w' (h.set b (.cells (max sz (k+cnt*z)) (a8 cs k xs))) μ/\bN R B w' (h.set b (.cells (max sz (k+cnt*z)) (a8 cs k xs))) μ:=by
 obtain⟨w',ad,ae,aj⟩:=zt (P:=P) rel (cvs:=xs) (vs:=vs) (k:=k) ag hm ar cA.1 (by rw[bd]; exact eC) cA.2;rw[bd] at ae aj;refine⟨w',?_,ae,aj⟩;simp[Builtin.copy_,cx kV,Builtin.lenOf,Builtin.firstCells,fK ax,GR,afE,ad]
theorem XR {bL:World} {ad:aN} {g5:ck} (mD:bN R B bL ad g5) (ex:df w h μ bL ad g5) {b z n nc ns:Nat} {row:List U} {v:Value} (aE:ad.f=bB h.f b (.cells ns row)) (aD:ad.n=h.n) (sO:ns=nc*z) (aI:0<n) (pe:b<h.n)
  (ap:aO bL R ad g5 (.aq z b 0 n nc ns) v) :
  ∃ μ',df w h μ bL ((h.set b .dead).push (.cells ns row)) μ'/\bN R B bL ((h.set b .dead).push (.cells ns row)) μ'/\aO bL R ((h.set b .dead).push (.cells ns row)) μ' (.aq z h.n 0 n nc ns) v:=by
 have fZ:ad.f b=.cells ns row:=by rw[aE,hP]
 cases ap with
 | hI _ _ _ _ _ _ _ _ _ _ aw=>
  exfalso;rcases aw with aw | ⟨hH,cs',aw,aL⟩
  ·rw[fZ] at aw; cases aw
  ·rw[fZ] at aw; cases aw; omega
 | iV=>omega
 | aq _ _ _ _ _ _ cap' pY m ow hm al au de=>
  have qm:=mD.XQ (b:=b) (off:=0) (m:=m) (h':=(h.set b .dead).push (.cells ns row)) fZ hm (avu _) (by
   rw[er,dZ,e7,aE,aD];funext x;simp only[bB,awD,avx];by_cases ae:x=h.n
   ·rw[if_pos ae,if_pos ae]
   ·rw[if_neg ae,if_neg ae];split<;>rfl) (by rw[fx,e7,aD])
  refine⟨_,ex.trans qm.1,qm.2,?_⟩;rw[aD];exact .aq z h.n 0 n nc ns cap' row ⟨m.r,m.s+0,m.T⟩ (by rw[er,e7,hP]) (by simp) al au (by
   rcases de with de | ⟨mZ,ml,Az⟩
   ·omega
   ·exact .inr ⟨mZ,ml,by simpa using Az⟩)
theorem PT (w:World) :RowKit.Below w.heap.size w w.drew:=⟨rfl,rfl,rfl,aun _,fun _ _=>rfl⟩
theorem ahF {z i len:Nat} {cs vs:List U} (iL:vs.length=z) (ay:i<len) (al:len*z<=cs.length) :
  a8 (a8 cs ((i+1)*z) ((cs.drop (i*z)).take ((len - i)*z))) (i*z) vs=oI z cs vs i len:=by
 have ad:(i+1)*z=i*z+z:=by rw[au2]
 have ae:(i+1)*z<=len*z:=aup _ ay;have aj:i*z+(len - i)*z=len*z:=by rw[<-au8]; congr 1; omega
 have aG:(len+1)*z=len*z+z:=by rw[au2]
 have Am:((cs.drop (i*z)).take ((len - i)*z)).length=(len - i)*z:=by rw[auA,avh]; omega
 have du:(cs.take ((i+1)*z)).length=i*z+z:=by rw[auA]; omega
 unfold oI a8;rw[Am,iL];have aP:(i+1)*z+(len - i)*z=(len+1)*z:=by omega
 rw[aP,au3 (cs.take ((i+1)*z)),auT (by rw[du]; omega),avH,show min (i*z) ((i+1)*z)=i*z by omega];rw[show i*z+z=(cs.take ((i+1)*z)).length by rw[du],List.drop_left];simp only[au3]
theorem ahC {z i len:Nat} {cs vs:List U} (iL:vs.length=z) (ay:i<len) (al:len*z=cs.length) :
  a8 (a8 (cs.take (i*z)) (i*z) vs) ((i+1)*z) ((cs.drop (i*z)).take ((len - i)*z))=oI z cs vs i len:=by
 have ad:(i+1)*z=i*z+z:=by rw[au2]
 have ae:(i+1)*z<=len*z:=aup _ ay;have aj:i*z+(len - i)*z=len*z:=by rw[<-au8]; congr 1; omega
 have aG:(len+1)*z=len*z+z:=by rw[au2]
 have du:(cs.take (i*z)).length=i*z:=by rw[auA]; omega
 have fu:a8 (cs.take (i*z)) (i*z) vs=cs.take (i*z)++vs:=by
  unfold a8;rw[au0 (by rw[du]; omega),auV,aul (by rw[du]; exact aun _)]
 rw[fu];unfold oI a8;have aP:(cs.take (i*z)++vs).take ((i+1)*z)=cs.take (i*z)++vs:=aul (by rw[auu,du,iL]; omega);have bw:∀ k,(cs.take (i*z)++vs).drop ((i+1)*z+k)=[] :=fun k=>au0 (by rw[auu,du,iL]; omega)
 have e3:cs.drop ((len+1)*z)=[] :=au0 (by omega);rw[aP,bw,e3]
theorem ai0 (a b z:Nat) :max a b*z=max (a*z) (b*z) :=by
 rcases Nat.le_total a b with h | h
 ·rw[axc h,axc (aup _ h)]
 ·rw[axn h,axn (aup _ h)]
theorem ahv {T e z by_:Nat} (dI:i3 P T=some e) (ax:cz P e=some z) (dQ:kL P e=some by_) (rz:0<z) (yd:0<by_) (io:tx P e=some z)
  {b ih len cap:Nat} {cs vs:List U} (ag:h.f b=.cells (cap*z) cs) (ea:cs.length=cap*z) (lm:h.f ih=.cells z vs) (iL:vs.length=z) (qf:len<=cap) (dL:(len+1)*by_<=cw) :
  so P h T (.aq z b 0 len cap (cap*z)) (.aq z ih 0 1 1 z)=some (.aq z b 0 (len+1) (max cap (len+1)) (max cap (len+1)*z),h.set b (.cells (max cap (len+1)*z) (oI z cs vs len len))) :=by
 have aG:(len+1)*z=len*z+z:=by rw[au2]
 have dO:len*z<=cap*z:=aup _ qf;have cA:oI z cs vs len len=cs.take (len*z)++vs++cs.drop ((len+1)*z) :=by simp[oI]
 have m7:(vs.drop 0).take (1*z)=vs:=by rw[avx,awI,aul (by omega)]
 unfold so;rw[dI];simp only[ax,dQ,contents,lm,and_self,if_true,m7];unfold vy;rw[if_neg (by omega),if_neg (by rw[io]; simp; omega)];simp only[ag,true_and,dL,if_true];by_cases aE:len+1<=cap
 ·have He:(len+1)*z<=cap*z:=aup _ aE;rw[if_pos aE,axn aE,cA];simp only[a8,avz,iL,<-aG]
 ·obtain rfl:len=cap:=by omega
  rw[if_neg aE,if_neg (by omega),axc (by omega),cA,au0 (by omega),auV]
theorem ahx {f T I e z by_:Nat} (L:BU P f T I e z) (dI:i3 P T=some e) (ax:cz P e=some z) (dQ:kL P e=some by_) (rz:0<z) (yd:0<by_) (io:tx P e=some z)
  {b ih len cap i:Nat} {cs vs:List U} (ag:h.f b=.cells (cap*z) cs) (lm:h.f ih=.cells z vs) (bP:ih≠b) (ay:i<=len) (qf:len<=cap) (dL:(len+1)*by_<=cw) :
  qS P G f [.aq z b 0 len cap (cap*z),.int .i64 i,.aq z ih 0 1 1 z] h (.aq z h.n 0 (len+1) (max cap (len+1)) (max cap (len+1)*z)) ((h.set b .dead).push (.cells (max cap (len+1)*z) (oI z cs vs i len))) :=by
 intro R B w μ eR rel x4 al ap;obtain⟨qO⟩:=eR
 match qO,al with
 | [tu,ch,bU],_=>
 have ia:=ap 0 _ tu rfl rfl;have m7:=ap 1 _ ch rfl rfl;have gh:=ap 2 _ bU rfl rfl;have L9:=gh;cases m7;have uf:len<=4611686018427387904:=by
  have:=Nat.le_mul_of_pos_right (len+1) yd;unfold cw at dL;omega
 have LD:Bg P T:=⟨_,L.zp,fun k ar=>by cases ar⟩
 have mr:=ai0 cap (len+1) z;have aG:(len+1)*z=len*z+z:=by rw[au2]
 have dO:len*z<=cap*z:=aup _ qf;cases gh with
 | hI _ _ _ _ _ _ _ _ _ _ aw=>
  exfalso;rcases aw with aw | ⟨hH,cs',aw,aL⟩
  ·rw[lm] at aw; cases aw
  ·rw[lm] at aw; cases aw; omega
 | aq _ _ _ _ _ _ ev anp fR aes sJ qi DL jK=>
 have Dg:=rel.blk ih fR sJ;rw[lm] at Dg;obtain⟨iL,aqn,PE,c3,apR,LZ,ap7,TZ,aqh⟩:=Dg;by_cases dH:i=len
 ·subst dH;have afK:∃ a cap',tu=.slice (some a) i cap'/\i<=cap'/\cs.length=cap*z/\b<h.n:=by
   cases ia with
   | hI _ _ _ _ _ _ _ _ _ _ aw=>
    exfalso;rcases aw with aw | ⟨hH,cs',aw,aL⟩
    ·rw[ag] at aw; cases aw
    ·rw[ag] at aw; cases aw; omega
   | iV _ _ _ _ a pY m ow hm=>
    have eA:=rel.blk b m hm;rw[ag] at eA;exact⟨a,0,rfl,aun _,eA.1,rel.nu hm⟩
   | aq _ _ _ _ _ _ cap' pY m ow hm al au de=>
    have eA:=rel.blk b m hm;rw[ag] at eA;exact⟨_,cap',rfl,by omega,eA.1,rel.nu hm⟩
  obtain⟨a,cap',rfl,AI,ea,pe⟩:=afK;obtain⟨v,bL,g5,fQ,yj,LX,uF⟩:=JI (P:=P) (ty:=T) (u:=T) rel LD (ahv (P:=P) dI ax dQ rz yd io ag ea lm iL qf dL) ia L9;refine (L.fin (some a) i cap' ev fR.r (fR.s+0) v w bL AI uf (fun h=>by cases h) fQ).mono ?_;rintro x w2 ⟨rfl,rfl⟩;obtain⟨μ',ad,ae,aj⟩:=XR (h:=h) LX yj (b:=b) (row:=oI z cs vs i i) (ns:=max cap (i+1)*z) (dZ _ _ _) rfl rfl (by omega) pe uF;exact⟨v,μ',rfl,ad,ae,aj⟩
 have Dv:i<len:=by omega
 have apT:(i+1)*z=i*z+z:=by rw[au2]
 have apV:(i+1)*z<=len*z:=aup _ Dv;have apW:i*z+(len - i)*z=len*z:=by rw[<-au8]; congr 1; omega
 cases ia with
 | hI _ _ _ _ _ _ _ _ _ _ aw=>
  exfalso;rcases aw with aw | ⟨hH,cs',aw,aL⟩
  ·rw[ag] at aw; cases aw
  ·rw[ag] at aw; cases aw; omega
 | iV=>omega
 | aq _ _ _ _ _ _ cap' pY m ow hm aqw au de=>
 rw[ag] at ow; cases ow;have eA:=rel.blk b m hm;rw[ag] at eA;obtain⟨ea,aqm,arr,ra,fa,az,ap6,oA,lO⟩:=eA;obtain⟨ml,Az⟩:cap<=cap'/\m.s+cap'*z<=m.T:=by
  rcases de with de | ⟨mZ,ml,Az⟩
  ·omega
  ·exact⟨ml,by simpa using Az⟩
 have pe:=rel.nu hm;have LB:fR.r≠m.r:=fun am=>bP (rel.inj ih b fR m (by rw[lm]; rfl) (by rw[ag]; rfl) sJ hm am)
 have m7:(vs.drop 0).take z=vs:=by rw[avx,aul (by omega)]
 have KJ:((cs.drop (i*z)).take ((len - i)*z)).length=(len - i)*z:=by rw[auA,avh]; omega
 by_cases eC:len+1<=cap'
 ·have He:(len+1)*z<=cap'*z:=aup _ eC;obtain⟨o4,nZ⟩:=NM rel (w':=w.drew) (PT w);obtain⟨ci,Hy,Lw⟩:=HY (P:=P) nZ (o:=i*z) (n:=(len - i)*z) ag hm (by omega);obtain⟨cG,qb,oq,mD⟩:=FZ (P:=P) (t:=T) (u:=T) (ty:=I) nZ L.zp ax (k:=(i+1)*z) ag hm (by omega) (dLen:=len - i) (dc:=cap' - (i+1)) (sLen:=len+1 - i) (sc:=cap' - i) (cnt:=len - i)
   (by simp only[axp]; split<;>omega) KJ Lw Hy (by omega)
  have uD:max (cap*z) ((i+1)*z+(len - i)*z)=max cap (len+1)*z:=by omega
  rw[uD] at oq mD;have fZ:(h.set b (.cells (max cap (len+1)*z) (a8 cs ((i+1)*z) ((cs.drop (i*z)).take ((len - i)*z))))).f b=.cells (max cap (len+1)*z) (a8 cs ((i+1)*z) ((cs.drop (i*z)).take ((len - i)*z))) :=by rw[dZ,hP]
  have aet:(h.set b (.cells (max cap (len+1)*z) (a8 cs ((i+1)*z) ((cs.drop (i*z)).take ((len - i)*z))))).f ih=.cells z vs:=by rw[dZ,b2 _ _ _ _ bP]; exact lm
  obtain⟨H3,Hz,Lx⟩:=HY (P:=P) mD (o:=0) (n:=z) aet sJ (by omega);rw[m7] at Hz;obtain⟨dP,qc,o5,r4⟩:=FZ (P:=P) (t:=T) (u:=T) (ty:=I) mD L.zp ax (k:=i*z) fZ hm (by omega) (dLen:=len+1 - i) (dc:=cap' - i) (sLen:=1) (sc:=ev) (cnt:=1)
   (by simp only[axp]; split<;>omega) (by omega) (by rw[awI]; exact Lx) Hz (by omega)
  have AN:max (max cap (len+1)*z) (i*z+1*z)=max cap (len+1)*z:=by omega
  rw[AN,ahF iL Dv (by omega)] at o5 r4;have yk:w.frozen? ⟨fR.r,fR.s+0,none⟩=false:=by
   simp only[World.frozen?,LZ];rcases TZ with aI | aI
   ·subst aI; simp
   ·simp; intro aj; omega
  have yl:w.frozen? ⟨fR.r,PE.size,none⟩=false:=by
   simp only[World.frozen?,LZ];rcases TZ with aI | aI
   ·subst aI; simp
   ·simp; intro aj; omega
  refine (L.shift m.r m.s len cap' i fR.r (fR.s+0) ev _ _ w cG dP c3 ra PE.size arr.size Dv eC uf LB (by simp[World.shape?,LZ]) (by simp[World.shape?,az]) (by omega) yk yl qb qc).mono ?_;rintro x w2 ⟨rfl,rfl⟩;obtain⟨μ',ad,ae,aj⟩:=XR (h:=h) r4 ((o4.trans oq).trans o5) (b:=b) (row:=oI z cs vs i len) (ns:=max cap (len+1)*z) (n:=len+1) (nc:=max cap (len+1)) (z:=z) (v:=.slice (some ⟨m.r,m.s+0,none⟩) (len+1) cap') (by
   rw[dZ,dZ];funext y;simp only[bB];split<;>rfl) rfl rfl (by omega) pe (.aq z b 0 (len+1) (max cap (len+1)) (max cap (len+1)*z) cap' _ m (by rw[dZ,hP]) hm (by omega) (by omega) (.inr ⟨by omega,by omega,by simpa using Az⟩))
  exact⟨_,μ',rfl,ad,ae,aj⟩
 ·obtain rfl:cap=len:=by omega
  obtain rfl:cap'=cap:=by omega
  obtain⟨ws,zv,Lg,l2,j8⟩:=ZJ io;have rE:ws.size=z:=by simp[cz,Lg] at ax; exact ax
  have mj:ws.bytes=by_:=by simp[kL,Lg] at dQ; exact dQ
  have dJ:contents h z (.aq z b 0 i cap' (cap'*z))=some ((cs.drop 0).take (i*z),i) :=by simp[contents,ag]
  obtain⟨cS,_,fS,iB,yE⟩:=vT (P:=P) rel dJ (aO.aq z b 0 i cap' (cap'*z) cap' cs m ag hm (by omega) (by omega) (.inr ⟨by omega,aun _,by simpa using Az⟩));have DJ:=yE i (aun _) w.drew (fun _=>rfl);rw[aul (by rw[iB.1,cS]; exact aun _)] at DJ;rw[avx] at iB cS;have UQ:(cap'+1)*ws.bytes<=cw:=by rw[mj]; exact dL
  have rn:i+(cap'+1 - i)=cap'+1:=by omega
  have aqc:(cap'+1 - i)*ws.bytes<=(cap'+1)*ws.bytes:=aup _ (by omega);have j1:=Lib.run_append_grow_zeros w T I T e ws zv .i64 .i64 L.zp L.am3 Lg l2 (some ⟨m.r,m.s+0,none⟩) i cap' fS (by rw[rE]; exact DJ) (cap'+1 - i) (by omega) (by omega) (by omega) (by omega) (by unfold cw at UQ; omega)
   (by rw[rn]; have:=growslice_fits (old:=cap') (need:=cap'+1) (by omega) UQ; omega)
  rw[rn] at j1;obtain⟨sh,Td⟩:∃ sh,sh=grownCap w (cap'+1) cap' e:=⟨_,rfl⟩
  have Tf:cap'+1<=sh:=by rw[Td]; exact grownCap_ge w _ _ _
  rw[<-Td] at j1;obtain⟨ROW,Gt⟩:∃ ROW:Array Value,ROW=fS.toArray++Builtin.zeroCells zv.cells (cap'+1 - i)++Builtin.zeroCells zv.cells (sh - (cap'+1)) :=⟨_,rfl⟩
  rw[<-Gt] at j1;have ap5:(cap'+1)*z<=ROW.size:=by
   have aP:i*z+(cap'+1 - i)*z=(cap'+1)*z:=by rw[<-au8]; congr 1
   rw[Gt];simp only[aw5,aw6,Builtin.zeroCells];simp[j8,iB.1];omega
  have du:(cs.take (i*z)).length=i*z:=by rw[auA]; omega
  obtain⟨o4,nZ⟩:=rel.push (w':=w.drew.alloc (.cells ROW e)) (cs.take (i*z)) ROW e rfl rfl rfl rfl (by omega) (fun j c ai=>by
   obtain⟨v,aK,aU,a1⟩:=iB.2 j c ai;refine⟨v,?_,aU,a1⟩;have aL:j<fS.length:=(auk.1 aK).1;rw[Gt,awy,avw (by simpa using aL)];simpa using aK)
  rw[du] at o4 nZ;have GL:b≠h.n:=by omega
  have aqg:=rel.nu sJ;have TE:ih≠h.n:=by omega
  have nL:(bB μ h.n (some ⟨w.heap.size,0,ROW.size⟩)) h.n=some ⟨w.heap.size,0,ROW.size⟩:=hP _ _ _;have afR:(bB μ h.n (some ⟨w.heap.size,0,ROW.size⟩)) ih=some fR:=by rw[b2 _ _ _ _ TE]; exact sJ
  have afL:(bB μ h.n (some ⟨w.heap.size,0,ROW.size⟩)) b=some m:=by rw[b2 _ _ _ _ GL]; exact hm
  have aeg:(h.push (.cells (i*z) (cs.take (i*z)))).f h.n=.cells (i*z) (cs.take (i*z)) :=by rw[er,hP]
  have aei:(h.push (.cells (i*z) (cs.take (i*z)))).f ih=.cells z vs:=by rw[er,b2 _ _ _ _ TE]; exact lm
  obtain⟨H3,Hy,Lw⟩:=HY (P:=P) nZ (o:=0) (n:=z) aei afR (by omega);rw[m7] at Hy;obtain⟨cG,qb,oq,mD⟩:=FZ (P:=P) (t:=T) (u:=T) (ty:=I) nZ L.zp ax (k:=i*z) aeg nL (aun _) (dLen:=cap'+1 - i) (dc:=sh - i) (sLen:=1) (sc:=ev) (cnt:=1)
   (by simp only[axp]; split<;>omega) (by omega) (by rw[awI]; exact Lw) Hy (by simp only; omega)
  have uD:max (i*z) (i*z+1*z)=(i+1)*z:=by omega
  rw[uD] at oq mD;obtain⟨acF,XK⟩:=NM mD (w':=cG.drew) (PT cG);have aeh:((h.push (.cells (i*z) (cs.take (i*z)))).set h.n (.cells ((i+1)*z) (a8 (cs.take (i*z)) (i*z) vs))).f h.n=.cells ((i+1)*z) (a8 (cs.take (i*z)) (i*z) vs) :=by rw[dZ,hP]
  have TC:((h.push (.cells (i*z) (cs.take (i*z)))).set h.n (.cells ((i+1)*z) (a8 (cs.take (i*z)) (i*z) vs))).f b=.cells (cap'*z) cs:=by rw[dZ,b2 _ _ _ _ GL,er,b2 _ _ _ _ GL]; exact ag
  obtain⟨ci,Hz,Lx⟩:=HY (P:=P) XK (o:=i*z) (n:=(cap' - i)*z) TC afL (by omega);obtain⟨dP,qc,o5,r4⟩:=FZ (P:=P) (t:=T) (u:=T) (ty:=I) XK L.zp ax (k:=(i+1)*z) aeh nL (aun _) (dLen:=cap' - i) (dc:=sh - (i+1)) (sLen:=cap' - i) (sc:=cap' - i) (cnt:=cap' - i)
   (by simp only[axp]; split<;>omega) KJ Lx Hz (by simp only; omega)
  have AN:max ((i+1)*z) ((i+1)*z+(cap' - i)*z)=(cap'+1)*z:=by omega
  rw[AN,ahC iL Dv (by omega)] at o5 r4;simp only[avz] at qb qc;have sP:max cap' (cap'+1)=cap'+1:=by omega
  rw[sP];refine (L.grow m.r (m.s+0) cap' cap' i fR.r (fR.s+0) ev w.heap.size sh _ _ w _ cG dP Dv (aun _) (by omega) Tf uf ?_ qb qc).mono ?_
  ·have:(cap' : Int)+1 - (i:Int)=((cap'+1 - i:Nat) :Int) :=by omega
   rw[this];exact j1
  rintro x w2 ⟨rfl,rfl⟩;have ar:=r4.kill (b:=b) (sz:=cap'*z) (cs:=cs) (h':=(h.set b .dead).push (.cells ((cap'+1)*z) (oI z cs vs i cap'))) (by rw[dZ,b2 _ _ _ _ GL]; exact TC) (by rw[e7,e7,fx]; omega) (by
   rw[er,dZ,e7,dZ,dZ,er];funext y;simp only[bB];by_cases ad:y=h.n
   ·rw[if_pos ad,if_neg (by omega),if_pos ad]
   ·rw[if_neg ad];split
    ·rfl
    ·simp[ad]) (by rw[fx,e7,e7,e7,fx])
  refine⟨_,_,rfl,(((o4.trans oq).trans acF).trans o5).trans ar.1,ar.2,?_⟩;have:=aO.aq (w:=w2) (R:=R) (h:=(h.set b .dead).push (.cells ((cap'+1)*z) (oI z cs vs i cap'))) (μ:=bB μ h.n (some ⟨w.heap.size,0,ROW.size⟩)) z h.n 0 (cap'+1) (cap'+1) ((cap'+1)*z) sh (oI z cs vs i cap') ⟨w.heap.size,0,ROW.size⟩ (by rw[er,e7,hP]) (by simp) (aun _) (by omega) (.inr ⟨by omega,Tf,by
   simp only;have aP:i*z+(cap'+1 - i)*z=(cap'+1)*z:=by rw[<-au8]; congr 1
   have bw:(cap'+1)*z+(sh - (cap'+1))*z=sh*z:=by rw[<-au8]; congr 1; omega
   rw[Gt];simp only[aw5,aw6,Builtin.zeroCells];simp[j8,iB.1];omega⟩)
  simpa using this
theorem ahw {f T I e z by_:Nat} (L:BU P f T I e z) (dI:i3 P T=some e) (ax:cz P e=some z) (dQ:kL P e=some by_) (rz:0<z) (yd:0<by_) (io:tx P e=some z)
  {ih:Nat} {vs:List U} (lm:h.f ih=.cells z vs) (dL:by_<=cw) :
  qS P G f [.aH,.int .i64 0,.aq z ih 0 1 1 z] h (.aq z h.n 0 1 1 z) (h.push (.cells z vs)) :=by
 intro R B w μ eR rel x4 al ap;obtain⟨qO⟩:=eR
 match qO,al with
 | [tu,ch,bU],_=>
 have ia:=ap 0 _ tu rfl rfl;have m7:=ap 1 _ ch rfl rfl;have gh:=ap 2 _ bU rfl rfl;have L9:=gh;cases m7;have agS:=ia;cases ia;have LD:Bg P T:=⟨_,L.zp,fun k ar=>by cases ar⟩
 cases gh with
 | hI _ _ _ _ _ _ _ _ _ _ aw=>
  exfalso;rcases aw with aw | ⟨hH,cs',aw,aL⟩
  ·rw[lm] at aw; cases aw
  ·rw[lm] at aw; cases aw; omega
 | aq _ _ _ _ _ _ ev anp fR aes sJ qi DL jK=>
 have Dg:=rel.blk ih fR sJ;rw[lm] at Dg;obtain⟨iL,_⟩:=Dg;have aC:so P h T .aH (.aq z ih 0 1 1 z)=some (.aq z h.n 0 1 1 z,h.push (.cells z vs)) :=by
  have m7:(vs.drop 0).take (1*z)=vs:=by rw[avx,awI,aul (by omega)]
  unfold so;rw[dI];simp only[ax,dQ,contents,lm,and_self,if_true,m7];unfold vy;rw[if_neg (by omega),if_neg (by rw[io]; simp; omega)];simp only[awI,dL,if_true]
 obtain⟨v,bL,g5,fQ,yj,LX,uF⟩:=JI (P:=P) (ty:=T) (u:=T) rel LD aC agS L9;refine (L.fin none 0 0 ev fR.r (fR.s+0) v w bL (aun _) (by omega) (fun _=>⟨rfl,rfl⟩) fQ).mono ?_;rintro x w2 ⟨rfl,rfl⟩;exact⟨v,g5,rfl,yj,LX,uF⟩
theorem Vj {f T I e z by_:Nat} (L:BU P f T I e z) (dI:i3 P T=some e) (ax:cz P e=some z) (dQ:kL P e=some by_) (rz:0<z) (yd:0<by_) (io:tx P e=some z)
  (args:List U) (h:aN) (r:U) (h' : aN) (af:sY z by_ args h=some (r,h')) :qS P G f args h r h':=by
 unfold sY at af;split at af
 ·rename_i s x y;split at af
  ·rename_i i fV ih gI bj b9 hX uG;have Mh:x=.int .i64 i:=by
    unfold PF at uG;split at uG
    ·split at uG
     ·cases uG; rfl
     ·cases uG
    ·cases uG
   subst Mh;split at af
   ·rename_i ej vs lm;split at af
    ·rename_i ah;obtain⟨rfl,rfl,rfl,rfl,rfl,rfl,aI⟩:=ah;obtain⟨k,rfl⟩:=avr aI;rw[auS] at af;unfold D6 at af;cases s<;>simp only at af<;>try (cases af; done)
     case aH=>
      split at af
      ·rename_i ah;obtain⟨rfl,az⟩:=ah;cases af;exact ahw L dI ax dQ rz yd io lm az
      ·cases af
     case aq gw b off len cap sz=>
      cases ag:h.f b<;>rw[ag] at af<;>(try simp only at af)<;>try (cases af; done)
      split at af
      ·rename_i ah;obtain⟨rfl,rfl,rfl,rfl,bP,ay,qf,az⟩:=ah;cases af;exact ahx L dI ax dQ rz yd io ag lm bP ay qf az
      ·cases af
    ·cases af
   ·cases af
  ·cases af
 ·cases af
end

end Go.b0

namespace Go.b0
open Go
section
variable (P:Program)
abbrev pP:=List (List Nat)
def Yy (ops:Array Oper) (o:Oper) (i:Nat) (h1:List Nat) (cd:Bool) :dn:=
 let g:=match o.guard with | none=>none | some gd=>some (match ops[gd.1]? with | some dw=>dw.dst | none=>none,gd.2)
 match ny P o.op with
 | some m=>⟨i,o.dst,g,.gH m,h1,cd⟩
 | none=>match o.op with
  | .call c=>match c.callee with
   | .value (.func f)=>⟨i,o.dst,g,.mP f c.args.toList,h1,cd⟩
   | .value x=>⟨i,o.dst,g,.mQ x c.args.toList,h1,cd⟩
   | .invoke x name=>⟨i,o.dst,g,.oj x name c.args.toList,h1,cd⟩
   | _=>⟨i,none,none,.gH .stop,[],false⟩
  | _=>⟨i,none,none,.gH .stop,[],false⟩
def YB (ops:Array Oper) :List Oper->Nat->List dn
 | [],_=>[]
 | o::r,i=>Yy P ops o i [] false::YB ops r (i+1)
def Vh (i:Nat) :List Nat->Bool
 | []=>false
 | x::r=>match Nat.beq i x with | true=>true | false=>Vh i r
def VV (i:Nat) :pP->Bool
 | []=>false
 | p::r=>match Vh i p.tail with | true=>true | false=>VV i r
def Pr:pP->Bool
 | []=>false
 | p::r=>match p.tail with | []=>Pr r | _=>true
def On (ops:Array Oper) (q:pP) (n:Nat) :pP->List dn
 | []=>YB P ops (ops.toList.drop n) n
 | p::r=>(match p with
  | []=>⟨0,none,none,.gH .stop,[],false⟩
  | i::c=>match ops[i]? with | some o=>Yy P ops o i c (VV i q) | none=>⟨0,none,none,.gH .stop,[],false⟩) ::On ops q n r
def NL (ops:Array Oper) (p:pP) :fB:=match Pr p with
 | true=>.xW (On P ops p p.length p)
 | false=>.lz (On P ops p p.length p)
def amf (a b:fB) :fB:=match a with
 | .skip=>b
 | a=>match b with
  | .skip=>a
  | b=>.seq a b
def wG:Code->List pP->fB × List pP
 | .skip,p=>(.skip,p)
 | .label _,p=>(.skip,p)
 | .ret,p=>(.ret,p)
 | .exit id,p=>(.exit id,p)
 | .region _ ops true,p=>match p with
  | []=>(NL P ops [],[])
  | x::p=>(NL P ops x,p)
 | .region _ ops false,p=>(NL P ops [],p)
 | .seq a b,p=>match wG a p with | (a,p)=>match wG b p with | (b,p)=>(amf a b,p)
 | .cond c a b,p=>match wG a p with | (a,p)=>match wG b p with | (b,p)=>(.cond c a b,p)
 | .block id c,p=>match wG c p with | (c,p)=>(.block id c,p)
 | .loop c,p=>match wG c p with | (c,p)=>(.loop c,p)
 | .scope c,p=>wG c p
 | _,p=>(.skip,p)
def wH (fn:Func) (p:List pP) :fB:=match fn.body with
 | some c=>(wG P c p).1
 | none=>.skip
def uS:List ResultVar->List da
 | []=>[]
 | x::r=>(match J5 P x with | some m=>m | none=>.stop) ::uS r
end
theorem ID (x:U) (t:List U) :x::x::x::x::x::x::x::x::x::x::x::x::x::x::x::x::x::x::x::x::x::x::x::x::x::x::x::x::x::x::x::x::t=rep 32 x++t:=rfl
theorem IE (x:U) (t:List U) :rep 32 x++(rep 32 x++t)=rep 64 x++t:=rfl
theorem adg {P:Program} {f:FuncId} {fn:Func} (aE:P.funcs[f]? = some fn) (p:List pP) {c:fB} {ms:List da}
  (ah:wH P fn p=c:=by conv=>lhs; (cbv; try simp only[ID,IE,auV]))
  (az:uS P fn.results.toList=ms:=by conv=>lhs; cbv)
  (ar:(vP P f,vQ P f)=(some (wH P fn p),some (uS P fn.results.toList)) :=by kernel_rfl)
  {G:Nat->U} {args:List U} {l:ao} {K:tE} (h:run P G c (lG args) l (Ei P G ms K.k)) :c0 P G f args l (c:=K) :=by
 rw[ah,az] at ar;exact FS (Prod.mk.inj ar).1 (Prod.mk.inj ar).2 h
theorem bq {P:Program} {f:FuncId} {fn:Func} (aE:P.funcs[f]? = some fn) (p:List pP) {T:Tables} {F:Array Func} {c:fB} {ms:List da} (dI:P=⟨T,F⟩:=by rfl)
  (ah:wH ⟨T,#[]⟩ fn p=c:=by conv=>lhs; (cbv; try simp only[ID,IE,auV]))
  (az:uS ⟨T,#[]⟩ fn.results.toList=ms:=by conv=>lhs; cbv)
  (ar:(vP P f,vQ P f)=(some (wH ⟨T,#[]⟩ fn p),some (uS ⟨T,#[]⟩ fn.results.toList)) :=by kernel_rfl)
  {G:Nat->U} {args:List U} {l:ao} {K:tE} (h:run P G c (lG args) l (Ei P G ms K.k)) :c0 P G f args l (c:=K) :=by
 rw[ah,az] at ar;exact FS (Prod.mk.inj ar).1 (Prod.mk.inj ar).2 h
def adf {P:Program} {f:FuncId} {fn:Func} (aE:P.funcs[f]? = some fn) (p:List pP) {c:fB} {ms:List da}
  (ah:wH P fn p=c:=by conv=>lhs; (cbv; try simp only[ID,IE,auV]))
  (az:uS P fn.results.toList=ms:=by conv=>lhs; cbv)
  (ar:(vP P f,vQ P f)=(some (wH P fn p),some (uS P fn.results.toList)) :=by kernel_rfl) :{x:fB × List da // Fy P f x}:=
 ⟨(c,ms),by rw[ah,az] at ar; exact⟨(Prod.mk.inj ar).1,(Prod.mk.inj ar).2⟩⟩
def cv {P:Program} {f:FuncId} {fn:Func} (aE:P.funcs[f]? = some fn) (p:List pP) {T:Tables} {F:Array Func} {c:fB} {ms:List da} (dI:P=⟨T,F⟩:=by rfl)
  (ah:wH ⟨T,#[]⟩ fn p=c:=by conv=>lhs; (cbv; try simp only[ID,IE,auV]))
  (az:uS ⟨T,#[]⟩ fn.results.toList=ms:=by conv=>lhs; cbv)
  (ar:(vP P f,vQ P f)=(some (wH ⟨T,#[]⟩ fn p),some (uS ⟨T,#[]⟩ fn.results.toList)) :=by kernel_rfl) :{x:fB × List da // Fy P f x}:=
 ⟨(c,ms),by rw[ah,az] at ar; exact⟨(Prod.mk.inj ar).1,(Prod.mk.inj ar).2⟩⟩
end Go.b0

namespace Go.b0
open Go Go.Proofs
set_option maxRecDepth 100000
set_option maxHeartbeats 8000000
noncomputable def Qh:=cv Tryz.func11 []
noncomputable def Qv:=cv Tryz.func13 []
noncomputable def FQ:=cv Tryz.func15 []
noncomputable def QI:=cv Tryz.func17 []
noncomputable def QP:=cv Tryz.func19 []
noncomputable def QR:=cv Tryz.func21 []
noncomputable def QS:=cv Tryz.func24 [[[0],[1],[2],[3,2,1]],[[0],[1],[2],[3],[4],[5,2]]]
noncomputable def QT:=cv Tryz.func25 []
noncomputable def QU:=cv Tryz.func26 []
noncomputable def QV:=cv Tryz.func27 []
noncomputable def QW:=cv Tryz.func28 []
noncomputable def QX:=cv Tryz.func29 [[[0],[1],[2],[3],[4],[5],[6],[7],[8],[9],[10],[11],[12],[13],[14],[15,11,9,7,5],[16,11,9]]]
noncomputable def QY:=cv Tryz.func33 []
noncomputable def QZ:=cv Tryz.func34 [[[0],[1],[2],[3],[4,2]]]
noncomputable def Q0:=cv Tryz.func35 []
noncomputable def Q1:=cv Tryz.func36 [[[0],[1],[2],[3,2]],[[0],[1],[2],[3,2]]]
noncomputable def Q2:=cv Tryz.func38 []
noncomputable def Q4:=cv Tryz.func43 []
noncomputable def Q5:=cv Tryz.func46 []
noncomputable def Q6:=cv Tryz.func48 []
noncomputable def Q8:=cv Tryz.func53 []
noncomputable def Q9:=cv Tryz.func54 []
noncomputable def Ra:=cv Tryz.func55 []
noncomputable def Rb:=cv Tryz.func56 [[[0],[1],[2],[3],[4],[6],[5,0]]]
noncomputable def Rd:=cv Tryz.func60 []
noncomputable def Re:=cv Tryz.func61 []
noncomputable def Rf:=cv Tryz.func62 []
noncomputable def Rg:=cv Tryz.func63 []
noncomputable def Rh:=cv Tryz.func64 [[[0],[1],[2],[3],[4],[5],[6],[7],[8],[9,1]]]
noncomputable def Ri:=cv Tryz.func65 []
noncomputable def Rj:=cv Tryz.func66 []
noncomputable def Rk:=cv Tryz.func67 []
noncomputable def Rl:=cv Tryz.func68 []
noncomputable def Rm:=cv Tryz.func69 []
noncomputable def Rn:=cv Tryz.func71 []
noncomputable def Ro:=cv Tryz.func72 []
noncomputable def Rp:=cv Tryz.func75 []
noncomputable def Rq:=cv Tryz.func76 []
noncomputable def Rr:=cv Tryz.func78 []
noncomputable def Rs:=cv Tryz.func80 []
noncomputable def Rt:=cv Tryz.func81 []
noncomputable def Ru:=cv Tryz.func82 [[[0],[1],[2],[3],[5],[6],[7],[9],[10],[11],[12],[4,12,11,7,0],[8,12,11,0]]]
noncomputable def Rv:=cv Tryz.func83 []
noncomputable def Rw:=cv Tryz.func84 [[[0],[1],[2],[3],[4],[6],[7],[8],[9],[5,9,8]]]
noncomputable def Rx:=cv Tryz.func86 []
noncomputable def Ry:=cv Tryz.func88 [[[0],[1],[2],[4],[5],[3,5],[7],[8],[6]],[[0],[1],[2],[3],[4],[5],[7],[8],[9],[10],[6,10]],[[0],[1],[2],[3],[4],[5],[6],[7],[8],[9],[10],[11],[12],[13,3]]]
noncomputable def Rz:=cv Tryz.func89 [[[0],[1],[2],[3,1]],[[0],[1],[2],[3],[4],[5],[6],[7],[8],[10],[11],[12],[13],[14],[15],[16],[9,16,15,13]],[[0],[1],[2,1]]]
noncomputable def RA:=cv Tryz.func93 []
noncomputable def RB:=cv Tryz.func94 []
noncomputable def RC:=cv Tryz.func95 []
noncomputable def RD:=cv Tryz.func96 []
noncomputable def RE:=cv Tryz.func97 []
noncomputable def RF:=cv Tryz.func98 []
noncomputable def RG:=cv Tryz.func99 [[[0],[1],[2],[3],[4],[5],[6],[10],[11],[12],[7,11],[8,11],[9]]]
noncomputable def Qb:=cv Tryz.func100 []
noncomputable def Qc:=cv Tryz.func101 []
noncomputable def Qd:=adf Tryz.func104 []
noncomputable def Qe:=cv Tryz.func107 []
noncomputable def Qf:=cv Tryz.func108 []
noncomputable def Qg:=cv Tryz.func109 []
noncomputable def Qi:=cv Tryz.func110 []
noncomputable def Qj:=cv Tryz.func111 []
noncomputable def Qk:=cv Tryz.func114 []
noncomputable def Ql:=cv Tryz.func115 []
noncomputable def Qm:=cv Tryz.func116 []
noncomputable def Qn:=cv Tryz.func117 []
noncomputable def Qo:=cv Tryz.func120 []
noncomputable def Qp:=cv Tryz.func121 []
noncomputable def Qq:=cv Tryz.func122 []
noncomputable def Qr:=cv Tryz.func123 []
noncomputable def Qs:=cv Tryz.func124 []
noncomputable def Qt:=cv Tryz.func125 [[[0],[1],[3],[4],[7],[2,7,4],[5,7],[6]],[[0],[1],[2],[3],[4],[5],[6],[7],[8],[9,1]]]
noncomputable def Qu:=cv Tryz.func128 []
noncomputable def Qw:=cv Tryz.func134 []
noncomputable def Qx:=cv Tryz.func135 []
noncomputable def Qy:=cv Tryz.func136 []
noncomputable def Qz:=cv Tryz.func137 []
noncomputable def QA:=cv Tryz.func138 []
noncomputable def QB:=cv Tryz.func139 []
noncomputable def QC:=cv Tryz.func149 []
noncomputable def QD:=cv Tryz.func152 []
noncomputable def QE:=cv Tryz.func153 []
noncomputable def QF:=cv Tryz.func156 []
noncomputable def QG:=cv Tryz.func157 []
noncomputable def QH:=cv Tryz.func164 []
noncomputable def QJ:=cv Tryz.func175 [[[0],[1],[3],[2,3]]]
noncomputable def QK:=cv Tryz.func176 [[],[],[[0],[1],[2],[3],[4],[5],[6],[7],[8],[9],[10],[11],[12],[13],[14],[16],[17],[18],[19],[20],[21],[22],[23],[24],[25],[26],[27],[28],[29],[30],[15,30,29,27,23,19,17],[32],[31]]]
noncomputable def QL:=cv Tryz.func177 []
noncomputable def QM:=cv Tryz.func178 []
noncomputable def QN:=cv Tryz.func180 []
noncomputable def QO:=cv Tryz.func187 []
noncomputable def QQ:=cv Tryz.func206 []
noncomputable def YS:cC (fB × List da) :=(.node (.node (.node (.node (.node (.node (.node .nil (some Rg.1) .nil) none (.node .nil (some RC.1) .nil)) (some FQ.1) (.node .nil none (.node (.node .nil (some QJ.1) .nil) (some Qj.1) .nil))) none (.node (.node (.node (.node .nil (some Qx.1) .nil) (some Rn.1) .nil) none .nil) none (.node .nil (some Ra.1) .nil))) none (.node (.node (.node (.node .nil (some Rk.1) .nil) (some Q0.1) (.node .nil (some RG.1) .nil)) (some QP.1) (.node (.node .nil (some Rv.1) .nil) none (.node .nil (some Ql.1) .nil))) (some Qh.1) (.node (.node (.node (.node .nil (some QB.1) .nil) (some Rp.1) .nil) (some Q4.1) (.node .nil (some Qe.1) .nil)) (some QV.1) (.node .nil none (.node (.node .nil (some QO.1) .nil) (some Qr.1) .nil))))) none (.node (.node (.node (.node (.node .nil (some Ri.1) .nil) (some QY.1) (.node .nil (some RE.1) .nil)) (some QI.1) (.node (.node .nil (some Rt.1) .nil) none (.node (.node .nil (some QL.1) .nil) none .nil))) none (.node (.node (.node (.node .nil (some Qz.1) .nil) none .nil) none .nil) (some QT.1) (.node (.node (.node .nil (some QE.1) .nil) (some Rz.1) .nil) none (.node .nil (some Qp.1) .nil)))) none (.node (.node (.node (.node .nil (some Rm.1) .nil) none (.node .nil (some Qc.1) .nil)) (some QR.1) (.node (.node (.node .nil (some QC.1) .nil) none .nil) (some Q8.1) (.node .nil (some Qn.1) .nil))) (some Qv.1) (.node (.node .nil none (.node .nil (some Qg.1) .nil)) (some QX.1) (.node (.node (.node .nil (some QG.1) .nil) (some RA.1) .nil) (some Re.1) (.node .nil (some Qt.1) .nil)))))) none (.node (.node (.node (.node (.node (.node (.node .nil (some Qu.1) .nil) (some Rh.1) .nil) none (.node .nil (some RD.1) .nil)) none (.node (.node .nil (some Rs.1) .nil) (some Q6.1) (.node (.node .nil (some QK.1) .nil) none .nil))) none (.node (.node (.node (.node .nil (some Qy.1) .nil) (some Ro.1) .nil) none (.node .nil (some Qd.1) .nil)) (some QS.1) (.node (.node (.node .nil (some QD.1) .nil) (some Ry.1) .nil) (some Rb.1) (.node .nil (some Qo.1) .nil)))) none (.node (.node (.node (.node .nil (some Rl.1) .nil) (some Q1.1) (.node (.node .nil (some QH.1) .nil) (some Qb.1) .nil)) none (.node (.node .nil (some Rw.1) .nil) none (.node (.node .nil (some QN.1) .nil) (some Qm.1) .nil))) none (.node (.node (.node .nil (some Rq.1) .nil) none (.node .nil (some Qf.1) .nil)) (some QW.1) (.node (.node (.node .nil (some QF.1) .nil) none .nil) (some Rd.1) (.node .nil (some Qs.1) .nil))))) none (.node (.node (.node (.node (.node .nil (some Rj.1) .nil) (some QZ.1) (.node .nil (some RF.1) .nil)) none (.node (.node .nil (some Ru.1) .nil) none (.node (.node .nil (some QM.1) .nil) (some Qk.1) .nil))) none (.node (.node (.node (.node .nil (some QA.1) .nil) none .nil) none .nil) (some QU.1) (.node .nil none (.node .nil (some Qq.1) .nil)))) none (.node (.node (.node (.node (.node .nil (some Qw.1) .nil) none .nil) (some Q2.1) .nil) none (.node (.node .nil (some Rx.1) .nil) (some Q9.1) .nil)) none (.node (.node (.node .nil (some Rr.1) (.node .nil (some QQ.1) .nil)) (some Q5.1) (.node .nil (some Qi.1) .nil)) none (.node (.node .nil (some RB.1) .nil) (some Rf.1) .nil))))))
theorem amB:pM (Fy Tryz.prog) YS:=(ft (ft (ft (ft (cq FQ.2 (ft (cq Rg.2 bH bH) (cq RC.2 bH bH)) (ft bH (cq Qj.2 (cq QJ.2 bH bH) bH))) (ft (ft (cq Rn.2 (cq Qx.2 bH bH) bH) bH) (cq Ra.2 bH bH))) (cq Qh.2 (cq QP.2 (cq Q0.2 (cq Rk.2 bH bH) (cq RG.2 bH bH)) (ft (cq Rv.2 bH bH) (cq Ql.2 bH bH))) (cq QV.2 (cq Q4.2 (cq Rp.2 (cq QB.2 bH bH) bH) (cq Qe.2 bH bH)) (ft bH (cq Qr.2 (cq QO.2 bH bH) bH))))) (ft (ft (cq QI.2 (cq QY.2 (cq Ri.2 bH bH) (cq RE.2 bH bH)) (ft (cq Rt.2 bH bH) (ft (cq QL.2 bH bH) bH))) (cq QT.2 (ft (ft (cq Qz.2 bH bH) bH) bH) (ft (cq Rz.2 (cq QE.2 bH bH) bH) (cq Qp.2 bH bH)))) (cq Qv.2 (cq QR.2 (ft (cq Rm.2 bH bH) (cq Qc.2 bH bH)) (cq Q8.2 (ft (cq QC.2 bH bH) bH) (cq Qn.2 bH bH))) (cq QX.2 (ft bH (cq Qg.2 bH bH)) (cq Re.2 (cq RA.2 (cq QG.2 bH bH) bH) (cq Qt.2 bH bH)))))) (ft (ft (ft (ft (ft (cq Rh.2 (cq Qu.2 bH bH) bH) (cq RD.2 bH bH)) (cq Q6.2 (cq Rs.2 bH bH) (ft (cq QK.2 bH bH) bH))) (cq QS.2 (ft (cq Ro.2 (cq Qy.2 bH bH) bH) (cq Qd.2 bH bH)) (cq Rb.2 (cq Ry.2 (cq QD.2 bH bH) bH) (cq Qo.2 bH bH)))) (ft (ft (cq Q1.2 (cq Rl.2 bH bH) (cq Qb.2 (cq QH.2 bH bH) bH)) (ft (cq Rw.2 bH bH) (cq Qm.2 (cq QN.2 bH bH) bH))) (cq QW.2 (ft (cq Rq.2 bH bH) (cq Qf.2 bH bH)) (cq Rd.2 (ft (cq QF.2 bH bH) bH) (cq Qs.2 bH bH))))) (ft (ft (ft (cq QZ.2 (cq Rj.2 bH bH) (cq RF.2 bH bH)) (ft (cq Ru.2 bH bH) (cq Qk.2 (cq QM.2 bH bH) bH))) (cq QU.2 (ft (ft (cq QA.2 bH bH) bH) bH) (ft bH (cq Qq.2 bH bH)))) (ft (ft (cq Q2.2 (ft (cq Qw.2 bH bH) bH) bH) (cq Q9.2 (cq Rx.2 bH bH) bH)) (ft (cq Q5.2 (cq Rr.2 bH (cq QQ.2 bH bH)) (cq Qi.2 bH bH)) (cq Rf.2 (cq RB.2 bH bH) bH))))))
theorem kG:B2 Tryz.prog (fun f=>YS.get f) :=amA amB
end Go.b0

namespace Go.b0
open Go
namespace hl
abbrev W:=BitVec 32
abbrev B:=BitVec 8
def n0 (x:W) (n:Nat) :W:=(x >>> n) ||| (x <<< (32 - n))
def pK (l:List B) :W:=l.foldl (fun a x=>(a <<< 8) ||| x.setWidth 32) 0#32
def part (b:List B) (k t:Nat) :W:=pK (((b.take k).drop (4*t)).take 4)
def fz (b:List B) :List W:=(List.range 16).map fun t=>pK ((b.drop (4*t)).take 4)
def ext (w:List W) :W:=
 let t:=w.length
 let x:=w.getD (t - 15) 0#32
 let y:=w.getD (t - 2) 0#32
 w.getD (t - 16) 0#32+w.getD (t - 7) 0#32+(n0 x 7 ^^^ n0 x 18 ^^^ (x >>> 3))+(n0 y 17 ^^^ n0 y 19 ^^^ (y >>> 10))
def i4:Nat->List W->List W
 | 0,w=>w
 | n+1,w=>i4 n (w++[ext w])
def fL (b:List B) :List W:=i4 48 (fz b)
def M7 (x:W) (i j k:Nat) :W:=n0 x i ^^^ n0 x j ^^^ n0 x k
structure e1 where
 (a b c d e f g h:W)
def round (s:e1) (k w:W) :e1:=
 let p:=s.h+M7 s.e 6 11 25+((s.e &&& s.f) ^^^ (~~~s.e &&& s.g))+k+w
 let q:=M7 s.a 2 13 22+((s.a &&& s.b) ^^^ (s.a &&& s.c) ^^^ (s.b &&& s.c))
 ⟨p+q,s.a,s.b,s.c,s.d+p,s.e,s.f,s.g⟩
def rounds:e1->List W->List W->e1
 | s,k::b8,w::hJ=>rounds (round s k w) b8 hJ
 | s,_,_=>s
def table:List Nat:=[0x428a2f98,0x71374491,0xb5c0fbcf,0xe9b5dba5,0x3956c25b,0x59f111f1,0x923f82a4,0xab1c5ed5,0xd807aa98,0x12835b01,0x243185be,0x550c7dc3,0x72be5d74,0x80deb1fe,0x9bdc06a7,0xc19bf174,0xe49b69c1,0xefbe4786,0x0fc19dc6,0x240ca1cc,0x2de92c6f,0x4a7484aa,0x5cb0a9dc,0x76f988da,0x983e5152,0xa831c66d,0xb00327c8,0xbf597fc7,0xc6e00bf3,0xd5a79147,0x06ca6351,0x14292967,0x27b70a85,0x2e1b2138,0x4d2c6dfc,0x53380d13,0x650a7354,0x766a0abb,0x81c2c92e,0x92722c85,0xa2bfe8a1,0xa81a664b,0xc24b8b70,0xc76c51a3,0xd192e819,0xd6990624,0xf40e3585,0x106aa070,0x19a4c116,0x1e376c08,0x2748774c,0x34b0bcb5,0x391c0cb3,0x4ed8aa4a,0x5b9cca4f,0x682e6ff3,0x748f82ee,0x78a5636f,0x84c87814,0x8cc70208,0x90befffa,0xa4506ceb,0xbef9a3f7,0xc67178f2]
def b8:List W:=table.map (BitVec.ofNat 32)
def grind (h:e1) (b:List B) :e1:=
 let v:=rounds h b8 (fL b)
 ⟨h.a+v.a,h.b+v.b,h.c+v.c,h.d+v.d,h.e+v.e,h.f+v.f,h.g+v.g,h.h+v.h⟩
def JU:Nat->e1->List B->e1 × List B
 | 0,h,b=>(h,b)
 | n+1,h,b=>if 64<=b.length then JU n (grind h (b.take 64)) (b.drop 64) else (h,b)
def h0 (h:e1) (b:List B) :e1 × List B:=JU (b.length / 64) h b
def first:e1:=⟨0x6a09e667#32,0xbb67ae85#32,0x3c6ef372#32,0xa54ff53a#32,0x510e527f#32,0x9b05688c#32,0x1f83d9ab#32,0x5be0cd19#32⟩
def Cf (n:BitVec 64) :List B:=[(n >>> 56).setWidth 8,(n >>> 48).setWidth 8,(n >>> 40).setWidth 8,(n >>> 32).setWidth 8,(n >>> 24).setWidth 8,(n >>> 16).setWidth 8,(n >>> 8).setWidth 8,(n >>> 0).setWidth 8]
def tail (n:Nat) :List B:=128#8::List.replicate ((119 - n % 64) % 64) 0#8++Cf (BitVec.ofNat 64 n*8#64)
def ve (w:W) :List B:=[(w >>> 24).setWidth 8,(w >>> 16).setWidth 8,(w >>> 8).setWidth 8,w.setWidth 8]
def e1.l (s:e1) :List W:=[s.a,s.b,s.c,s.d,s.e,s.f,s.g,s.h]
def written (s:e1) :List B:=(s.l.map ve).flatten
def iU (b:List B) :List B:=written (h0 first (b++tail b.length)).1
theorem anJ (l:List B) (x:B) :pK (l++[x])=(pK l <<< 8) ||| x.setWidth 32:=by simp[pK,awG]
theorem x0:∀ (n:Nat) (w:List W),(i4 n w).length=w.length+n
 | 0,w=>rfl
 | n+1,w=>by rw[i4,x0 n]; simp; omega
theorem E1 (b:List B) :(fL b).length=64:=by rw[fL,x0]; simp[fz]
theorem Je (s:e1) :(written s).length=32:=rfl
theorem xb (b:List B) :(iU b).length=32:=rfl
theorem Kn:∀ (n:Nat) (w:List W),i4 (n+1) w=i4 n w++[ext (i4 n w)]
 | 0,w=>rfl
 | n+1,w=>by rw[i4,Kn n (w++[ext w])]; rfl
theorem IQ (a:W) (x:B) :(a <<< 8) ||| x.setWidth 32=a*256#32+x.setWidth 32:=by
 apply auD;have af:x.toNat<256:=x.isLt;have aC:=a.isLt;rw[BitVec.toNat_or,awm,axd,awb,auE];have ad:x.toNat % 2 ^ 32=x.toNat:=aux (by omega);have ae:a.toNat <<< 8 % 2 ^ 32=(a.toNat % 2 ^ 24) <<< 8:=by rw[avS,avS]; omega
 have aj:=awU (b:=x.toNat) (i:=8) (by omega) (a.toNat % 2 ^ 24);rw[ad,ae,<-aj,avS];have aG:(256#32).toNat=256:=rfl;rw[aG];omega
theorem Cd (h:e1) (b:List B) (ag:64<=b.length) :h0 h b=h0 (grind h (b.take 64)) (b.drop 64) :=by
 have:b.length / 64=(b.drop 64).length / 64+1:=by simp; omega
 rw[h0,this,JU,if_pos ag];rfl
theorem FL (h:e1) (b:List B) (ag:b.length<64) :h0 h b=(h,b) :=by
 rw[h0,axe ag]; rfl
theorem aaR (h:e1) (b:List B) :(h0 h b).2.length=b.length % 64:=by
 generalize aD:b.length=n
 induction n using Nat.strongRecOn generalizing h b with
 | _ n aR=>
  rcases avy b.length 64 with ad | ad
  ·rw[FL h b ad,aux (by omega)]; exact aD
  ·rw[Cd h b ad,aR (b.length - 64) (by omega) _ (b.drop 64) (by simp)];omega
theorem P0 (h:e1) (a b:List B) :h0 h (a++b)=h0 (h0 h a).1 ((h0 h a).2++b) :=by
 generalize aD:a.length=n
 induction n using Nat.strongRecOn generalizing h a with
 | _ n aR=>
  rcases avy a.length 64 with ad | ad
  ·rw[FL h a ad]
  ·rw[Cd h a ad,Cd h (a++b) (by simp; omega),auT ad,avl ad];exact aR (a.length - 64) (by omega) _ (a.drop 64) (by simp)
end hl

end Go.b0

namespace Go.b0
open Go Go.Proofs
def BI:List U:=hl.b8.map bu
def GS:Nat->U:=fun g=>match Nat.beq g 1 with | true=>.bM BI 0 | false=>.bad
theorem bn:∀ g,(GS g).closed=true:=by
 intro g;unfold GS;split
 ·exact mS bu (fun _=>rfl) _
 ·rfl
@[simp]
theorem an8:GS 1=.bM BI 0:=id rfl
theorem amy (i:Nat) (h:i<64) :BI[i]? = some (bu (hl.b8.getD i 0#32)) :=by
 have al:hl.b8.length=64:=rfl;unfold BI;rw[auq,auB,auo (by omega)];rfl
end Go.b0

namespace Go.b0
open Go Go.Proofs
set_option maxRecDepth 100000
namespace hl
def NQ (x:W) (k:Int) :W:=(x <<< (BitVec.ofInt 64 k &&& 31#64).toNat) ||| (x >>> (32#64 - (BitVec.ofInt 64 k &&& 31#64)).toNat)
theorem zf (x:W) (n:Nat) (aI:0<n) (h:n<32) :NQ x (-(n:Int))=n0 x n:=by
 have ad:∀ n:Fin 32,0<n.val->(BitVec.ofInt 64 (-(n.val:Int)) &&& 31#64)=BitVec.ofNat 64 (32 - n.val) :=by decide
 have ae:=ad ⟨n,h⟩ aI;simp only at ae;unfold NQ n0;rw[ae,BitVec.or_comm];congr 2
 ·have:∀ n:Fin 32,0<n.val->(32#64 - BitVec.ofNat 64 (32 - n.val)).toNat=n.val:=by decide
  exact this ⟨n,h⟩ aI
 ·have:∀ n:Fin 32,0<n.val->(BitVec.ofNat 64 (32 - n.val)).toNat=32 - n.val:=by decide
  exact this ⟨n,h⟩ aI
theorem ze (x:W) (k:Int) :bz Tryz.prog GS 230 [bu x,.int .i64 k] (bu (NQ x k)) :=by
 refine bX Tryz.checked.mixed bn ?_;apply bq Tryz.func230 [];simp;exact aQ rfl rfl
theorem Wm (x:W) (i j k:Nat) (ay:0<i/\i<32) (ai:0<j/\j<32) (ar:0<k/\k<32) :bz Tryz.prog GS 213 [bu x,.int .i64 i,.int .i64 j,.int .i64 k] (bu (M7 x i j k)) :=by
 refine bX Tryz.checked.mixed bn ?_;apply bq Tryz.func213 [];have aD:∀ n:Nat,n<32->IntKind.i64.wrap (-(n:Int))=-(n:Int) :=fun n aD=>wrap_i64 (by omega) (by omega)
 simp[aD i ay.2];refine a4 (ze x _) rfl ?_;simp[aD j ai.2];refine a4 (ze x _) rfl ?_;simp[aD k ar.2];refine a4 (ze x _) rfl ?_;simp[zf x _ ay.1 ay.2,zf x _ ai.1 ai.2,zf x _ ar.1 ar.2];exact aQ rfl rfl
def ca (x:B) :List U:=[bA x]
abbrev eZ:=db B
abbrev cD (s:eZ) :U:=cE 1 ca s
theorem mT (s:eZ) :(cD s).closed=true:=Co (fun _=>rfl) s
def pL (b:List B) (k:Nat) :List W:=((List.range 16).map fun t=>pK (((b.take k).drop (4*t)).take 4))++List.replicate 48 0#32
theorem Zt (b:List B) (k:Nat) :(pL b k).length=64:=by simp[pL]
theorem anW (b:List B) :pL b 0=List.replicate 64 0#32:=by simp[pL,pK]; rfl
theorem OP (b:List B) (k t:Nat) (aW:t<16) :(pL b k)[t]? = some (pK (((b.take k).drop (4*t)).take 4)) :=by
 unfold pL;rw[aum (by simpa using aW),auq,auX aW];rfl
theorem anV (b:List B) (k:Nat) (ar:k<64) (ag:k<b.length) (x:B) (af:b[k]? = some x) :
  (pL b k).set (k / 4) ((pK (((b.take k).drop (4*(k / 4))).take 4) <<< 8) ||| x.setWidth 32)=pL b (k+1) :=by
 apply avf;intro t;rw[avv,Zt];have U6:b.take (k+1)=b.take k++[x] :=by rw[auP,af]; rfl
 have bC:(b.take k).length=k:=by simp; omega
 by_cases aW:t<16
 ·rw[OP b _ t aW,OP b _ t aW];by_cases h:k / 4=t
  ·rw[if_pos h,if_pos (by omega),<-anJ,U6,h];congr 2;rw[avl (by omega)];obtain⟨A,du⟩:∃ A,A=List.drop (4*t) (List.take k b) :=⟨_,rfl⟩
   have lj:A.length<4:=by rw[du]; simp; omega
   rw[<-du,aul (by omega),aul (by simp; omega)]
  ·rw[if_neg h,U6];congr 2;rcases avy k (4*t) with ad | ad
   ·rw[au0 (by omega),au0 (by simp; omega)]
   ·rw[avl (by omega),auT (by simp; omega)]
 ·rw[if_neg (by omega)];unfold pL;rw[auJ (by simp; omega),auJ (by simp; omega)];simp
theorem anU (b:List B) (ag:64<=b.length) :pL b 64=fz b++List.replicate 48 0#32:=by
 unfold pL fz;congr 1;apply avO;intro t aW;have:=auZ.1 aW;congr 1;rw[awp,avH,avA (by omega)]
def qE (b:List B) (k:Nat) :List W:=i4 k (fz b)++List.replicate (48 - k) 0#32
theorem alP (b:List B) (k:Nat) (ar:k<=48) :(qE b k).length=64:=by simp[qE,x0,fz]; omega
theorem IL (b:List B) (k i:Nat) (ay:i<16+k) :(qE b k)[i]? = some ((i4 k (fz b)).getD i 0#32) :=by
 unfold qE;have al:(i4 k (fz b)).length=16+k:=by simp[x0,fz]
 rw[aum (by omega),auB,auo (by omega)];rfl
theorem alQ (b:List B) (k:Nat) (ar:k<48) :(qE b k).set (16+k) (ext (i4 k (fz b)))=qE b (k+1) :=by
 have al:(i4 k (fz b)).length=16+k:=by simp[x0,fz]
 unfold qE;rw[avt _ _ (by omega),al,awq,show 48 - k=(48 - (k+1))+1 by omega,avc,awi,Kn];simp
set_option maxHeartbeats 4000000 in
theorem alS (b:List B) (ag:64<=b.length) :bz Tryz.prog GS 212 [cD (some b)] (.aF ((fL b).map bu)) :=by
 refine bX Tryz.checked.mixed bn ?_;apply bq Tryz.func212 [];have bS:fl (.aq 1) (cD (some b)) none (some (.int .i64 64)) none=some (cD (some (b.take 64))) :=by
  unfold cD; rw[Yl (by omega) (by omega)]; rfl
 have yw:min 64 b.length=64:=by omega
 simp[bS,yw];refine cl 64 (fun k σ l=>σ 2=.ptr 0 0 64/\σ 11=cD (some (b.take 64))/\σ 12=.int .i64 64/\σ 13=.int .i64 k/\l=[.cells 64 ((pL b k).map bu)]) ?_ ?_
 ·rintro k σ l ar ⟨aU,jI,lL,lM,rfl⟩;obtain⟨σ,rfl⟩:=iE aU jI lL lM;clear aU jI lL lM;simp;by_cases h:(k:Int)<64
  ·obtain⟨x,af⟩:∃ x,b[k]? = some x:=⟨_,auo (by omega)⟩
   have yO:(b.take 64)[k]? = some x:=by rw[auI (by omega)]; exact af
   have bY:cL (.aq 1) (cD (some (b.take 64))) (.int .i64 k)=some (.bM (ca x) 0) :=by simp[cD,uJ,yO]
   obtain⟨q,LS⟩:∃ q,q=k / 4:=⟨_,rfl⟩
   have a7:ct .quo .i64 (k:Int) .i64 4=some (.int .i64 (q:Int)) :=by rw[LS]; exact JX k 4 (by omega) (by omega)
   have fq:IntKind.i64.wrap ((k:Int)+1)=k+1:=wrap_i64 (by omega) (by omega);have aL:(q:Int)<64:=by omega
   have aw:=OP b k q (by omega);have ak:=pD bu (pL b k) q (((pK (((b.take k).drop (4*q)).take 4) <<< 8) ||| x.setWidth 32)) (by rw[Zt]; omega);rw[LS,anV b k (by omega) (by omega) x af,<-LS] at ak;have dO:q+1<=64:=by omega
   simp[h,bY,ca,a7,aL,aw,dO,fq,ak];omega
  ·have yr:k=64:=by omega
   subst yr;simp;refine cl 48 (fun j σ l=>σ 2=.ptr 0 0 64/\σ 5=.int .i64 (16+j:Nat)/\l=[.cells 64 ((qE b j).map bu)]) ?_ ?_
   ·rintro j σ l ai ⟨aU,bo,rfl⟩;obtain⟨σ,rfl⟩:=pG aU bo;clear aU bo;obtain⟨t,aW⟩:∃ t,t=16+j:=⟨_,rfl⟩
    rw[<-aW];simp;by_cases h:(t:Int)<64
    ·have oG:IntKind.i64.wrap ((t:Int)+1)=(t+1:Nat) :=wrap_i64 (by omega) (by omega);have I7:IntKind.i64.wrap ((t:Int) - 15)=(t - 15:Nat) :=by rw[wrap_i64 (by omega) (by omega)]; omega
     have w2:IntKind.i64.wrap ((t:Int) - 2)=(t - 2:Nat) :=by rw[wrap_i64 (by omega) (by omega)]; omega
     have I8:IntKind.i64.wrap ((t:Int) - 16)=(t - 16:Nat) :=by rw[wrap_i64 (by omega) (by omega)]; omega
     have Fh:IntKind.i64.wrap ((t:Int) - 7)=(t - 7:Nat) :=by rw[wrap_i64 (by omega) (by omega)]; omega
     have al:(i4 j (fz b)).length=t:=by simp[x0,fz]; omega
     have tW:=IL b j (t - 15) (by omega);have aU:=IL b j (t - 2) (by omega);have Ac:=IL b j (t - 16) (by omega);have dU:=IL b j (t - 7) (by omega);have ak:=pD bu (qE b j) t (ext (i4 j (fz b))) (by rw[alP b j (by omega)]; omega);rw[aW,alQ b j (by omega),<-aW] at ak;unfold ext at ak;rw[al] at ak
     dsimp only at ak
     obtain⟨wv,Ke⟩:∃ i,i=t - 15:=⟨_,rfl⟩
     obtain⟨dX,bw⟩:∃ i,i=t - 2:=⟨_,rfl⟩
     obtain⟨ww,F3⟩:∃ i,i=t - 16:=⟨_,rfl⟩
     obtain⟨iM,vX⟩:∃ i,i=t - 7:=⟨_,rfl⟩
     rw[<-Ke] at I7 tW ak;rw[<-bw] at w2 aU ak;rw[<-F3] at I8 Ac ak;rw[<-vX] at Fh dU ak;have JM:(wv:Int)<64:=by omega
     have dx:(dX:Int)<64:=by omega
     have JN:(ww:Int)<64:=by omega
     have tN:(iM:Int)<64:=by omega
     have dO:t+1<=64:=by omega
     generalize (i4 j (fz b)).getD wv 0#32=x at tW ak;generalize (i4 j (fz b)).getD dX 0#32=y at aU ak;generalize (i4 j (fz b)).getD ww 0#32=OT at Ac ak;generalize (i4 j (fz b)).getD iM 0#32=OU at dU ak;have Xr:=zf x 7 (by omega) (by omega);have Xo:=zf x 18 (by omega) (by omega);have Xn:=zf y 17 (by omega) (by omega);have Xp:=zf y 19 (by omega) (by omega);simp at Xr Xo Xn Xp;simp[h,I7,w2,tW,aU,JM,dx];refine a4 (ze _ _) rfl ?_;simp;refine a4 (ze _ _) rfl ?_;simp;refine a4 (ze _ _) rfl ?_;simp;refine a4 (ze _ _) rfl ?_;simp[Xr,Xo,Xn,Xp,I8,Fh,Ac,dU,JN,tN,h,ak,oG,dO];omega
    ·have afp:j=48:=by omega
     have agy:qE b 48=fL b:=by simp[qE,fL]
     subst afp;have DB:=E1 b;rw[agy];simp[h,DB,n5,aul];exact aQ rfl (RU bu (fun _=>rfl) _)
   ·simp[qE,i4,anU b ag]
 ·simp[anW,XO _ 32]
theorem anS (b:List B) (n:Nat) (aD:64<=n) :fz (b.take n)=fz b:=by
 unfold fz;apply avO;intro t aW;have:=auZ.1 aW;congr 1;rw[awp,avH,avA (by omega)]
theorem alR (b:List B) (n:Nat) (aD:64<=n) :fL (b.take n)=fL b:=by unfold fL; rw[anS b n aD]
theorem rounds_succ:∀ (k:Nat) (s:e1) (a b:List W) (x y:W),a[k]? = some x->b[k]? = some y->rounds s (a.take (k+1)) (b.take (k+1))=round (rounds s (a.take k) (b.take k)) x y
 | 0,s,a,b,x,y,aC,ag=>by
  cases a with
  | nil=>simp at aC
  | cons a Pn=>
   cases b with
   | nil=>simp at ag
   | cons b bs=>simp at aC ag; subst aC ag; simp[rounds]
 | k+1,s,a,b,x,y,aC,ag=>by
  cases a with
  | nil=>simp at aC
  | cons a Pn=>
   cases b with
   | nil=>simp at ag
   | cons b bs=>
    simp only[List.take_succ_cons,rounds];exact rounds_succ k _ Pn bs x y (by simpa using aC) (by simpa using ag)
def ng (h:e1) (b:List B) (k:Nat) :e1:=rounds h (b8.take k) ((fL b).take k)
theorem Xu (h:e1) (b:List B) :ng h b 0=h:=rfl
theorem Xt (h:e1) (b:List B) (k:Nat) (ar:k<64) :ng h b (k+1)=round (ng h b k) (b8.getD k 0#32) ((fL b).getD k 0#32) :=by
 have ad:b8.length=64:=rfl;have ae:=E1 b;refine rounds_succ k h b8 (fL b) _ _ ?_ ?_
 ·rw[auB,auo (by omega)]; rfl
 ·rw[auB,auo (by omega)]; rfl
theorem Xs (h:e1) (b:List B) :ng h b 64=rounds h b8 (fL b) :=by
 have ad:b8.length=64:=rfl;have ae:=E1 b;unfold ng;rw[aul (by omega),aul (by omega)]
def jb (a b:List W) (k:Nat) :List W:=(List.zipWith (·+·) a b).take k++a.drop k
theorem Pk (a b:List W) :jb a b 0=a:=rfl
theorem JA {a b:List W} (h:a.length=b.length) (k:Nat) :(jb a b k).length=a.length:=by simp[jb]; omega
theorem Ph {a b:List W} (h:a.length=b.length) {k:Nat} (ar:k<a.length) :(jb a b k)[k]? = a[k]?:=by
 unfold jb;rw[auJ (by simp; omega)];have:(List.take k (List.zipWith (·+·) a b)).length=k:=by simp; omega
 rw[this,auY]; simp
theorem Pj {a b:List W} (h:a.length=b.length) {k:Nat} {x y:W} (af:a[k]? = some x) (aJ:b[k]? = some y) :(jb a b k).set k (x+y)=jb a b (k+1) :=by
 have ar:=(auk.1 af).1;unfold jb;have al:(List.take k (List.zipWith (·+·) a b)).length=k:=by simp; omega
 have ax:(List.zipWith (·+·) a b)[k]? = some (x+y) :=by rw[List.getElem?_zipWith,af,aJ]
 rw[avt _ _ (by omega),al,awq,avg ar,awi,auP,ax];simp
set_option maxHeartbeats 8000000 in
theorem adi {h:e1} {b:List B} (ag:64<=b.length) {l:ao} {bk sz:Nat} {rest:List U} {x:U} {K:U->ao->Prop} (al:l[bk]? = some (.cells sz (h.l.map bu++rest))) (h9:8<=sz) (af:gA (bb l) x (cD (some b)))
  (aT:∀ junk,K (.bt []) (l.set bk (.cells sz ((grind h b).l.map bu++rest))++junk)) :c0 Tryz.prog GS 192 [.ptr bk 0 sz,x] l (c:=⟨K⟩) :=by
 apply bq Tryz.func192 [[],[[0],[1],[4],[5],[6],[7],[8],[9],[10],[11],[13],[14],[15],[17],[18],[19],[2,19,15],[3],[12],[16]]];simp;refine l7 (alS b ag) (.cons af .nil) (SE bu (fun _=>rfl) _) ?_;have aD:=b6 al;have bS:=E1 b;have i7:(l++[aV.cells 64 ((fL b).map bu)])[bk]? = some (.cells sz (h.l.map bu++rest)) :=by rw[aum aD]; exact al
 have aw:∀ i (y:W),i<8->h.l[i]? = some y->(h.l.map bu++rest)[i]? = some (bu y) :=fun i y ay aJ=>by
  rw[aum (by simpa [e1.l] using ay),auq,aJ]; rfl
 have cy:=aw 0 h.a (by omega) rfl;have q1:=aw 1 h.b (by omega) rfl;have cV:=aw 2 h.c (by omega) rfl;have fy:=aw 3 h.d (by omega) rfl;have pz:=aw 4 h.e (by omega) rfl;have aky:=aw 5 h.f (by omega) rfl;have akz:=aw 6 h.g (by omega) rfl;have akA:=aw 7 h.h (by omega) rfl;simp[n5,bS,i7,cy,q1,cV,fy,pz,aky,akz,akA];refine cl 64 (fun k σ l'=>σ 0=.ptr bk 0 sz/\σ 4=.ptr l.length 0 64/\σ 5=bu (ng h b k).a/\σ 6=bu (ng h b k).b/\σ 7=bu (ng h b k).c/\σ 8=bu (ng h b k).d/\σ 9=bu (ng h b k).e/\σ 10=bu (ng h b k).f/\σ 11=bu (ng h b k).g/\σ 12=bu (ng h b k).h/\σ 52=.int .i64 k ∧
  l'=l++[.cells 64 ((fL b).map bu)]) ?_ ?_
 ·rintro k σ l' ar ⟨cb,bl,bo,cu,dU,e4,gZ,jg,jI,lL,SX,rfl⟩;obtain⟨σ,rfl⟩:=am6 cb bl bo cu dU e4 gZ jg jI lL SX;clear cb bl bo cu dU e4 gZ jg jI lL SX;simp;by_cases ff:(k:Int)<64
  ·have fq:IntKind.i64.wrap ((k:Int)+1)=k+1:=wrap_i64 (by omega) (by omega);have dK:k<64:=by omega
   have aW:=amy k dK;have ht:(fL b)[k]? = some ((fL b).getD k 0#32) :=by rw[auB,auo (by omega)]; rfl
   rw[Xt h b k dK];generalize (fL b).getD k 0#32=iG at *
   generalize b8.getD k 0#32=na at *
   generalize ng h b k=s at *
   have eo:=Wm s.e 6 11 25 (by omega) (by omega) (by omega);have ej:=Wm s.a 2 13 22 (by omega) (by omega) (by omega);simp at eo ej;simp[ff,aW,ht];refine a4 eo rfl ?_;simp[aW,ht];refine a4 ej rfl ?_;simp[dK,fq];simp[round]
  ·have yr:k=64:=by omega
   subst yr;rw[Xs];obtain⟨v,ap⟩:∃ v,rounds h b8 (fL b)=v:=⟨_,rfl⟩
   rw[ap];have h8:grind h b=⟨h.a+v.a,h.b+v.b,h.c+v.c,h.d+v.d,h.e+v.e,h.f+v.f,h.g+v.g,h.h+v.h⟩:=by unfold grind; rw[ap]
   simp;have qi:h.l.length=v.l.length:=rfl;have oB:h.l.length=8:=rfl;have uu:(grind h b).l=jb h.l v.l 8:=by rw[h8]; rfl
   rw[uu] at aT;refine cl 8 (fun k σ l'=>σ 0=.ptr bk 0 sz/\σ 111=.aF (v.l.map bu)/\σ 112=.int .i64 k/\l'=l.set bk (.cells sz ((jb h.l v.l k).map bu++rest))++[.cells 64 ((fL b).map bu)]) ?_ ?_
   ·rintro k σ l' ar ⟨cb,SR,SS,rfl⟩;obtain⟨σ,rfl⟩:=lB cb SR SS;clear cb SR SS;simp;by_cases ff:(k:Int)<8
    ·have fq:IntKind.i64.wrap ((k:Int)+1)=k+1:=wrap_i64 (by omega) (by omega);have iz:k<8:=by omega
     obtain⟨y,aJ⟩:∃ y,v.l[k]? = some y:=⟨_,auo (show k<v.l.length from iz)⟩
     obtain⟨z,ax⟩:∃ z,h.l[k]? = some z:=⟨_,auo (show k<h.l.length from iz)⟩
     have aC:=Ph qi (k:=k) (by rw[oB]; exact iz);rw[ax] at aC;have hb:=JA qi k;have ak:=pD bu (jb h.l v.l k) k (z+y) (by rw[hb,oB]; exact iz);rw[Pj qi ax aJ] at ak;have nJ:((jb h.l v.l k).map bu).length=8:=by rw[auw,hb,oB]
     have rF:a8 ((jb h.l v.l k).map bu++rest) k [bu (z+y)]=(jb h.l v.l (k+1)).map bu++rest:=by
      rw[<-ak];unfold a8;rw[auT (by omega),avl (by simp; omega)];simp
     have sE:((jb h.l v.l k).map bu++rest)[k]? = some (bu z) :=by rw[aum (by omega),auq,aC]; rfl
     have DA:(l.set bk (.cells sz ((jb h.l v.l k).map bu++rest))++[aV.cells 64 ((fL b).map bu)])[bk]? = some (.cells sz ((jb h.l v.l k).map bu++rest)) :=by
      rw[aum (by simpa using aD),avv]; simp[aD]
     have sH:k+1<=sz:=by omega
     simp[ff,aJ,sE,DA,fq,rF,iz,sH,aD,List.set_append]
    ·have iz:k=8:=by omega
     subst iz;simp;exact aT _
   ·have lr:l.set bk (.cells sz ((jb h.l v.l 0).map bu++rest))=l:=by
     rw[Pk]; exact alW al
    rw[lr];simp[e1.l]
 ·simp[Xu]
abbrev nB (ci:db eZ) :U:=cE 1 (fun s=>[cD s]) ci
theorem RS (ci:db eZ) :(nB ci).closed=true:=Co (fun s=>by simp only[a5,mT,awf]) ci
def bytesOf (ci:List eZ) :List B:=(ci.map db.l).flatten
theorem bytesOf_take (ci:List eZ) (k:Nat) (s:eZ) (h:ci[k]? = some s) :bytesOf (ci.take (k+1))=bytesOf (ci.take k)++s.l:=by
 unfold bytesOf;rw[auP,h]; simp
theorem Qa (ci:List eZ) (k:Nat) :(bytesOf (ci.take k)).length<=(bytesOf ci).length:=by
 conv=>rhs; rw[<-avm k ci]
 unfold bytesOf;rw[auH,avb,auu];omega
theorem adm {n:Nat} (aD:n<=1000000000) {l:ao} {K:U->ao->Prop} (aT:∀ v j l',bK 1 l' v j []->l.length<=l'.length->(∀ b,b<l.length->l'[b]? = l[b]?)->(cF v=decide (n=0))->K v l') :c0 Tryz.prog GS 153 [.aH,.int .i64 n] l (c:=⟨K⟩) :=by
 apply bq Tryz.func153 [];have ad:¬((n:Int)<0) :=by omega
 have aX:IntKind.i64.wrap (n:Int)=n:=wrap_i64 (by omega) (by omega);have Md:IntKind.i64.wrap (0:Int)=0:=rfl;by_cases aI:n=0
 ·subst aI;simp;exact aT _ 0 _ (.nil 0) (aun _) (fun _ _=>rfl) rfl
 have ae:(0:Int)<n:=by omega
 have ax:q4 l 1 1 [.int .u8 0] .aH (.int .i64 n)=some (.aq 1 l.length 0 n n (n*1),l++[.cells (n*1) (dC [.int .u8 0] n)]) :=by
  unfold q4 jB;simp only[auS];have az:cw=140737488355328:=rfl;rw[if_pos ⟨by omega,by omega,by rw[az]; omega⟩,if_neg aI,if_neg (by omega),if_pos (by rw[az]; omega)]
 have ak:fl (.aq 1) (.aq 1 l.length 0 n n (n*1)) none (some (.int .i64 0)) none=some (.aq 1 l.length 0 0 n (n*1)) :=by
  rw[zi,JW,if_pos ⟨by omega,by omega⟩];simp[aI]
 rw[avX] at ax ak;have aj:0<n:=by omega
 simp[ad,ae,aj,aX,ax,Md,ak];refine aT _ l.length (l++[.cells n (dC [.int .u8 0] n)]) (.aq _ 0 n n (dC [.int .u8 0] n) [] (by simp) (by rw[Bw]; simp) rfl (by simp) (by omega) (by omega) rfl) (by simp) (fun b ag=>aum ag) ?_;simp[cF,aI]
def zQ (ci:List eZ) :eZ:=if bytesOf ci=[] then none else some (bytesOf ci)
theorem abj (ci:List eZ) :(zQ ci).l=bytesOf ci:=by unfold zQ; split<;>simp_all
set_option maxHeartbeats 4000000 in
theorem abG (ci:List eZ) (al:(bytesOf ci).length<=1000000000) (DE:ci.length<=1000000000) :gy Tryz.prog GS 110 [nB (some ci)] (cD (zQ ci)) :=by
 refine Bp Tryz.checked.mixed bn ?_;apply bq Tryz.func110 [];simp;have bY:∀ (k:Nat) (s:eZ),ci[k]? = some s->cL (.aq 1) (nB (some ci)) (.int .i64 k)=some (.bM [cD s] 0) :=fun k s ak=>by simp[nB,uJ,ak]
 refine cl ci.length (fun k σ l=>σ 0=nB (some ci)/\σ 9=nB (some ci)/\σ 10=.int .i64 ci.length/\σ 11=.int .i64 k/\σ 3=.int .i64 (bytesOf (ci.take k)).length/\l=[]) ?_ ?_
 ·rintro k σ l ar ⟨cb,gZ,jg,jI,a1,rfl⟩;obtain⟨σ,rfl⟩:=lC cb a1 gZ jg jI;clear cb a1 gZ jg jI;simp;by_cases h:k<ci.length
  ·obtain⟨s,ak,_⟩:=bI h;have ag:=bytesOf_take ci k s ak;have dO:=Qa ci (k+1);rw[ag,auu] at dO;have aX:IntKind.i64.wrap (((bytesOf (ci.take k)).length:Int)+s.l.length)=((bytesOf (ci.take k)).length:Int)+s.l.length:=wrap_i64 (by omega) (by omega);have fq:IntKind.i64.wrap ((k:Int)+1)=k+1:=wrap_i64 (by omega) (by omega);have jj:¬(((bytesOf (ci.take k)).length:Int)+s.l.length<0) :=by omega
   simp[h,bY k s ak,aX,jj,fq,ag]
  ·have bv:k=ci.length:=by omega
   subst bv;simp;refine adm al ?_;intro v j l au bC _ iA;simp;refine cl ci.length (fun k σ l=>σ 25=nB (some ci)/\σ 26=.int .i64 ci.length/\σ 27=.int .i64 k/\∃ v j,σ 6=v/\bK 1 l v j ((bytesOf (ci.take k)).map ca)/\cF v=decide (bytesOf ci=[])) ?_ ?_
   ·rintro k σ l ar ⟨ua,Ad,Ae,v,j,cu,au,iA⟩;obtain⟨σ,rfl⟩:=iE cu ua Ad Ae;clear cu ua Ad Ae;simp;by_cases h:k<ci.length
    ·obtain⟨s,ak,_⟩:=bI h;have ag:=bytesOf_take ci k s ak;have dO:=Qa ci (k+1);rw[ag,auu] at dO;have fq:IntKind.i64.wrap ((k:Int)+1)=k+1:=wrap_i64 (by omega) (by omega);have az:cw=140737488355328:=rfl;obtain⟨a6,b7,l',ad,ae,aj,aG,bh,bF⟩:=o0 (by_:=1) au (x:=cD s) (xs:=s.l.map ca) (by simp[cD]) (fun e am=>by obtain⟨x,_,rfl⟩:=auR.1 am; rfl) (by omega) (by omega) (by simp; omega);simp[h,bY k s ak,ad];refine c7.cd ?_;simp[h,fq];refine⟨⟨b7,by rw[ag,auH]; exact ae⟩,?_⟩;rw[wz bF,iA];by_cases am:bytesOf ci=[]
     ·have aI:(bytesOf ci).length=0:=by rw[am]; rfl
      have:s.l=[] :=au4.1 (by omega);simp[am,this]
     ·simp[am]
    ·have bv:k=ci.length:=by omega
     subst bv;simp;rw[auU] at au;refine au.ET (fun _=>rfl) _ ?_ (abj ci);rw[iA];unfold zQ;split<;>simp_all
   ·simp;refine⟨⟨j,by simpa [bytesOf] using au⟩,?_⟩;rw[iA];simp[au4]
 ·simp[bytesOf]
theorem abw (s:db B) :gN Tryz.prog .eql 143 (cE 1 ca s) .aH=some (.bool s.isNone) :=JR (e:=5) (by kernel_rfl) 1 ca s
theorem abx {s:db B} (ak:s.l.length<=1000000000) {l:ao} {K:U->ao->Prop} (aT:∀ v j l',bK 1 l' v j (s.l.map ca)->l.length<=l'.length->(∀ b,b<l.length->l'[b]? = l[b]?)->(v=.aH\/l.length<=j)->cF v=s.isNone->K v l') :c0 Tryz.prog GS 193 [cE 1 ca s] l (c:=⟨K⟩) :=by
 apply bq Tryz.func193 [];simp[abw];cases s with
 | none=>
  simp;exact aT _ 0 _ (.nil 0) (aun _) (fun _ _=>rfl) (.inl rfl) rfl
 | some b=>
  simp;have az:cw=140737488355328:=rfl;have rD:b.length<=1000000000:=ak;have au:bK 1 (l++[aV.cells 0 []]) (.aq 1 l.length 0 0 0 0) l.length [] :=.aq l.length 0 0 0 [] [] (by simp) rfl rfl (by simp) (aun _) (by omega) rfl;obtain⟨a6,b7,l',ad,ae,aj,aG,bh,bF⟩:=o0 (by_:=1) au (x:=cE 1 ca (some b)) (xs:=b.map ca) (by simp) (fun e am=>by obtain⟨x,_,rfl⟩:=auR.1 am; rfl) (by omega) (by omega) (by simp; omega);simp[ad];refine c7.cd ?_;simp;have p8:l.length+1<=l'.length:=by simpa using aj
  refine aT _ b7 _ ae (by omega) (fun b ag=>?_) (.inr (by rcases bh with h | h<;>(try simp only[auu,auF,au1] at h)<;>omega)) ?_
  ·rw[aG b (by simp; omega) (by omega),aum ag]
  ·rw[wz bF]; rfl
structure tF where
 st:e1
 rest:eZ
 n:Int
def he (s:e1) (r:U) (n:Int) :List U:=s.l.map bu++[r,.int .i64 n]
def rb (m:tF) :U:=.aF (he m.st (cD m.rest) m.n)
def tV (m:tF) (b:eZ) :tF:=
 let all:=m.rest.l++b.l
 ⟨(h0 m.st all).1,if all=[] then none else some (h0 m.st all).2,m.n+b.l.length⟩
theorem abk (a b:eZ) :zQ [a,b]=if a.l++b.l=[] then none else some (a.l++b.l) :=by
 have:bytesOf [a,b]=a.l++b.l:=by simp[bytesOf]
 unfold zQ;rw[this]
theorem adj (h:e1) (b:List B) :grind h (b.take 64)=grind h b:=by unfold grind; rw[alR b 64 (by omega)]
theorem wK (s:e1) (r:U) (n:Int) :(he s r n).length=10:=rfl
set_option maxHeartbeats 8000000 in
theorem Sv (m:tF) (b:eZ) (al:m.rest.l.length+b.l.length<=1000000000) (aD:0<=m.n) (rx:m.n<=1000000000) :gy Tryz.prog GS 161 [rb m,cD b] (rb (tV m b)) :=by
 refine Bp Tryz.checked.mixed bn ?_;apply bq Tryz.func161 [[[0],[1],[2],[3],[4],[5],[6,1]]];have ah:(U.aF (he m.st (cD m.rest) m.n)).cells=some (he m.st (cD m.rest) m.n) :=rfl;have g0:(he m.st (cD m.rest) m.n)[8]? = some (cD m.rest) :=rfl;have TI:=abG [m.rest,b] (by simp[bytesOf]; exact al) (by simp);rw[abk] at TI;simp[rb,wK,g0];refine Xg TI (.cons ?_ .nil) ?_
 ·exact Ix (es:=[[cD m.rest],[cD b]]) (rest:=[]) rfl rfl (by simp) (by simp[a5,mT])
 obtain⟨all,dV⟩:∃ all,all=m.rest.l++b.l:=⟨_,rfl⟩
 have hb:all.length<=1000000000:=by rw[dV]; simpa using al
 rw[<-dV];simp;refine cl (all.length / 64) (fun k σ l=>σ 1=cD b/\σ 2=.ptr 0 0 10/\σ 4=.ptr 1 0 10/\∃ h s hK junk,σ 5=cD s/\l=.cells 10 (he h (cD m.rest) m.n) ::.cells 10 hK::junk/\h0 m.st all=h0 h s.l/\s.l.length=all.length - 64*k/\hK.length=10/\s.isNone=decide (all=[])) ?_ ?_
 ·rintro k σ l ar ⟨aK,aU,bl,h,s,hK,junk,bo,rfl,fP,ea,qp,Uz⟩;obtain⟨σ,rfl⟩:=iE aK aU bl bo;clear aK aU bl bo;have bC:ce (.aq 1) (cD s)=some (.int .i64 s.l.length) :=s5 _;simp[bC];by_cases KB:(64:Int)<=s.l.length
  ·cases s with
   | none=>simp at KB
   | some iw=>
   have adr:(64:Int)<=iw.length:=KB;have Ta:64<=iw.length:=by omega
   simp[adr];refine adi (h:=h) (b:=iw) Ta (l:=.cells 10 (he h (cD m.rest) m.n) ::.cells 10 hK::junk) (bk:=0) (sz:=10) (rest:=[cD m.rest,.int .i64 m.n]) rfl (by omega) (XC (mT _)) (fun aq6=>?_);have bS:fl (.aq 1) (cD (some iw)) (some (.int .i64 64)) none none=some (cD (some (iw.drop 64))) :=by
    unfold cD; rw[Yi (by omega) (by omega)]; rfl
   simp[bS];have aqi:iw.length=all.length - 64*k:=ea;refine⟨by omega,grind h iw,some (iw.drop 64),rfl,hK,⟨rfl,rfl⟩,?_,?_,qp,?_⟩
   ·rw[fP];show h0 h iw=_;rw[Cd h iw Ta,adj]; rfl
   ·simp; omega
   ·exact Uz
  ·have aL:s.l.length<64:=by omega
   have aX:IntKind.i64.wrap (m.n+(b.l.length:Int))=m.n+b.l.length:=wrap_i64 (by omega) (by omega);have gP:(he h (cD m.rest) m.n)[9]? = some (.int .i64 m.n) :=rfl;have j5:ce (.aq 1) (cD b)=some (.int .i64 b.l.length) :=s5 _;simp[KB,gP,j5,aX];refine abx (by omega) ?_;intro v j l au hR i7 ai iA;obtain⟨l',rfl⟩:∃ l',l=.cells 10 (he h (cD m.rest) m.n) ::.cells 10 hK::l':=by
    have fu:=i7 0 (by simp);have aP:=i7 1 (by simp);cases l with
    | nil=>simp at fu
    | cons a l=>cases l with
     | nil=>simp at aP
     | cons c l=>simp at fu aP; subst fu aP; exact⟨l,rfl⟩
   have agI:∀ r n hH,a8 (he h r n) 9 [.int .i64 hH]=he h r hH:=fun _ _ _=>rfl
   have agH:∀ r n cB,a8 (he h r n) 8 [cB]=he h cB n:=fun _ _ _=>rfl
   have ap:=au.cells;simp[gP,agI,agH,ap,wK,qp,n5];have ls:∀ r n,List.take 10 (he h r n)=he h r n:=fun _ _=>rfl
   rw[ls,ls];have G2:tV m b=⟨h,if all=[] then none else some s.l,m.n+b.l.length⟩:=by
    unfold tV;rw[<-dV]
    dsimp only
    rw[fP,FL h s.l aL]
   rw[G2];have m6:=(au.lg (l':=.cells 10 (he h v (m.n+(b.l.length:Int))) ::.cells 10 (he h v (m.n+(b.l.length:Int))) ::l') (by
    rcases ai with ai | ai
    ·exact .inl ai
    ·obtain⟨q,rfl⟩:∃ q,j=q+2:=⟨j - 2,by simp at ai; omega⟩
     exact .inr rfl)).ET (fun _=>rfl) (if all=[] then none else some s.l) (by
     rw[iA,Uz]; split<;>simp_all) (by
     split
     ·rename_i am; rw[am] at ea; simp at ea; rw[ea]; rfl
     ·rfl)
   refine .aF _ _ rfl fun i c c' mZ ml=>?_
   rcases i with _ | _ | _ | _ | _ | _ | _ | _ | _ | _ | i<;>simp[he,e1.l] at mZ ml
   all_goals subst mZ ml
   all_goals first | exact m6 | exact .flat _ rfl
 ·simp;exact⟨m.st,(if all=[] then none else some all),rfl,⟨[.int .u32 0,.int .u32 0,.int .u32 0,.int .u32 0,.int .u32 0,.int .u32 0,.int .u32 0,.int .u32 0,.aH,.int .i64 0],⟨rfl,rfl⟩,by split<;>simp_all,by split<;>simp_all,rfl,by split<;>simp_all⟩⟩
def gF (b:List B) :U:=.aF (b.map bA)
def oa (n k:Nat) :List B:=128#8::List.replicate ((119 - n % 64) % 64) 0#8++(Cf (BitVec.ofNat 64 n*8#64)).take k
theorem Ov (n:Nat) :oa n 8=tail n:=rfl
theorem YP (n k:Nat) (x:B) (af:(Cf (BitVec.ofNat 64 n*8#64))[k]? = some x) :oa n (k+1)=oa n k++[x] :=by
 unfold oa;rw[auP,af]; simp
theorem IZ (n k:Nat) :(oa n k).length<=80:=by
 unfold oa;have:(Cf (BitVec.ofNat 64 n*8#64)).length=8:=rfl;simp; omega
theorem P6 (q:BitVec 64) (k:Nat) (ar:k<8) :(Cf q)[k]? = some ((q >>> (56 - 8*k)).setWidth 8) :=by
 match k,ar with
 | 0,_=>rfl
 | 1,_=>rfl
 | 2,_=>rfl
 | 3,_=>rfl
 | 4,_=>rfl
 | 5,_=>rfl
 | 6,_=>rfl
 | 7,_=>rfl
def qB (s:List W) (k:Nat) :List B:=((s.take k).map ve).flatten++List.replicate (32 - 4*k) 0#8
theorem Zm (s:List W) :(s.map ve).flatten.length=4*s.length:=by
 induction s with
 | nil=>rfl
 | cons w s aR=>simp[aR,ve]; omega
theorem ajY (s:List W) (k:Nat) (ar:k<=s.length) (ak:s.length=8) :(qB s k).length=32:=by
 unfold qB;rw[auu,Zm];simp; omega
theorem ajZ (s:List W) (k:Nat) (w:W) (ar:s[k]? = some w) (ak:s.length=8) :
  ((((qB s k).set (4*k) ((w >>> 24).setWidth 8)).set (4*k+1) ((w >>> 16).setWidth 8)).set (4*k+2) ((w >>> 8).setWidth 8)).set (4*k+3) (w.setWidth 8)=qB s (k+1) :=by
 have iz:=(auk.1 ar).1;unfold qB;rw[auP,ar];have du:((s.take k).map ve).flatten.length=4*k:=by rw[Zm]; simp; omega
 obtain⟨A,Tb⟩:∃ A,A=((s.take k).map ve).flatten:=⟨_,rfl⟩
 rw[<-Tb] at du ⊢;have az:32 - 4*k=(32 - 4*(k+1))+1+1+1+1:=by omega
 rw[az,avc,avc,avc,avc];rw[avt _ _ (by omega),avt _ _ (by omega),avt _ _ (by omega),avt _ _ (by omega)];simp only[du,awq,Nat.add_sub_cancel_left,awi,aw2,auH,avb,<-Tb];simp[ve]
def F8 (s:e1) (r:eZ) (n:Nat) :List B:=written (h0 s (r.l++tail n)).1
set_option maxHeartbeats 8000000 in
theorem aco (s:e1) (r:eZ) (n:Nat) (az:r.l.length<=100000000) (aD:n<=100000000) :bz Tryz.prog GS 162 [rb ⟨s,r,n⟩] (gF (F8 s r n)) :=by
 refine bX Tryz.checked.mixed bn ?_;apply bq Tryz.func162 [];have gP:(he s (cD r) n)[9]? = some (.int .i64 n) :=rfl;have ah:(U.aF (he s (cD r) n)).cells=some (he s (cD r) n) :=rfl;have rC:=zL n 64 (by omega);obtain⟨q,a7⟩:∃ q,q=n % 64:=⟨_,rfl⟩
 rw[show ((64:Int).toNat)=64 from rfl,<-a7] at rC;have aqK:q<64:=by rw[a7]; exact awj _ (by omega)
 have oG:IntKind.i64.wrap (119 - (q:Int))=(119 - q:Nat) :=by rw[wrap_i64 (by omega) (by omega)]; omega
 have Hw:=zL (119 - q) 64 (by omega);rw[show ((64:Int).toNat)=64 from rfl] at Hw;obtain⟨m,hm⟩:∃ m,m=(119 - q) % 64:=⟨_,rfl⟩
 rw[<-hm] at Hw;have aqC:m<64:=by rw[hm]; exact awj _ (by omega)
 obtain⟨t,aW⟩:∃ t,t=119 - q:=⟨_,rfl⟩
 rw[<-aW] at oG Hw;have lW:cw=140737488355328:=rfl;obtain⟨L,dA⟩:∃ L:ao,L=[aV.cells 10 (he s (cD r) n),aV.cells 32 (rep 32 (U.int IntKind.u8 0)),aV.cells 1 [U.int IntKind.u8 128]] :=⟨_,rfl⟩
 have adL:L[0]? = some (aV.cells 10 (he s (cD r) n)) :=by rw[dA]; rfl
 have C5:L[1]? = some (aV.cells 32 (rep 32 (U.int IntKind.u8 0))) :=by rw[dA]; rfl
 have ri:L.length=3:=by rw[dA]; rfl
 have af0:bK 1 L (.aq 1 2 0 1 1 1) 2 [[U.int IntKind.u8 128]] :=by
  rw[dA];exact .aq 2 1 1 1 [.int .u8 128] _ rfl rfl rfl (by simp) (aun _) (aun _) rfl
 have afI:m<9223372036854775808:=by omega
 have dL:(List.length [[U.int IntKind.u8 128]]+m)*1<=cw:=by rw[lW]; simp; omega
 have afz:=aau (n:=m) (k:=.i64) (by_:=1) (zero:=[.int .u8 0]) af0 rfl (by omega) (by omega) afI dL;obtain⟨v,j,l,ad,au,aj,aG,bh,bF⟩:=afz;have ap:cF v=false:=by
  rw[av5]; intro aS;rw[kZ,bF] at aS;cases aS.1
 have aM:u 128#8=128:=by decide
 have am:([[U.int IntKind.u8 128]]++List.replicate m [U.int IntKind.u8 0] :List (List U))=(oa n 0).map ca:=by
  have:m=(119 - n % 64) % 64:=by rw[hm,a7]
  unfold oa;rw[<-this];simp[ca,aM]
 rw[am] at au;have fu:=(aG 0 (by omega) (by omega)).trans adL;have aP:=(aG 1 (by omega) (by omega)).trans C5;have yp:2<=j:=by rcases bh with h | h<;>omega
 simp[rb,wK,gP,rC,oG,Hw];rw[<-dA];simp[ad];refine cl 8 (fun k σ l=>σ 1=.ptr 0 0 10/\σ 2=.ptr 1 0 32/\σ 3=dS (BitVec.ofNat 64 n*8#64)/\σ 5=.int .i64 (56 - 8*(k:Int))/\∃ v j,σ 4=v/\2<=j/\cF v=false/\bK 1 l v j ((oa n k).map ca)/\l[0]? = some (aV.cells 10 (he s (cD r) n))/\l[1]? = some (aV.cells 32 (rep 32 (U.int IntKind.u8 0)))) ?_ ?_
 ·rintro k σ l ar ⟨aK,aU,a1,bo,v,j,bl,ai,ap,au,fu,aP⟩;obtain⟨σ,rfl⟩:=lC aK aU a1 bl bo;clear aK aU a1 bl bo;obtain⟨c,ah⟩:∃ c:Int,c=56 - 8*(k:Int) :=⟨_,rfl⟩
  rw[<-ah];simp;by_cases iz:0<=c
  ·have AG:k<8:=by omega
   have af:=P6 (BitVec.ofNat 64 n*8#64) k AG;have aey:c.toNat=56 - 8*k:=by omega
   have rJ:IntKind.i64.wrap (c - 8)=56 - 8*((k:Int)+1) :=by rw[wrap_i64 (by omega) (by omega)]; omega
   have lY:=IZ n k;have oC:bK 1 (l++[aV.cells 1 [bA (((BitVec.ofNat 64 n*8#64) >>> (56 - 8*k)).setWidth 8)]]) v j ((oa n k).map ca) :=au.more _;obtain⟨a6,b7,l',ad,ae,aj,aG,bh,bF⟩:=o0 (by_:=1) oC (x:=.aq 1 l.length 0 1 1 1) (xs:=[[bA (((BitVec.ofNat 64 n*8#64) >>> (56 - 8*k)).setWidth 8)]]) (by simp[dD]) (by simp) (by omega) (by omega) (by simp; omega);have eK:j<l.length:=by
    rcases au.lt with h | h
    ·subst h; simp[cF] at ap
    ·exact h
   have aci:l'[0]? = some (aV.cells 10 (he s (cD r) n)) :=by rw[aG 0 (by simp) (by omega),aum (b6 fu)]; exact fu
   have acj:l'[1]? = some (aV.cells 32 (rep 32 (U.int IntKind.u8 0))) :=by
    have:=b6 aP;rw[aG 1 (by simp; omega) (by omega),aum (b6 aP)]; exact aP
   have fw:cF a6=false:=by rw[wz bF,ap]; rfl
   have eD:2<=b7:=by
    rcases bh with h | h
    ·omega
    ·have h:=au7 (show l.length<=(l++[aV.cells 1 [bA (((BitVec.ofNat 64 n*8#64) >>> (56 - 8*k)).setWidth 8)]]).length by simp) h;omega
   simp[iz,aey,ad];refine c7.cd ?_;simp[iz,rJ];exact⟨by omega,b7,eD,fw,by rw[YP n k _ af,auH]; exact ae,aci,acj⟩
  ·have uw:k=8:=by omega
   subst uw;rw[Ov] at au;have AC:=Sv ⟨s,r,n⟩ (some (tail n)) (by have:=IZ n 8; rw[Ov] at this; simp; omega) (by simp) (by simp; omega);have af:=au.wZ (fun _=>rfl) (some (tail n)) (by rw[ap]; rfl) rfl;have TY:(tV ⟨s,r,n⟩ (some (tail n))).st=(h0 s (r.l++tail n)).1:=rfl;obtain⟨F,ot⟩:∃ F,F=tV ⟨s,r,n⟩ (some (tail n)) :=⟨_,rfl⟩
   rw[<-ot] at AC TY;have AJ:a5 [rb ⟨s,r,n⟩]=true:=by simp[a5,rb,U.closed,he,e1.l,mT]
   have aeT:Ab 8 0 (rb F)=some (.aF (F.st.l.map bu)) :=rfl;have oB:F.st.l.length=8:=rfl;simp[iz,fu,wK];refine Xg AC (.cons (XC ?_) (.cons af .nil)) ?_
   ·show (U.aF (he s (cD r) n)).closed=true;simp[U.closed,a5,he,e1.l,mT]
   simp[aeT];refine cl 8 (fun k σ l=>σ 2=.ptr 1 0 32/\σ 33=.aF (F.st.l.map bu)/\σ 34=.int .i64 k/\l[1]? = some (aV.cells 32 ((qB F.st.l k).map bA))) ?_ ?_
   ·rintro k σ l ar ⟨aU,re,rf,aP⟩;obtain⟨σ,rfl⟩:=lB aU re rf;clear aU re rf;obtain⟨vh,bj,rfl⟩:=amO aP;clear aP;simp;by_cases iz:(k:Int)<8
    ·have ff:k<8:=by omega
     obtain⟨w,aX⟩:∃ w,F.st.l[k]? = some w:=⟨_,auo (show k<F.st.l.length from ff)⟩
     have cS:=ajY F.st.l k (by omega) oB;have qk:=ajZ F.st.l k w aX oB;have fU:IntKind.i64.wrap (4*(k:Int))=(4*k:Nat) :=by rw[wrap_i64 (by omega) (by omega)]; omega
     have bL:IntKind.i64.wrap (((4*k:Nat) :Int)+1)=(4*k+1:Nat) :=by rw[wrap_i64 (by omega) (by omega)]; omega
     have w2:IntKind.i64.wrap (((4*k:Nat) :Int)+2)=(4*k+2:Nat) :=by rw[wrap_i64 (by omega) (by omega)]; omega
     have cO:IntKind.i64.wrap (((4*k:Nat) :Int)+3)=(4*k+3:Nat) :=by rw[wrap_i64 (by omega) (by omega)]; omega
     have iG:IntKind.i64.wrap ((k:Int)+1)=k+1:=wrap_i64 (by omega) (by omega);obtain⟨a,aC⟩:∃ a,a=4*k:=⟨_,rfl⟩
     rw[<-aC] at fU bL w2 cO qk;have s0:=pD bA (qB F.st.l k) a ((w >>> 24).setWidth 8) (by omega);have cY:=pD bA ((qB F.st.l k).set a ((w >>> 24).setWidth 8)) (a+1) ((w >>> 16).setWidth 8) (by simp; omega);have hX:=pD bA (((qB F.st.l k).set a ((w >>> 24).setWidth 8)).set (a+1) ((w >>> 16).setWidth 8)) (a+2) ((w >>> 8).setWidth 8) (by simp; omega);have kD:=pD bA ((((qB F.st.l k).set a ((w >>> 24).setWidth 8)).set (a+1) ((w >>> 16).setWidth 8)).set (a+2) ((w >>> 8).setWidth 8)) (a+3) (w.setWidth 8) (by simp; omega);rw[qk] at kD;have hL:(a:Int)<32:=by omega
     have c1:((a+1:Nat) :Int)<32:=by omega
     have dx:((a+2:Nat) :Int)<32:=by omega
     have lc:((a+3:Nat) :Int)<32:=by omega
     have tR:a+1<=32:=by omega
     have b3:a+1+1<=32:=by omega
     have b9:a+2+1<=32:=by omega
     have ho:a+3+1<=32:=by omega
     have d1:(a:Int)+1<32:=by omega
     have d2:(a:Int)+2<32:=by omega
     have d3:(a:Int)+3<32:=by omega
     have f1:((a:Int)+1).toNat=a+1:=by omega
     have f2:((a:Int)+2).toNat=a+2:=by omega
     have f3:((a:Int)+3).toNat=a+3:=by omega
     have hS:(0:Int)<=(a:Int)+1:=by omega
     have gI:(0:Int)<=(a:Int)+2:=by omega
     have oO:(0:Int)<=(a:Int)+3:=by omega
     simp[iz,ff,aX,fU,bL,w2,cO,iG,hL,s0,cY,hX,kD,tR,b3,b9,ho,d1,d2,d3,f1,f2,f3,hS,gI,oO,-List.map_set]
    ·have uw:k=8:=by omega
     subst uw;have af2:qB F.st.l 8=written F.st:=by simp[qB,written,e1.l]
     rw[af2];have wq:(written F.st).length=32:=rfl;simp[wq,n5,aul];exact aQ (by unfold gF F8; rw[TY]) (RU bA (fun _=>rfl) _)
   ·simp[aP];rw[XO .u8 8]; rfl
 ·simp;exact⟨j,yp,ap,au,fu,aP⟩
structure zA (m:tF) (b:List B) :Prop where
 JS:h0 first b=(m.st,m.rest.l)
 n:m.n=b.length
theorem ahH {m:tF} {b:List B} (h:zA m b) (s:eZ) :zA (tV m s) (b++s.l) :=by
 have ad:h0 first (b++s.l)=h0 m.st (m.rest.l++s.l) :=by rw[P0,h.JS]
 refine⟨?_,?_⟩
 ·rw[ad];unfold tV
  dsimp only
  split
  ·rename_i am;rw[am]; rfl
  ·rfl
 ·unfold tV
  dsimp only
  rw[h.n]; simp
theorem ahI {m:tF} {b:List B} (h:zA m b) :m.rest.l.length<64:=by
 have:=aaR first b
 rw[h.JS] at this;simp only at this;rw[this]; exact awj _ (by omega)
theorem ahG {m:tF} {b:List B} (h:zA m b) :F8 m.st m.rest b.length=iU b:=by
 unfold F8 iU;rw[P0 first b,h.JS]
def start:tF:=⟨first,none,0⟩
theorem ahJ:zA start [] :=⟨rfl,rfl⟩
theorem amj:gy Tryz.prog GS 160 [] (rb start) :=by
 refine Bp Tryz.checked.mixed bn ?_;apply bq Tryz.func160 [];simp;exact .flat _ rfl
def sZ (s:eZ) :Bool:=decide ((10000:Int)<s.l.length)
theorem aiA (s:eZ) :bz Tryz.prog GS 159 [cD s] (.bool (sZ s)) :=by
 refine bX Tryz.checked.mixed bn ?_;apply bq Tryz.func159 [];simp[cD];exact aQ rfl rfl
theorem acY:jH Tryz.prog 159=true:=by kernel_rfl
def idx (l:List eZ) :Int:=match l.findIdx? sZ with | some i=>(i:Int) | none=>-1
theorem ahb {l:List eZ} {k:Nat} {s:eZ} (ak:l[k]? = some s) (al:sZ s=true) (cR:∀ j s,j<k->l[j]? = some s->sZ s=false) :idx l=k:=by
 have:l.findIdx? sZ=some k:=by
  rw[List.findIdx?_eq_some_iff_getElem];obtain⟨ad,rfl⟩:=auk.1 ak;refine⟨ad,al,fun j ai=>?_⟩;rw[cR j l[j] ai (auo (by omega))]; simp
 unfold idx; rw[this]
theorem Vg {l:List eZ} (cR:∀ j s,j<l.length->l[j]? = some s->sZ s=false) :idx l=-1:=by
 have:l.findIdx? sZ=none:=by
  rw[List.findIdx?_eq_none_iff];intro x af;obtain⟨j,ai⟩:=aur.1 af;exact cR j x (auk.1 ai).1 ai
 unfold idx; rw[this]
theorem MA (ci:db eZ) (al:ci.l.length<=1000000000) :bz Tryz.prog GS 191 [nB ci,.fn 159 [] []] (.int .i64 (idx ci.l)) :=by
 refine bX Tryz.checked.mixed bn ?_;apply bq Tryz.func191 [];have bC:ce (.aq 1) (nB ci)=some (.int .i64 ci.l.length) :=s5 _;simp[bC];refine cl ci.l.length (fun k σ l=>σ 0=nB ci/\σ 1=.fn 159 [] []/\σ 7=.int .i64 ci.l.length/\σ 8=.int .i64 k/\∀ j s,j<k->ci.l[j]? = some s->sZ s=false) ?_ (by simp);rintro k σ l ar ⟨cb,aK,dU,e4,cR⟩;obtain⟨σ,rfl⟩:=iE cb aK dU e4;clear cb aK dU e4;simp;by_cases h:k<ci.l.length
 ·obtain⟨s,ak,_⟩:=bI h;have bY:cL (.aq 1) (nB ci) (.int .i64 k)=some (.bM [cD s] 0) :=by
   rw[uJ]; simp[ak]
  have fq:IntKind.i64.wrap ((k:Int)+1)=k+1:=wrap_i64 (by omega) (by omega);simp[h,bY];refine⟨acY,a4 (aiA s) (by simp[a5,mT]) ?_⟩;cases ux:sZ s with
  | true=>
   simp;rw[ahb ak ux cR];exact aQ rfl rfl
  | false=>
   simp[h,fq];intro j gl ai rD;rcases avy j k with ad | ad
   ·exact cR j gl ad rD
   ·have:j=k:=by omega
    subst this;rw[ak] at rD; cases rD; exact ux
 ·simp[h];rw[Vg (fun j s ai ak=>cR j s (by omega) ak)];exact aQ rfl rfl
theorem abI (ci:db eZ) (al:ci.l.length<=1000000000) :bz Tryz.prog GS 158 [nB ci,.fn 159 [] []] (.bool (decide (0<=idx ci.l))) :=by
 refine bX Tryz.checked.mixed bn ?_;apply bq Tryz.func158 [];simp;refine a4 (MA ci al) (by simp[a5,U.closed,RS]) ?_;simp;exact aQ rfl rfl
set_option maxHeartbeats 4000000 in
theorem Nx (ci:List eZ) (apU:ci.length<=20) (cR:∀ s∈ci,s.l.length<=10000) :bz Tryz.prog GS 118 [nB (some ci)] (.bt [gF (iU (bytesOf ci)),.int .i64 0]) :=by
 have wc:idx ci=-1:=Vg fun j s ai ak=>by
  have:=cR s (aut ak);unfold sZ; simp; omega
 have bC:∀ k,(bytesOf (ci.take k)).length<=200000:=fun k=>by
  have:∀ l:List eZ,(∀ s∈l,s.l.length<=10000)->(bytesOf l).length<=10000*l.length:=by
   intro l
   induction l with
   | nil=>intro _; simp[bytesOf]
   | cons s l aR=>
    intro h;have ad:=aR fun x af=>h x (by simp[af])
    have ae:=h s (by simp);unfold bytesOf at ad ⊢;rw[auL,au9,auu,auF];omega
  have ad:=this (ci.take k) fun s ak=>cR s (auG ak)
  have ae:(ci.take k).length<=20:=by simp; omega
  omega
 refine bX Tryz.checked.mixed bn ?_;apply bq Tryz.func118 [];have ado:¬(20:Int)<ci.length:=by omega
 have TL:=abI (some ci) (by simp; omega);rw[db.A9,wc] at TL;simp[ado];refine a4 TL (by simp[a5,U.closed,RS]) ?_;simp;refine a4 amj.Fa rfl ?_;simp[rb,wK,n5];refine cl ci.length (fun k σ l=>σ 2=.ptr 0 0 32/\σ 4=.ptr 1 0 10/\σ 16=nB (some ci)/\σ 17=.int .i64 ci.length/\σ 18=.int .i64 k/\∃ m,zA m (bytesOf (ci.take k))/\l=[.cells 32 (rep 32 (.int .u8 0)),.cells 10 (he m.st (cD m.rest) m.n)]) ?_ ?_
 ·rintro k σ l ar ⟨aU,bl,Ac,p4,nD,m,hm,rfl⟩;obtain⟨σ,rfl⟩:=lC aU bl Ac p4 nD;clear aU bl Ac p4 nD;simp;have fp:(U.aF (he m.st (cD m.rest) m.n)).closed=true:=by simp[U.closed,a5,he,e1.l,mT]
  have ls:List.take 10 (he m.st (cD m.rest) m.n)=he m.st (cD m.rest) m.n:=rfl;have pi:=ahI hm;have nL:=hm.n;have ru:=bC k;by_cases h:k<ci.length
  ·obtain⟨s,ak,j7⟩:=bI h;have bY:cL (.aq 1) (nB (some ci)) (.int .i64 k)=some (.bM [cD s] 0) :=by
    rw[uJ]; simp[ak]
   have fq:IntKind.i64.wrap ((k:Int)+1)=k+1:=wrap_i64 (by omega) (by omega);have ad:=cR s j7;have aE:=Sv m s (by omega) (by omega) (by omega);have ku:=ahH hm s;rw[<-bytesOf_take ci k s ak] at ku;obtain⟨F,ot⟩:∃ F,F=tV m s:=⟨_,rfl⟩
   rw[<-ot] at aE ku;simp[h,bY,wK,ls];refine a4 aE.Fa ?_ ?_
   ·simp only[a5,fp,mT,awf]
   simp[rb,wK,n5,h,fq];exact⟨F,ku,rfl⟩
  ·have bv:k=ci.length:=by omega
   subst bv;rw[auU] at hm nL ru;have am:=aco m.st m.rest (bytesOf ci).length (by omega) (by omega);rw[ahG hm] at am;have nK:m=⟨m.st,m.rest,((bytesOf ci).length:Int)⟩:=by rw[<-nL]
   rw[<-nK] at am;have bS:=xb (bytesOf ci);simp[h,wK,ls];refine a4 am ?_ ?_
   ·simp only[a5,fp,awf]
   have dH:((iU (bytesOf ci)).map bA).length=32:=by rw[auw,bS]
   simp[gF,bS,n5,aul];exact aQ rfl (by simp[U.closed,a5,mS bA (fun _=>rfl)])
 ·simp[bytesOf];exact⟨start,ahJ,rfl⟩
theorem YL (s:eZ) (h:s.l.length<=10000) :bz Tryz.prog GS 85 [cD s] (.bt [gF (iU s.l),.int .i64 0]) :=by
 have ag:bytesOf [s]=s.l:=by simp[bytesOf]
 have av:=Nx [s] (by simp) (by simpa using h);rw[ag] at av;refine bX Tryz.checked.mixed bn ?_;apply bq Tryz.func85 [];have bS:=xb s.l;simp;refine l7 av (.cons ?_ .nil) (by simp[U.flat,mf,gF,z8 bA (fun _=>rfl)]) ?_
 ·exact Ix (es:=[[cD s]]) (rest:=[]) rfl rfl (by simp) (by simp[a5,mT])
 simp[gF,bS,n5,aul];exact aQ rfl (by simp[U.closed,a5,mS bA (fun _=>rfl)])
theorem tt (x:W) (n:Nat) (aI:0<n) (h:n<32) :bz Tryz.prog GS 237 [bu x,.int .i64 n] (bu (n0 x n)) :=by
 refine bX Tryz.checked.mixed bn ?_;apply bq Tryz.func237 [];have aX:IntKind.i64.wrap (32 - (n:Int))=(32 - n:Nat) :=by rw[wrap_i64 (by omega) (by omega)]; omega
 obtain⟨m,hm⟩:∃ m,m=32 - n:=⟨_,rfl⟩
 rw[<-hm] at aX;simp[aX];exact aQ (by unfold n0; rw[hm]) rfl
def eT (x:W) :List U:=[bu x]
set_option maxHeartbeats 4000000 in
theorem abH:gy Tryz.prog GS 238 [] (cE 1 eT (some b8)) :=by
 refine Bp Tryz.checked.mixed bn ?_;apply bq Tryz.func238 [];simp;exact XE (z:=1) (es:=b8.map eT) (rest:=[]) (by kernel_rfl) (by kernel_rfl) (fun e am=>by obtain⟨y,_,rfl⟩:=auR.1 am; rfl) (fun e am=>by obtain⟨y,_,rfl⟩:=auR.1 am; rfl)
theorem acQ:bz Tryz.prog GS 203 [] (.aF (first.l.map bu)) :=by
 refine bX Tryz.checked.mixed bn ?_;apply bq Tryz.func203 [];simp;exact aQ rfl rfl
theorem anQ (b:List B) (t:Nat) (hL c1 dx lc:B) (aI:b[4*t]? = some hL) (ad:b[4*t+1]? = some c1) (ae:b[4*t+2]? = some dx) (aj:b[4*t+3]? = some lc) :
  pK ((b.drop (4*t)).take 4)=((hL.setWidth 32*256#32+c1.setWidth 32)*256#32+dx.setWidth 32)*256#32+lc.setWidth 32:=by
 have h:(b.drop (4*t)).take 4=[hL,c1,dx,lc] :=by
  have al:=(auk.1 aj).1;apply avf;intro i
  match i with
  | 0=>simp[aI]
  | 1=>simp[ad]
  | 2=>simp[ae]
  | 3=>simp[aj]
  | i+4=>rw[auC (by simp; omega),auC (by simp)]
 rw[h];show ((((0#32 <<< 8 ||| hL.setWidth 32) <<< 8 ||| c1.setWidth 32) <<< 8 ||| dx.setWidth 32) <<< 8 ||| lc.setWidth 32)=_;rw[IQ,IQ,IQ,IQ];simp
theorem Zg {l:ao} {v:U} {j:Nat} {hJ:List W} (h:bK 1 l v j (hJ.map eT)) (ap:cF v=false) :∃ (cap sz:Nat) (cs:List U),v=.aq 1 j 0 hJ.length cap sz/\l[j]? = some (.cells sz cs)/\∀ (i:Nat) (x:W),hJ[i]? = some x->cs[i]? = some (bu x) :=by
 obtain⟨n,cap,sz,cs,ad,ae,aj,aG,bh,bF,_⟩:=h.view ap;rw[auw] at aG;subst aG;refine⟨cap,sz,cs,ad,ae,fun i x af=>?_⟩;have:=bF i (eT x) (by rw[auq,af]; rfl) 0 (by omega);simpa [eT] using this
theorem anT (b:List B) (k:Nat) (ar:k<16) :(fz b).take (k+1)=(fz b).take k++[pK ((b.drop (4*k)).take 4)] :=by
 have:(fz b)[k]? = some (pK ((b.drop (4*k)).take 4)) :=by unfold fz; rw[auq,auX ar]; rfl
 rw[auP,this]; rfl
theorem anR (b:List B) :(fz b).length=16:=by simp[fz]
theorem acH (k:Nat) (b:List B) :(i4 k (fz b)).length=16+k:=by simp[x0,fz]
set_option maxHeartbeats 16000000 in
theorem adk (h:e1) (b:List B) (ag:64<=b.length) :bz Tryz.prog GS 227 [.aF (h.l.map bu),cD (some b)] (.aF ((grind h b).l.map bu)) :=by
 have lW:cw=140737488355328:=rfl;have T5:(h.l.map bu).length=8:=rfl;refine bX Tryz.checked.mixed bn ?_;apply bq Tryz.func227 [[],[],[[0],[1],[2],[3],[4],[5],[6],[7],[8],[9],[10],[11],[12],[14],[17],[18],[21],[23],[26],[27],[13,10,5],[15,10,5],[16],[19],[20],[22,10,5],[24,10,5],[25]],[],[[0],[1],[2],[4],[7],[11],[12],[13],[14],[15],[16],[17],[18],[20],[21],[22],[23],[25],[26],[27],[28],[3,28,23,1],[5,28,23,1],[6],[8,28,23,1],[9],[10],[19],[24]]];simp[T5];refine cl 16 (fun k σ l=>σ 1=cD (some b)/\σ 2=.ptr 0 0 8/\σ 4=.ptr 1 0 8/\σ 6=.int .i64 k/\∃ v j hK rest,σ 5=v/\(cF v=true->k=0)/\(v=.aH\/2<=j)/\bK 1 l v j (((fz b).take k).map eT)/\l=.cells 8 (h.l.map bu) ::.cells 8 hK::rest/\hK.length=8) ?_ ?_
 ·rintro k σ l ar ⟨aK,aU,bl,cu,v,j,hK,rest,bo,ap,ai,au,rfl,j8⟩;obtain⟨σ,rfl⟩:=lC aK aU bl bo cu;clear aK aU bl bo cu;by_cases Uc:(k:Int)<16
  ·have ff:k<16:=by omega
   obtain⟨a,aC⟩:∃ a,a=4*k:=⟨_,rfl⟩
   have fU:IntKind.i64.wrap (4*(k:Int))=(a:Nat) :=by rw[wrap_i64 (by omega) (by omega)]; omega
   obtain⟨a2,Dc⟩:∃ x,x=a+1:=⟨_,rfl⟩
   obtain⟨a9,KT⟩:∃ x,x=a+2:=⟨_,rfl⟩
   obtain⟨bV,KU⟩:∃ x,x=a+3:=⟨_,rfl⟩
   have bL:IntKind.i64.wrap ((a:Int)+1)=a2:=by rw[wrap_i64 (by omega) (by omega)]; omega
   have w2:IntKind.i64.wrap ((a:Int)+2)=a9:=by rw[wrap_i64 (by omega) (by omega)]; omega
   have cO:IntKind.i64.wrap ((a:Int)+3)=bV:=by rw[wrap_i64 (by omega) (by omega)]; omega
   have iG:IntKind.i64.wrap ((k:Int)+1)=k+1:=wrap_i64 (by omega) (by omega);obtain⟨hL,ow⟩:∃ x,b[a]? = some x:=⟨_,auo (by omega)⟩
   obtain⟨c1,fZ⟩:∃ x,b[a2]? = some x:=⟨_,auo (by omega)⟩
   obtain⟨dx,dW⟩:∃ x,b[a9]? = some x:=⟨_,auo (by omega)⟩
   obtain⟨lc,uk⟩:∃ x,b[bV]? = some x:=⟨_,auo (by omega)⟩
   have bY:∀ (i:Nat) (x:B),b[i]? = some x->cL (.aq 1) (cD (some b)) (.int .i64 i)=some (.bM (ca x) 0) :=fun i x af=>by rw[uJ]; simp[af]
   have ws:=bY a hL ow;have cU:=bY a2 c1 fZ;have dX:=bY a9 dx dW;have gT:=bY bV lc uk;have Mf:=anT b k ff;rw[anQ b k hL c1 dx lc (by rw[<-aC]; exact ow) (by rw[<-aC,<-Dc]; exact fZ) (by rw[<-aC,<-KT]; exact dW) (by rw[<-aC,<-KU]; exact uk)] at Mf;obtain⟨w,aX⟩:∃ w,w=((hL.setWidth 32*256#32+c1.setWidth 32)*256#32+dx.setWidth 32)*256#32+lc.setWidth 32:=⟨_,rfl⟩
   rw[<-aX] at Mf;have oC:bK 1 ([.cells 8 (h.l.map bu),.cells 8 hK]++(rest++[aV.cells 1 [bu w]])) v j (((fz b).take k).map eT) :=au.more [aV.cells 1 [bu w]];have ru:(((fz b).take k).map eT).length<=16:=by simp; omega
   obtain⟨a6,b7,cB,ad,ae,aj,aG⟩:=xP (by_:=4) oC ai (x:=.aq 1 (rest.length+2) 0 1 1 1) (xs:=[eT w]) (by simp[dD,eT]) (by simp[eT]) (by omega) (by omega) (by rw[lW]; simp; omega);have gC:bK 1 (.cells 8 (h.l.map bu) ::.cells 8 hK::cB) a6 b7 (((fz b).take (k+1)).map eT) :=by rw[Mf,auH]; exact ae
   simp only[avj,avp] at ad;have fw:cF a6=false:=by rw[aG]; simp
   simp[Uc,fU,bL,w2,cO,ws,cU,dX,gT,ca];rw[<-aX];simp[ad];refine c7.cd ?_;simp[Uc,iG,ff];exact⟨fw,b7,aj,by rw[<-awK]; exact gC,j8⟩
  ·have ff:k=16:=by omega
   subst ff;have ia:cF v=false:=by
    cases Mc:cF v with
    | false=>rfl
    | true=>exact absurd (ap Mc) (by omega)
   have yp:2<=j:=by
    rcases ai with h | h
    ·subst h; cases ia
    ·exact h
   have af1:bK 1 (.cells 8 (h.l.map bu) ::.cells 8 hK::rest) v j ((fz b).map eT) :=by
    have:(fz b).take 16=fz b:=aul (by rw[anR]; omega);rw[this] at au; exact au
   clear ap ai au;simp;refine cl 48 (fun k σ l=>σ 2=.ptr 0 0 8/\σ 4=.ptr 1 0 8/\σ 7=.int .i64 (16+k:Nat)/\∃ v j hK rest,σ 5=v/\cF v=false/\2<=j/\bK 1 l v j ((i4 k (fz b)).map eT)/\l=.cells 8 (h.l.map bu) ::.cells 8 hK::rest/\hK.length=8) ?_ ?_
   ·rintro k σ l ar ⟨aU,bl,dU,v,j,hK,rest,bo,ap,ai,au,rfl,j8⟩;obtain⟨σ,rfl⟩:=iE aU bl bo dU;clear aU bl bo dU;obtain⟨t,aW⟩:∃ t,t=16+k:=⟨_,rfl⟩
    rw[<-aW];by_cases yr:(t:Int)<64
    ·have oG:IntKind.i64.wrap ((t:Int)+1)=(t+1:Nat) :=wrap_i64 (by omega) (by omega);have al:=acH k b;obtain⟨wv,Ke⟩:∃ i,i=t - 15:=⟨_,rfl⟩
     obtain⟨dX,bw⟩:∃ i,i=t - 2:=⟨_,rfl⟩
     obtain⟨ww,F3⟩:∃ i,i=t - 16:=⟨_,rfl⟩
     obtain⟨iM,vX⟩:∃ i,i=t - 7:=⟨_,rfl⟩
     have I7:IntKind.i64.wrap ((t:Int) - 15)=wv:=by rw[wrap_i64 (by omega) (by omega)]; omega
     have w2:IntKind.i64.wrap ((t:Int) - 2)=dX:=by rw[wrap_i64 (by omega) (by omega)]; omega
     have I8:IntKind.i64.wrap ((t:Int) - 16)=ww:=by rw[wrap_i64 (by omega) (by omega)]; omega
     have Fh:IntKind.i64.wrap ((t:Int) - 7)=iM:=by rw[wrap_i64 (by omega) (by omega)]; omega
     obtain⟨hJ,yN⟩:∃ hJ,hJ=i4 k (fz b) :=⟨_,rfl⟩
     have yM:=Kn k (fz b);rw[<-yN] at al au yM;have wq:hJ.length=t:=by omega
     unfold ext at yM
     dsimp only at yM
     rw[wq,<-Ke,<-bw,<-F3,<-vX] at yM;have Gg:∀ i,i<t->hJ[i]? = some (hJ.getD i 0#32) :=fun i ay=>by rw[auB,auo (by omega)]; rfl
     obtain⟨x,af⟩:∃ x,x=hJ.getD wv 0#32:=⟨_,rfl⟩
     obtain⟨y,aJ⟩:∃ y,y=hJ.getD dX 0#32:=⟨_,rfl⟩
     obtain⟨OT,U4⟩:∃ y,y=hJ.getD ww 0#32:=⟨_,rfl⟩
     obtain⟨OU,U5⟩:∃ y,y=hJ.getD iM 0#32:=⟨_,rfl⟩
     rw[<-af,<-aJ,<-U4,<-U5] at yM;obtain⟨cap,sz,cs,rfl,wd,cW⟩:=Zg au ap;have FQ:=cW wv x (by rw[af]; exact Gg wv (by omega));have b9:=cW dX y (by rw[aJ]; exact Gg dX (by omega));have Cg:=cW ww OT (by rw[U4]; exact Gg ww (by omega));have Ch:=cW iM OU (by rw[U5]; exact Gg iM (by omega));obtain⟨w,aX⟩:∃ w,w=OT+OU+(n0 x 7 ^^^ n0 x 18 ^^^ x >>> 3)+(n0 y 17 ^^^ n0 y 19 ^^^ y >>> 10) :=⟨_,rfl⟩
     rw[<-aX] at yM;have oC:bK 1 ([.cells 8 (h.l.map bu),.cells 8 hK]++(rest++[aV.cells 1 [bu w]])) _ j (hJ.map eT) :=au.more [aV.cells 1 [bu w]];obtain⟨a6,b7,cB,ad,ae,aj,aG⟩:=xP (by_:=4) oC (.inr ai) (x:=.aq 1 (rest.length+2) 0 1 1 1) (xs:=[eT w]) (by simp[dD,eT]) (by simp[eT]) (by omega) (by omega) (by rw[lW]; simp; omega);have gC:bK 1 (.cells 8 (h.l.map bu) ::.cells 8 hK::cB) a6 b7 ((i4 (k+1) (fz b)).map eT) :=by rw[yM,auH]; exact ae
     simp only[avj,avp] at ad;have fw:cF a6=false:=by rw[aG]; rfl
     obtain⟨j9,rfl⟩:∃ j9,j=j9+2:=⟨j - 2,by omega⟩
     have sI:rest[j9]? = some (.cells sz cs) :=by simpa using wd
     have yv:(rest++[aV.cells 1 [bu w]])[j9]? = some (.cells sz cs) :=by rw[aum (b6 sI)]; exact sI
     have JM:wv<hJ.length:=by omega
     have dx:dX<hJ.length:=by omega
     have JN:ww<hJ.length:=by omega
     have tN:iM<hJ.length:=by omega
     have t7:=tt x 7 (by omega) (by omega);have t18:=tt x 18 (by omega) (by omega);have t17:=tt y 17 (by omega) (by omega);have t19:=tt y 19 (by omega) (by omega);simp at t7 t18 t17 t19;simp[yr,I7,w2,I8,Fh,JM,dx,JN,tN,sI,FQ,b9,Cg,Ch];refine a4 t7 rfl ?_;simp[sI,Cg,Ch];refine a4 t18 rfl ?_;simp[sI,Cg,Ch];refine a4 t17 rfl ?_;simp[sI,Cg,Ch];refine a4 t19 rfl ?_;simp[sI,Cg,Ch];rw[<-aX];simp[ad];refine c7.cd ?_;simp[oG];exact⟨by omega,by omega,fw,b7,aj.resolve_left (by intro e; subst e; cases fw),gC,j8⟩
    ·have ff:k=48:=by omega
     subst ff;subst aW;have sR:i4 48 (fz b)=fL b:=rfl;rw[sR] at au;obtain⟨cap,sz,cs,rfl,wd,cW⟩:=Zg au ap;obtain⟨j9,rfl⟩:∃ j9,j=j9+2:=⟨j - 2,by omega⟩
     have sI:rest[j9]? = some (.cells sz cs) :=by simpa using wd
     have bS:=E1 b;rw[bS];clear au ap ai wd;simp;refine a4 abH.Fa rfl ?_;have oB:h.l.length=8:=rfl;simp[n5,oB];refine cl 64 (fun k σ l=>σ 2=.ptr 0 0 8/\σ 4=.ptr 1 0 8/\σ 5=.aq 1 (j9+2) 0 64 cap sz/\σ 10=cE 1 eT (some b8)/\σ 11=.ptr (rest.length+2) 0 8/\σ 12=.int .i64 k/\l=.cells 8 (h.l.map bu) ::.cells 8 hK::(rest++[.cells 8 ((ng h b k).l.map bu)])) ?_ ?_
     ·rintro k σ l ar ⟨aU,bl,bo,jg,jI,lL,rfl⟩;obtain⟨σ,rfl⟩:=xm aU bl bo jg jI lL;clear aU bl bo jg jI lL;have eK:=b6 sI;have yv:∀ x:aV,(rest++[x])[j9]? = some (.cells sz cs) :=fun x=>by rw[aum eK]; exact sI
      by_cases yr:(k:Int)<64
      ·have dK:k<64:=by omega
       have fq:IntKind.i64.wrap ((k:Int)+1)=(k+1:Nat) :=wrap_i64 (by omega) (by omega);have sF:b8[k]? = some (b8.getD k 0#32) :=by rw[auB,auo (show k<b8.length from dK)]; rfl
       have ht:=cW k ((fL b).getD k 0#32) (by rw[auB,auo (by omega)]; rfl);rw[Xt h b k dK];obtain⟨iG,aX⟩:∃ iG,(fL b).getD k 0#32=iG:=⟨_,rfl⟩
       obtain⟨na,Lt⟩:∃ na,b8.getD k 0#32=na:=⟨_,rfl⟩
       obtain⟨s,ak⟩:∃ s,ng h b k=s:=⟨_,rfl⟩
       rw[aX] at ht ⊢;rw[Lt] at sF ⊢;rw[ak];have A0:cL (.aq 1) (cE 1 eT (some b8)) (.int .i64 k)=some (.bM (eT na) 0) :=by rw[uJ]; simp[sF]
       have t6:=tt s.e 6 (by omega) (by omega);have t11:=tt s.e 11 (by omega) (by omega);have t25:=tt s.e 25 (by omega) (by omega);have t2:=tt s.a 2 (by omega) (by omega);have t13:=tt s.a 13 (by omega) (by omega);have t22:=tt s.a 22 (by omega) (by omega);simp at t6 t11 t25 t2 t13 t22;have agA:s.l=[s.a,s.b,s.c,s.d,s.e,s.f,s.g,s.h] :=rfl;have UM:(round s na iG).l=[(round s na iG).a,(round s na iG).b,(round s na iG).c,(round s na iG).d,(round s na iG).e,(round s na iG).f,(round s na iG).g,(round s na iG).h] :=rfl;simp[yr,agA,A0,eT,yv,ht];refine a4 t6 rfl ?_;simp[A0,eT,yv,ht];refine a4 t11 rfl ?_;simp[A0,eT,yv,ht];refine a4 t25 rfl ?_;simp[A0,eT,yv,ht];refine a4 t2 rfl ?_;simp[A0,eT,yv,ht];refine a4 t13 rfl ?_;simp[A0,eT,yv,ht];refine a4 t22 rfl ?_;simp[n5,dK,fq];rfl
      ·have ff:k=64:=by omega
       subst ff;rw[Xs];obtain⟨v,ap⟩:∃ v,rounds h b8 (fL b)=v:=⟨_,rfl⟩
       rw[ap];have h8:grind h b=⟨h.a+v.a,h.b+v.b,h.c+v.c,h.d+v.d,h.e+v.e,h.f+v.f,h.g+v.g,h.h+v.h⟩:=by unfold grind; rw[ap]
       have qi:h.l.length=v.l.length:=rfl;have oB:h.l.length=8:=rfl;have uu:(grind h b).l=jb h.l v.l 8:=by rw[h8]; rfl
       rw[uu];simp;refine cl 8 (fun k σ l=>σ 2=.ptr 0 0 8/\σ 4=.ptr 1 0 8/\σ 11=.ptr (rest.length+2) 0 8/\σ 21=.int .i64 k/\l=.cells 8 ((jb h.l v.l k).map bu) ::.cells 8 hK::(rest++[.cells 8 (v.l.map bu)])) ?_ ?_
       ·rintro k σ l ar ⟨aU,bl,jI,tX,rfl⟩;obtain⟨σ,rfl⟩:=iE aU bl jI tX;clear aU bl jI tX;by_cases iz:(k:Int)<8
        ·have uw:k<8:=by omega
         have fq:IntKind.i64.wrap ((k:Int)+1)=(k+1:Nat) :=wrap_i64 (by omega) (by omega);obtain⟨y,aJ⟩:∃ y,v.l[k]? = some y:=⟨_,auo (show k<v.l.length from uw)⟩
         obtain⟨z,ax⟩:∃ z,h.l[k]? = some z:=⟨_,auo (show k<h.l.length from uw)⟩
         have aC:=Ph qi (k:=k) (by rw[oB]; exact uw);rw[ax] at aC;have hb:=JA qi k;have rG:=pD bu (jb h.l v.l k) k (z+y) (by rw[hb,oB]; exact uw);rw[Pj qi ax aJ] at rG;have T3:(List.map bu (jb h.l v.l k))[k]? = some (bu z) :=by rw[auq,aC]; rfl
         have AG:k<=7:=by omega
         obtain⟨A,du⟩:∃ A,A=(jb h.l v.l k).map bu:=⟨_,rfl⟩
         have lj:A.length=8:=by rw[du,auw,hb,oB]
         rw[<-du] at T3 rG ⊢;obtain⟨adu,ae8⟩:=auk.1 T3;simp[iz,uw,fq,ae8,aJ,rG,lj,AG]
        ·have ff:k=8:=by omega
         subst ff;have hb:=JA qi 8;have HE:∀ A:List U,A.length=8->A.take 8=A:=fun A du=>aul (by omega)
         obtain⟨A,du⟩:∃ A,A=(jb h.l v.l 8).map bu:=⟨_,rfl⟩
         have lj:A.length=8:=by rw[du,auw,hb,oB]
         have Al:a5 A=true:=by rw[du]; exact mS bu (fun _=>rfl) _
         rw[<-du];simp[n5,j8,lj,HE A lj];exact aQ rfl (by simp[U.closed,Al])
       ·simp[Pk]
     ·simp[Xu];exact aul (by simp[oB])
   ·refine⟨rfl,rfl,rfl,v,j,hK,rest,rfl,ia,yp,af1,rfl,j8⟩
 ·simp;exact⟨0,.nil 0⟩
def r1 (k:Nat) :List B:=128#8::List.replicate k 0#8
theorem akc (k:Nat) :r1 (k+1)=r1 k++[0#8] :=by simp[r1,List.replicate_succ']
theorem WU (k:Nat) :(r1 k).length=k+1:=by simp[r1]
set_option maxHeartbeats 8000000 in
theorem alm (n:Nat) (aD:n<=100000000) :gy Tryz.prog GS 204 [.int .i64 n] (cD (some (tail n))) :=by
 have lW:cw=140737488355328:=rfl;refine Bp Tryz.checked.mixed bn ?_;apply bq Tryz.func204 [];obtain⟨m,hm⟩:∃ m,m=(119 - n % 64) % 64:=⟨_,rfl⟩
 simp;refine cl m (fun k σ l=>σ 0=.int .i64 n/\∃ v j,σ 3=v/\cF v=false/\bK 1 l v j ((r1 k).map ca)) ?_ ?_
 ·rintro k σ l ar ⟨cb,v,j,a1,ap,au⟩;obtain⟨σ,rfl⟩:=pG cb a1;clear cb a1;have bC:=au.len;rw[auw,WU] at bC;obtain⟨bZ,Hc⟩:∃ bZ,bZ=k+1:=⟨_,rfl⟩
  rw[<-Hc] at bC;have oG:IntKind.i64.wrap ((n:Int)+(bZ:Int))=(n+bZ:Nat) :=wrap_i64 (by omega) (by omega);obtain⟨q,a7⟩:∃ q,q=n+bZ:=⟨_,rfl⟩
  rw[<-a7] at oG;have mv:IntKind.i64.wrap ((q:Int)+8)=(q+8:Nat) :=wrap_i64 (by omega) (by omega);obtain⟨Iu,LU⟩:∃ Iu,Iu=q+8:=⟨_,rfl⟩
  rw[<-LU] at mv;have rC:=zL Iu 64 (by omega);rw[show ((64:Int).toNat)=64 from rfl] at rC;obtain⟨x,af⟩:∃ x,x=Iu % 64:=⟨_,rfl⟩
  rw[<-af] at rC;simp[bC,oG,mv,rC];by_cases U3:x=0
  ·have rr:k=m:=by omega
   subst rr;have L6:r1 k=oa n 0:=by unfold r1 oa; rw[<-hm]; simp
   rw[L6] at au;clear bC oG mv rC;simp[U3];refine cl 8 (fun k σ l=>σ 0=.int .i64 n/\σ 4=.int .i64 (7 - (k:Int))/\∃ v j,σ 3=v/\cF v=false/\bK 1 l v j ((oa n k).map ca)) ?_ ?_
   ·rintro k σ l ar ⟨cb,bl,v,j,a1,ap,au⟩;obtain⟨σ,rfl⟩:=lB cb a1 bl;clear cb a1 bl;obtain⟨c,ah⟩:∃ c:Int,c=7 - (k:Int) :=⟨_,rfl⟩
    rw[<-ah];by_cases iz:0<=c
    ·have AG:k<8:=by omega
     have rJ:IntKind.i64.wrap (c - 1)=7 - ((k:Int)+1) :=by rw[wrap_i64 (by omega) (by omega)]; omega
     obtain⟨d,bf⟩:∃ d,d=8*c:=⟨_,rfl⟩
     have Me:IntKind.i64.wrap (8*c)=d:=by rw[wrap_i64 (by omega) (by omega)]; omega
     have K4:0<=d:=by omega
     have aeK:d.toNat=56 - 8*k:=by omega
     have af:=P6 (BitVec.ofNat 64 n*8#64) k AG;have lY:=IZ n k;obtain⟨y,aJ⟩:∃ y,y=(((BitVec.ofNat 64 n*8#64) >>> (56 - 8*k)).setWidth 8) :=⟨_,rfl⟩
     rw[<-aJ] at af;have oC:bK 1 (l++[aV.cells 1 [bA y]]) v j ((oa n k).map ca) :=au.more _;obtain⟨a6,b7,l',ad,ae,aj,aG,bh,bF⟩:=o0 (by_:=1) oC (x:=.aq 1 l.length 0 1 1 1) (xs:=[[bA y]]) (by simp[dD]) (by simp) (by omega) (by omega) (by simp; omega);have fw:cF a6=false:=by rw[wz bF,ap]; rfl
     have gC:bK 1 l' a6 b7 ((oa n (k+1)).map ca) :=by rw[YP n k y af,auH]; exact ae
     rw[BitVec.mul_comm] at aJ;simp only[bA] at ad;simp[iz,Me,K4,aeK];rw[<-aJ];simp[ad];refine c7.cd ?_;simp[rJ,AG];exact⟨fw,b7,gC⟩
    ·have ff:k=8:=by omega
     subst ff;simp[iz];exact au.ET (fun _=>rfl) (some (tail n)) ap rfl
   ·simp;exact⟨ap,_,au⟩
  ·have lY:=WU k;have oC:bK 1 (l++[aV.cells 1 [bA 0#8]]) v j ((r1 k).map ca) :=au.more _;obtain⟨a6,b7,l',ad,ae,aj,aG,bh,bF⟩:=o0 (by_:=1) oC (x:=.aq 1 l.length 0 1 1 1) (xs:=[[bA 0#8]]) (by simp[dD]) (by simp) (by omega) (by omega) (by simp; omega);have fw:cF a6=false:=by rw[wz bF,ap]; rfl
   have gC:bK 1 l' a6 b7 ((r1 (k+1)).map ca) :=by rw[akc,auH]; exact ae
   have rr:k<m:=by omega
   simp[bA] at ad;simp[U3,ad];refine c7.cd ?_;simp[rr];exact⟨fw,b7,gC⟩
 ·simp;exact⟨rfl,0,.aq 0 1 1 1 [.int .u8 128] _ rfl rfl rfl (by intro e am; simp[r1] at am; subst am; rfl) (aun _) (aun _) rfl⟩
set_option maxHeartbeats 8000000 in
theorem alf (h:e1) (b:List B) (ag:b.length<=100000000) :bz Tryz.prog GS 202 [.aF (h.l.map bu),cD (some b)] (.aF ((h0 h b).1.l.map bu)) :=by
 refine bX Tryz.checked.mixed bn ?_;apply bq Tryz.func202 [];have HE:∀ A:List U,A.length=8->A.take 8=A:=fun A du=>aul (by omega)
 have T5:∀ s:e1,(s.l.map bu).length=8:=fun s=>rfl
 obtain⟨Jj,C0⟩:∃ Jj,Jj=h.l.map bu:=⟨_,rfl⟩
 have ads:Jj.length=8:=by rw[C0]; rfl
 rw[<-C0];simp[ads];refine cl (b.length / 64) (fun k σ l=>σ 1=cD (some b)/\σ 2=.ptr 0 0 8/\σ 4=.ptr 1 0 8/\σ 5=.int .i64 (64*k:Nat)/\∃ s hK,h0 s (b.drop (64*k))=h0 h b/\l=[.cells 8 (s.l.map bu),.cells 8 hK]/\hK.length=8) ?_ ?_
 ·rintro k σ l ar ⟨aK,aU,bl,bo,s,hK,ak,rfl,j8⟩;obtain⟨σ,rfl⟩:=iE aK aU bl bo;clear aK aU bl bo;obtain⟨a,aC⟩:∃ a,a=64*k:=⟨_,rfl⟩
  rw[<-aC] at ak ⊢;obtain⟨a2,Dc⟩:∃ a2,a2=64*(k+1) :=⟨_,rfl⟩
  rw[<-Dc];obtain⟨A,du⟩:∃ A,A=s.l.map bu:=⟨_,rfl⟩
  have lj:A.length=8:=by rw[du]; rfl
  rw[<-du];have aX:IntKind.i64.wrap ((a:Int)+64)=a2:=by rw[wrap_i64 (by omega) (by omega)]; omega
  by_cases dO:a2<=b.length
  ·have DD:(a2:Int)<=b.length:=by omega
   have bS:fl (.aq 1) (cD (some b)) (some (.int .i64 (a:Int))) (some (.int .i64 (a2:Int))) none=some (cD (some ((b.drop a).take 64))) :=by
    unfold cD; rw[Yj (by omega) (by omega) (by omega)];have:(a2:Int).toNat - (a:Int).toNat=64:=by omega
    rw[this,auS]
   have fP:64<=((b.drop a).take 64).length:=by simp; omega
   have h8:=adk s _ fP;have sE:grind s ((b.drop a).take 64)=grind s (((b.drop a).take 64)) :=rfl;rw[<-du] at h8;have b5:h0 (grind s ((b.drop a).take 64)) (b.drop a2)=h0 h b:=by
    rw[<-ak,Cd s (b.drop a) (by simp; omega),awX];congr 2; omega
   have dK:k<b.length / 64:=by omega
   have Al:a5 A=true:=by rw[du]; exact mS bu (fun _=>rfl) _
   obtain⟨Ji,KD⟩:∃ Ji,Ji=(grind s ((b.drop a).take 64)).l.map bu:=⟨_,rfl⟩
   have adv:Ji.length=8:=by rw[KD]; rfl
   rw[<-KD] at h8;simp[aX,dO,DD,lj,HE A lj,bS];refine a4 h8 (by simp[a5,U.closed,Al,mT]) ?_;simp[n5,lj,adv,aX,dK];exact⟨_,b5,hK,⟨KD,rfl⟩,j8⟩
  ·have DD:¬(a2:Int)<=b.length:=by omega
   have am:=ak;rw[FL s (b.drop a) (by simp; omega)] at am;rw[<-am];have Al:a5 A=true:=by rw[du]; exact mS bu (fun _=>rfl) _
   simp[aX,dO,DD,lj,HE A lj,n5,j8];exact aQ (by rw[du]) (by rw[du] at Al; simp[U.closed,Al])
 ·exact⟨rfl,rfl,rfl,rfl,h,rep 8 (.int .u32 0),rfl,by rw[C0]; rfl,rfl⟩
def tb (s:e1) (k:Nat) :List B:=(written s).take k++List.replicate (32 - k) 0#8
theorem aj0 (s:e1) (k:Nat) (ar:k<=32) :(tb s k).length=32:=by
 unfold tb;have:=Je s;simp; omega
theorem aj1 (s:e1) (k:Nat) (x:B) (af:(written s)[k]? = some x) :(tb s k).set k x=tb s (k+1) :=by
 have ar:k<32:=(auk.1 af).1;unfold tb;have al:(List.take k (written s)).length=k:=by have:=Je s; simp; omega
 rw[avt _ _ (by omega),al,awq,auP,af,show 32 - k=(32 - (k+1))+1 by omega,avc,awi];simp
theorem anX (s:e1) (k:Nat) (ar:k<32) :∃ w,s.l[k / 4]? = some w/\(written s)[k]? = some ((w >>> (24 - 8*(k % 4))).setWidth 8) :=by
 have aI:∀ w:W,w=w >>> 0:=fun w=>by simp
 obtain⟨a,b,c,d,e,f,g,h⟩:=s;have:∀ (l:List W) (k:Nat),k<4*l.length->∃ w,l[k / 4]? = some w/\(l.map ve).flatten[k]? = some ((w >>> (24 - 8*(k % 4))).setWidth 8) :=by
  intro l
  induction l with
  | nil=>intro k ar; simp at ar
  | cons w l aR=>
   intro k ar
   match k,ar with
   | 0,_=>exact⟨w,rfl,rfl⟩
   | 1,_=>exact⟨w,rfl,rfl⟩
   | 2,_=>exact⟨w,rfl,rfl⟩
   | 3,_=>refine⟨w,rfl,?_⟩; simp[ve]
   | k+4,ar=>
    obtain⟨y,ad,ae⟩:=aR k (by simp at ar; omega);refine⟨y,?_,?_⟩
    ·rw[show (k+4) / 4=k / 4+1 by omega]; exact ad
    ·rw[show (k+4) % 4=k % 4 by omega]; exact ae
 exact this _ k (by simpa [e1.l] using ar)
set_option maxHeartbeats 8000000 in
theorem alo (s:e1) :bz Tryz.prog GS 201 [.aF (s.l.map bu)] (gF (written s)) :=by
 refine bX Tryz.checked.mixed bn ?_;apply bq Tryz.func201 [];obtain⟨A,du⟩:∃ A,A=s.l.map bu:=⟨_,rfl⟩
 have lj:A.length=8:=by rw[du]; rfl
 rw[<-du];simp[lj];refine cl 32 (fun k σ l=>σ 1=.ptr 0 0 8/\σ 2=.ptr 1 0 32/\σ 3=.ptr 2 0 32/\σ 4=.int .i64 k/\∃ hK,l=[.cells 8 A,.cells 32 hK,.cells 32 ((tb s k).map bA)]/\hK.length=32) ?_ ?_
 ·rintro k σ l ar ⟨aK,aU,a1,bl,hK,rfl,j8⟩;obtain⟨σ,rfl⟩:=iE aK aU a1 bl;clear aK aU a1 bl;by_cases Lo:(k:Int)<32
  ·have dK:k<32:=by omega
   have fq:IntKind.i64.wrap ((k:Int)+1)=(k+1:Nat) :=wrap_i64 (by omega) (by omega);have LV:=JX k 4 (by omega) (by omega);have rC:=zL k 4 (by omega);rw[show ((4:Int).toNat)=4 from rfl] at LV rC;obtain⟨w,aX,af⟩:=anX s k dK;obtain⟨q,a7⟩:∃ q,q=k / 4:=⟨_,rfl⟩
   obtain⟨r,az⟩:∃ r,r=k % 4:=⟨_,rfl⟩
   rw[<-a7] at LV aX;rw[<-az] at rC af;have LU:q<8:=by omega
   obtain⟨EQ,UM⟩:∃ EQ,EQ=8*r:=⟨_,rfl⟩
   have Me:IntKind.i64.wrap (8*(r:Int))=EQ:=by rw[wrap_i64 (by omega) (by omega)]; omega
   obtain⟨Iv,agu⟩:∃ Iv,Iv=24 - EQ:=⟨_,rfl⟩
   have agW:IntKind.i64.wrap (24 - (EQ:Int))=Iv:=by rw[wrap_i64 (by omega) (by omega)]; omega
   have lr:=aj1 s k _ af;rw[<-UM,<-agu] at af lr;have cS:=aj0 s k (by omega);have rG:=pD bA (tb s k) k ((w >>> Iv).setWidth 8) (by rw[cS]; exact dK);rw[lr] at rG;obtain⟨O,eu⟩:∃ O,O=(tb s k).map bA:=⟨_,rfl⟩
   have mY:O.length=32:=by rw[eu,auw,cS]
   rw[<-eu] at rG ⊢;have adw:A[q]? = some (bu w) :=by rw[du,auq,aX]; rfl
   obtain⟨adu,adx⟩:=auk.1 adw;have agp:q<=7:=by omega
   have afs:k<=31:=by omega
   have agq:(q:Int)<8:=by omega
   simp[Lo,dK,fq,LV,rC,Me,agW,lj,LU,adx,mY,rG,j8,agp,afs,agq]
  ·have ff:k=32:=by omega
   subst ff;have au:tb s 32=written s:=by unfold tb; rw[aul (by rw[Je]; omega)]; simp
   rw[au];obtain⟨O,eu⟩:∃ O,O=(written s).map bA:=⟨_,rfl⟩
   have mY:O.length=32:=by rw[eu,auw,Je]
   have adT:a5 O=true:=by rw[eu]; exact mS bA (fun _=>rfl) _
   have aW:O.take 32=O:=aul (by omega);unfold gF;rw[<-eu];simp[mY,aW,n5,j8];exact aQ rfl (by simp[U.closed,adT])
 ·refine⟨rfl,rfl,rfl,rfl,_,rfl,rfl⟩
set_option maxHeartbeats 8000000 in
theorem XI (s:eZ) (ak:s.l.length<=1000000) :bz Tryz.prog GS 171 [cD s] (gF (iU s.l)) :=by
 have lW:cw=140737488355328:=rfl;refine bX Tryz.checked.mixed bn ?_;apply bq Tryz.func171 [];simp;refine a4 acQ rfl ?_;have ajC:bK 1 ([aV.cells 32 (rep 32 (U.int IntKind.u8 0))]++[aV.cells 0 []]) (.aq 1 1 0 0 0 0) 1 [] :=.aq 1 0 0 0 [] _ rfl rfl rfl (by simp) (aun _) (aun _) rfl;obtain⟨v,j,r,ad,ae,aj,aG⟩:=xP (by_:=1) ajC (.inr (aun _)) (x:=cD s) (xs:=s.l.map ca) (by unfold cD; rw[vS,auw]) (by intro e am; obtain⟨x,_,rfl⟩:=auR.1 am; rfl) (by omega) (by omega) (by rw[lW]; simp; omega);have ap:cF v=false:=by rw[aG]; rfl
 simp only[avp,List.singleton_append] at ad ae;have bC:ce (.aq 1) (cD s)=some (.int .i64 s.l.length) :=s5 _;have lY:=alm s.l.length (by omega);have HF:(tail s.l.length).length<=80:=by rw[<-Ov]; exact IZ _ _
 obtain⟨a6,b7,cB,bZ,cc,eF,hv⟩:=xP (by_:=1) (pre:=[aV.cells 32 (rep 32 (U.int IntKind.u8 0))]) ae aj (x:=cD (some (tail s.l.length))) (xs:=(tail s.l.length).map ca) (by unfold cD; rw[vS,auw]; rfl) (by intro e am; obtain⟨x,_,rfl⟩:=auR.1 am; rfl) (by omega) (by omega) (by rw[lW]; simp; omega);have fw:cF a6=false:=by rw[hv,ap]; rfl
 rw[<-auH] at cc;simp only[List.singleton_append] at bZ cc;have m6:=cc.wZ (fun _=>rfl) (some (s.l++tail s.l.length)) fw rfl;have fP:=alf first (s.l++tail s.l.length) (by simp; omega)
 have nO:=alo (h0 first (s.l++tail s.l.length)).1;have pj:iU s.l=written (h0 first (s.l++tail s.l.length)).1:=rfl;rw[<-pj] at nO;obtain⟨F,ot⟩:∃ F,F=(h0 first (s.l++tail s.l.length)).1:=⟨_,rfl⟩
 rw[<-ot] at fP nO;simp[ad];refine c7.cd ?_;simp[bC];refine a4 lY.Fa rfl ?_;simp[bZ];refine c7.cd ?_;simp;refine l7 fP (.cons (.same _ ?_) (.cons m6 .nil)) (SE bu (fun _=>rfl) _) ?_
 ·simp[U.closed,mS bu (fun _=>rfl)]
 simp;refine a4 nO ?_ ?_
 ·simp[a5,U.closed,mS bu (fun _=>rfl)]
 have bS:=xb s.l;simp[gF,bS,n5,aul];exact aQ rfl (by simp[U.closed,mS bA (fun _=>rfl)])
end hl

end Go.b0

namespace Go.b0
open Go Go.Proofs Go.RowKit
set_option maxRecDepth 100000
open hl
theorem Y2 {e:TypeId} (aM:Tryz.prog.underlying e=some (.int .u8)) :∀ (n:Nat) {ts:List TypeId} {cs:List U},dR Tryz.prog (List.replicate n e++ts) cs->∃ (x:List B) (cs' : List U),cs=x.map bA++cs'/\x.length=n/\dR Tryz.prog ts cs'
 | 0,ts,cs,h=>⟨[],cs,rfl,rfl,h⟩
 | n+1,ts,cs,h=>by
  obtain⟨k,xU,rfl,ad,ae,aj⟩:=xj aM h;obtain⟨x,hO,rfl,af,aG⟩:=Y2 aM n aj;have bh:(0:Int)<=k:=ad;have bF:k<=255:=ae;refine⟨BitVec.ofNat 8 k.toNat::x,hO,?_,by simp[af],aG⟩;have:((BitVec.ofNat 8 k.toNat).toNat:Int)=k:=by
   rw[auK,aux (by omega)]; omega
  simp[bA,u]; omega
theorem Y4 {ts:List TypeId} {cs:List U} (h:dR Tryz.prog (86::ts) cs) :∃ (x:BitVec 64) (cs' : List U),cs=dS x::cs'/\dR Tryz.prog ts cs':=by
 obtain⟨k,xU,rfl,ad,ae,aj⟩:=xj (k:=.u64) (by kernel_rfl) h;have bh:(0:Int)<=k:=ad;have bF:k<=18446744073709551615:=ae;refine⟨BitVec.ofNat 64 k.toNat,xU,?_,aj⟩;have:((BitVec.ofNat 64 k.toNat).toNat:Int)=k:=by
  rw[auK,aux (by omega)]; omega
 simp[dS,u]; omega
theorem Y1 {ts:List TypeId} {cs:List U} (h:mL Tryz.prog (3::ts) cs) :∃ (n:Int) (cs' : List U),cs=.int .i64 n::cs'/\IntKind.i64.min<=n/\n<=IntKind.i64.max/\mL Tryz.prog ts cs':=by
 obtain⟨c,cs',rfl,ad,ae⟩:=Y0 h;obtain⟨n,xU,ak,al,ay,aj⟩:=xj (k:=.i64) (by kernel_rfl) (amS (by kernel_rfl) ad);cases ak;exact⟨n,cs',rfl,al,ay,ae⟩
def MK:List Int:=hl.b8.map fun k=>(k.toNat:Int)
theorem amz:BI=MK.map fun k=>.int .u32 k:=by unfold BI MK; rw[av9]; rfl
theorem aip {W:World} (h:laidMetH Tryz.prog [("braid/digest.constants",Go.Proofs.YtidejmkknleijaaGreatDoor.Rows.laid_braid_digest_constants)] W) :∀ g,ed W (fun _=>True) (GS g) (.pointer (some ⟨g,0,none⟩)) :=by
 intro g;unfold GS;split
 ·rename_i ag;have:=auW ag;subst this;rw[MakeChecks.laidMetH_plain _ _ _ (by kernel_rfl)] at h;obtain⟨ps,⟨cb,t0,pY,f0,kg,cy,Ds,L6,ia,K4,_,_⟩,_,_⟩:=h;have aP:Tryz.prog.globalNamed "braid/digest.constants"=some 1:=by kernel_rfl
  have bw:(Tryz.prog.globals[1]?).map (·.type)=some 264:=by kernel_rfl
  obtain rfl:=Option.some.inj (aP.symm.trans Ds);obtain rfl:=Option.some.inj (bw.symm.trans L6);rw[amz];exact adc MK aP ia (n:=64) (e:=85) (by kernel_rfl) (by kernel_rfl) (by kernel_rfl) K4 (by rfl)
 ·exact .bad _
end Go.b0

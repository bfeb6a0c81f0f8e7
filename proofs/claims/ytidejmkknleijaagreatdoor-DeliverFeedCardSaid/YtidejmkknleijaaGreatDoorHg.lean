/-
  The canonical machine: slices.Insert of one element into a row of one's own.
-/
import Derived.Test.YtidejmkknleijaaGreatDoorHf
import Derived.Lib.AppendZerosOnto
import Derived.ProofKit
import Derived.Test.YtidejmkknleijaaGreatDoorRows
import Derived.LaidMore
import Derived.MakeChecks
set_option linter.unusedVariables false
set_option linter.unusedSimpArgs false
set_option linter.unnecessarySimpa false
namespace Go.bV
open Go Go.Proofs Go.Shelf
structure C7 (P:Program) (f:FuncId) (T I e z:Nat) :Prop where
 Av:P.underlying T=some (.slice e)
 apB:P.underlying I=some (.int .i64)
 fin:∀ (base:Option Addr) (n c eu fp hn:Nat) (r:Value) (w w' : World),n<=c->n<=4611686018427387904->(base=none->n=0/\c=0)->
  (Builtin.append_ #[T,T] T #[.slice base n c,.slice (some ⟨fp,hn,none⟩) 1 eu]).run P w=.ok r w'->
  Calls P f #[.slice base n c,.int .i64 n,.slice (some ⟨fp,hn,none⟩) 1 eu] w fun x w2=>x=.returned r/\w2=w'
 shift:∀ (b off n c i fp hn eu:Nat) (bZ ce:Value) (w cH dU:World) (Ap fx:TypeId) (rg tX:Nat),i<n->n+1<=c->n<=4611686018427387904->fp≠b->
  w.shape? fp=some (Ap,rg)->w.shape? b=some (fx,tX)->tX≠0->w.frozen? ⟨fp,hn,none⟩=false->w.frozen? ⟨fp,rg,none⟩=false->
  (Builtin.copy_ #[T,T] I #[.slice (some ⟨b,off+(i+1)*z,none⟩) (n - i) (c - (i+1)),.slice (some ⟨b,off+i*z,none⟩) (n+1 - i) (c - i)]).run P w.drew=.ok bZ cH->
  (Builtin.copy_ #[T,T] I #[.slice (some ⟨b,off+i*z,none⟩) (n+1 - i) (c - i),.slice (some ⟨fp,hn,none⟩) 1 eu]).run P cH=.ok ce dU->
  Calls P f #[.slice (some ⟨b,off,none⟩) n c,.int .i64 i,.slice (some ⟨fp,hn,none⟩) 1 eu] w fun x w2=>x=.returned (.slice (some ⟨b,off,none⟩) (n+1) c)/\w2=dU
 grow:∀ (b off n c i fp hn eu N G:Nat) (bZ ce:Value) (w rT cH dU:World),i<n->n<=c->c<n+1->n+1<=G->n<=4611686018427387904->
  (Builtin.append_ #[T,I] T #[.slice (some ⟨b,off,none⟩) i c,.int .i64 ((n:Int)+1 - (i:Int))]).run P w=.ok (.slice (some ⟨N,0,none⟩) (n+1) G) rT->
  (Builtin.copy_ #[T,T] I #[.slice (some ⟨N,i*z,none⟩) (n+1 - i) (G - i),.slice (some ⟨fp,hn,none⟩) 1 eu]).run P rT=.ok bZ cH->
  (Builtin.copy_ #[T,T] I #[.slice (some ⟨N,(i+1)*z,none⟩) (n - i) (G - (i+1)),.slice (some ⟨b,off+i*z,none⟩) (n - i) (c - i)]).run P cH.drew=.ok ce dU->
  Calls P f #[.slice (some ⟨b,off,none⟩) n c,.int .i64 i,.slice (some ⟨fp,hn,none⟩) 1 eu] w fun x w2=>x=.returned (.slice (some ⟨N,0,none⟩) (n+1) G)/\w2=dU
section
variable {P:Program} {G:Nat->U} {R:Nat->Prop} {B:Nat} {w:World} {h:aO} {μ:cr}
theorem Jv (rel:bP R B w h μ) {b sz o n:Nat} {cs:List U} {m:M} (af:h.f b=.cells sz cs) (hm:μ b=some m) (c7:o+n<=sz) :
  ∃ vs:List Value,uK w R h μ ((cs.drop o).take n) vs/\(loadCells ⟨m.r,m.s+o,none⟩ n).run P w=.ok vs.toArray w:=by
 have ey:=rel.blk b m hm;rw[af] at ey;obtain⟨eb,eA,arr,e,e4,az,ew,o7,mg⟩:=ey;have bA:((cs.drop o).take n).length=n:=by rw[axd,axP]; omega
 obtain⟨vs,b0,al⟩:=PQ (P:=P) (w:=w) (R:=R) (h:=h) (μ:=μ) (w2:=w) (xs:=(cs.drop o).take n) (blk:=m.r) (o:=m.s+o) (fun _=>rfl) (fun j c ai=>by
  have aL:j<n:=by have:=(awQ.1 ai).1; omega
  rw[axm aL,axv] at ai;obtain⟨v,ad,ae,aj⟩:=mg (o+j) c ai;refine⟨v,?_,ae,aj⟩;simp only[World.cell?,az,ay8];rw[aym];exact ad)
 refine⟨vs,b0,?_⟩;have:=al n (by omega) w (fun _=>rfl)
 rwa [awR (by rw[b0.1,bA]; exact awU _)] at this
theorem HA (rel:bP R B w h μ) {t u ty e z:Nat} (lm:P.underlying t=some (.slice e)) (aw:cC P e=some z) {b sz k:Nat} {cs:List U} {m:M} (af:h.f b=.cells sz cs) (hm:μ b=some m) (ar:k<=sz)
  {dLen dc sLen sc cnt:Nat} {a:Addr} {xs:List U} {vs:List Value} (Io:Nat.min sLen dLen=cnt) (bp:xs.length=cnt*z) (ahy:(loadCells a (cnt*z)).run P w=.ok vs.toArray w)
  (b0:uK w R h μ xs vs) (eA:m.s+max sz (k+cnt*z)<=m.T) :
  ∃ w',(Builtin.copy_ #[t,u] ty #[.slice (some ⟨m.r,m.s+k,none⟩) dLen dc,.slice (some a) sLen sc]).run P w=.ok (goInt cnt) w' ∧
   dg w h μ w' (h.set b (.cells (max sz (k+cnt*z)) (bf cs k xs))) μ/\bP R B w' (h.set b (.cells (max sz (k+cnt*z)) (bf cs k xs))) μ:=by
 obtain⟨w',ad,ae,aj⟩:=AA (P:=P) rel (cvs:=xs) (vs:=vs) (k:=k) af hm ar b0.1 (by rw[bp]; exact eA) b0.2;rw[bp] at ae aj;refine⟨w',?_,ae,aj⟩;simp[Builtin.copy_,cB lm,Builtin.lenOf,Builtin.firstCells,fQ aw,Io,ahy,ad]
theorem ZJ {bO:World} {ad:aO} {ha:cr} (m1:bP R B bO ad ha) (ex:dg w h μ bO ad ha) {b z n nc ns:Nat} {row:List U} {v:Value} (aF:ad.f=bB h.f b (.cells ns row)) (aC:ad.n=h.n) (tH:ns=nc*z) (aJ:0<n) (pQ:b<h.n)
  (ao:aQ bO R ad ha (.aq z b 0 n nc ns) v) :
  ∃ μ',dg w h μ bO ((h.set b .dead).push (.cells ns row)) μ'/\bP R B bO ((h.set b .dead).push (.cells ns row)) μ'/\aQ bO R ((h.set b .dead).push (.cells ns row)) μ' (.aq z h.n 0 n nc ns) v:=by
 have gB:ad.f b=.cells ns row:=by rw[aF,hV]
 cases ao with
 | hO _ _ _ _ _ _ _ _ _ _ ax=>
  exfalso;rcases ax with ax | ⟨fY,cs',ax,aL⟩
  ·rw[gB] at ax; cases ax
  ·rw[gB] at ax; cases ax; omega
 | i3=>omega
 | aq _ _ _ _ _ _ cap' qH m me hm al av c8=>
  have rb:=m1.ZI (b:=b) (off:=0) (m:=m) (h':=(h.set b .dead).push (.cells ns row)) gB hm (ax2 _) (by
   rw[ep,dZ,e2,aF,aC];funext x;simp only[bB,azc,ax5];by_cases ae:x=h.n
   ·rw[if_pos ae,if_pos ae]
   ·rw[if_neg ae,if_neg ae];split<;>rfl) (by rw[fJ,e2,aC])
  refine⟨_,ex.trans rb.1,rb.2,?_⟩;rw[aC];exact .aq z h.n 0 n nc ns cap' row ⟨m.r,m.s+0,m.T⟩ (by rw[ep,e2,hV]) (by simp) al av (by
   rcases c8 with c8 | ⟨mf,mP,BD⟩
   ·omega
   ·exact .inr ⟨mf,mP,by simpa using BD⟩)
theorem Rv (w:World) :RowKit.Below w.heap.size w w.drew:=⟨rfl,rfl,rfl,awU _,fun _ _=>rfl⟩
theorem ajq {z i len:Nat} {cs vs:List U} (kp:vs.length=z) (ay:i<len) (al:len*z<=cs.length) :
  bf (bf cs ((i+1)*z) ((cs.drop (i*z)).take ((len - i)*z))) (i*z) vs=ph z cs vs i len:=by
 have ad:(i+1)*z=i*z+z:=by rw[axw]
 have ae:(i+1)*z<=len*z:=awX _ ay;have aj:i*z+(len - i)*z=len*z:=by rw[<-axL]; congr 1; omega
 have aD:(len+1)*z=len*z+z:=by rw[axw]
 have Bs:((cs.drop (i*z)).take ((len - i)*z)).length=(len - i)*z:=by rw[axd,axP]; omega
 have dA:(cs.take ((i+1)*z)).length=i*z+z:=by rw[axd]; omega
 unfold ph bf;rw[Bs,kp];have aS:(i+1)*z+(len - i)*z=(len+1)*z:=by omega
 rw[aS,axH (cs.take ((i+1)*z)),axs (by rw[dA]; omega),ayx,show min (i*z) ((i+1)*z)=i*z by omega];rw[show i*z+z=(cs.take ((i+1)*z)).length by rw[dA],List.drop_left];simp only[axH]
theorem ajn {z i len:Nat} {cs vs:List U} (kp:vs.length=z) (ay:i<len) (al:len*z=cs.length) :
  bf (bf (cs.take (i*z)) (i*z) vs) ((i+1)*z) ((cs.drop (i*z)).take ((len - i)*z))=ph z cs vs i len:=by
 have ad:(i+1)*z=i*z+z:=by rw[axw]
 have ae:(i+1)*z<=len*z:=awX _ ay;have aj:i*z+(len - i)*z=len*z:=by rw[<-axL]; congr 1; omega
 have aD:(len+1)*z=len*z+z:=by rw[axw]
 have dA:(cs.take (i*z)).length=i*z:=by rw[axd]; omega
 have fA:bf (cs.take (i*z)) (i*z) vs=cs.take (i*z)++vs:=by
  unfold bf;rw[axA (by rw[dA]; omega),axr,awR (by rw[dA]; exact awU _)]
 rw[fA];unfold ph bf;have aS:(cs.take (i*z)++vs).take ((i+1)*z)=cs.take (i*z)++vs:=awR (by rw[awW,dA,kp]; omega);have bt:∀ k,(cs.take (i*z)++vs).drop ((i+1)*z+k)=[] :=fun k=>axA (by rw[awW,dA,kp]; omega)
 have er:cs.drop ((len+1)*z)=[] :=axA (by omega);rw[aS,bt,er]
theorem akR (a b z:Nat) :max a b*z=max (a*z) (b*z) :=by
 rcases Nat.le_total a b with h | h
 ·rw[azH h,azH (awX _ h)]
 ·rw[azS h,azS (awX _ h)]
theorem ajg {T e z by_:Nat} (ew:jc P T=some e) (aw:cC P e=some z) (dM:k7 P e=some by_) (sh:0<z) (y9:0<by_) (ii:ux P e=some z)
  {b io len cap:Nat} {cs vs:List U} (af:h.f b=.cells (cap*z) cs) (eb:cs.length=cap*z) (lP:h.f io=.cells z vs) (kp:vs.length=z) (q4:len<=cap) (dC:(len+1)*by_<=ci) :
  tf P h T (.aq z b 0 len cap (cap*z)) (.aq z io 0 1 1 z)=some (.aq z b 0 (len+1) (max cap (len+1)) (max cap (len+1)*z),h.set b (.cells (max cap (len+1)*z) (ph z cs vs len len))) :=by
 have aD:(len+1)*z=len*z+z:=by rw[axw]
 have dN:len*z<=cap*z:=awX _ q4;have b0:ph z cs vs len len=cs.take (len*z)++vs++cs.drop ((len+1)*z) :=by simp[ph]
 have nA:(vs.drop 0).take (1*z)=vs:=by rw[ax5,azg,awR (by omega)]
 unfold tf;rw[ew];simp only[aw,dM,contents,lP,and_self,if_true,nA];unfold wA;rw[if_neg (by omega),if_neg (by rw[ii]; simp; omega)];simp only[af,true_and,dC,if_true];by_cases aF:len+1<=cap
 ·have IJ:(len+1)*z<=cap*z:=awX _ aF;rw[if_pos aF,azS aF,b0];simp only[bf,axV,kp,<-aD]
 ·obtain rfl:len=cap:=by omega
  rw[if_neg aF,if_neg (by omega),azH (by omega),b0,axA (by omega),axr]
theorem aji {f T I e z by_:Nat} (L:C7 P f T I e z) (ew:jc P T=some e) (aw:cC P e=some z) (dM:k7 P e=some by_) (sh:0<z) (y9:0<by_) (ii:ux P e=some z)
  {b io len cap i:Nat} {cs vs:List U} (af:h.f b=.cells (cap*z) cs) (lP:h.f io=.cells z vs) (bY:io≠b) (ay:i<=len) (q4:len<=cap) (dC:(len+1)*by_<=ci) :
  rI P G f [.aq z b 0 len cap (cap*z),.int .i64 i,.aq z io 0 1 1 z] h (.aq z h.n 0 (len+1) (max cap (len+1)) (max cap (len+1)*z)) ((h.set b .dead).push (.cells (max cap (len+1)*z) (ph z cs vs i len))) :=by
 intro R B w μ eJ rel y3 al ao;obtain⟨rE⟩:=eJ
 match rE,al with
 | [v0,cu,b4],_=>
 have ko:=ao 0 _ v0 rfl rfl;have nA:=ao 1 _ cu rfl rfl;have fH:=ao 2 _ b4 rfl rfl;have NL:=fH;cases nA;have u7:len<=4611686018427387904:=by
  have:=Nat.le_mul_of_pos_right (len+1) y9;unfold ci at dC;omega
 have Nf:Cq P T:=⟨_,L.Av,fun k ar=>by cases ar⟩
 have mR:=akR cap (len+1) z;have aD:(len+1)*z=len*z+z:=by rw[axw]
 have dN:len*z<=cap*z:=awX _ q4;cases fH with
 | hO _ _ _ _ _ _ _ _ _ _ ax=>
  exfalso;rcases ax with ax | ⟨fY,cs',ax,aL⟩
  ·rw[lP] at ax; cases ax
  ·rw[lP] at ax; cases ax; omega
 | aq _ _ _ _ _ _ eu KC fX agp tE og vv lf=>
 have Es:=rel.blk io fX tE;rw[lP] at Es;obtain⟨kp,asX,Rl,c2,ass,NC,asI,VK,asS⟩:=Es;by_cases ec:i=len
 ·subst ec;have ahD:∃ a cap',v0=.slice (some a) i cap'/\i<=cap'/\cs.length=cap*z/\b<h.n:=by
   cases ko with
   | hO _ _ _ _ _ _ _ _ _ _ ax=>
    exfalso;rcases ax with ax | ⟨fY,cs',ax,aL⟩
    ·rw[af] at ax; cases ax
    ·rw[af] at ax; cases ax; omega
   | i3 _ _ _ _ a qH m me hm=>
    have ey:=rel.blk b m hm;rw[af] at ey;exact⟨a,0,rfl,awU _,ey.1,rel.nU hm⟩
   | aq _ _ _ _ _ _ cap' qH m me hm al av c8=>
    have ey:=rel.blk b m hm;rw[af] at ey;exact⟨_,cap',rfl,by omega,ey.1,rel.nU hm⟩
  obtain⟨a,cap',rfl,BO,eb,pQ⟩:=ahD;obtain⟨v,bO,ha,fV,tz,Nz,vE⟩:=Ld (P:=P) (ty:=T) (u:=T) rel Nf (ajg (P:=P) ew aw dM sh y9 ii af eb lP kp q4 dC) ko NL;refine (L.fin (some a) i cap' eu fX.r (fX.s+0) v w bO BO u7 (fun h=>by cases h) fV).mono ?_;rintro x w2 ⟨rfl,rfl⟩;obtain⟨μ',ad,ae,aj⟩:=ZJ (h:=h) Nz tz (b:=b) (row:=ph z cs vs i i) (ns:=max cap (i+1)*z) (dZ _ _ _) rfl rfl (by omega) pQ vE;exact⟨v,μ',rfl,ad,ae,aj⟩
 have EI:i<len:=by omega
 have asw:(i+1)*z=i*z+z:=by rw[axw]
 have asy:(i+1)*z<=len*z:=awX _ EI;have asz:i*z+(len - i)*z=len*z:=by rw[<-axL]; congr 1; omega
 cases ko with
 | hO _ _ _ _ _ _ _ _ _ _ ax=>
  exfalso;rcases ax with ax | ⟨fY,cs',ax,aL⟩
  ·rw[af] at ax; cases ax
  ·rw[af] at ax; cases ax; omega
 | i3=>omega
 | aq _ _ _ _ _ _ cap' qH m me hm as4 av c8=>
 rw[af] at me; cases me;have ey:=rel.blk b m hm;rw[af] at ey;obtain⟨eb,asW,arr,r2,e4,az,asH,o7,mg⟩:=ey;obtain⟨mP,BD⟩:cap<=cap'/\m.s+cap'*z<=m.T:=by
  rcases c8 with c8 | ⟨mf,mP,BD⟩
  ·omega
  ·exact⟨mP,by simpa using BD⟩
 have pQ:=rel.nU hm;have Nb:fX.r≠m.r:=fun am=>bY (rel.inj io b fX m (by rw[lP]; rfl) (by rw[af]; rfl) tE hm am)
 have nA:(vs.drop 0).take z=vs:=by rw[ax5,awR (by omega)]
 have UV:((cs.drop (i*z)).take ((len - i)*z)).length=(len - i)*z:=by rw[axd,axP]; omega
 by_cases eA:len+1<=cap'
 ·have IJ:(len+1)*z<=cap'*z:=awX _ eA;obtain⟨pE,oB⟩:=PA rel (w':=w.drew) (Rv w);obtain⟨cn,I7,M7⟩:=Jv (P:=P) oB (o:=i*z) (n:=(len - i)*z) af hm (by omega);obtain⟨cH,qX,oZ,m1⟩:=HA (P:=P) (t:=T) (u:=T) (ty:=I) oB L.Av aw (k:=(i+1)*z) af hm (by omega) (dLen:=len - i) (dc:=cap' - (i+1)) (sLen:=len+1 - i) (sc:=cap' - i) (cnt:=len - i)
   (by simp only[azU]; split<;>omega) UV M7 I7 (by omega)
  have vB:max (cap*z) ((i+1)*z+(len - i)*z)=max cap (len+1)*z:=by omega
  rw[vB] at oZ m1;have gB:(h.set b (.cells (max cap (len+1)*z) (bf cs ((i+1)*z) ((cs.drop (i*z)).take ((len - i)*z))))).f b=.cells (max cap (len+1)*z) (bf cs ((i+1)*z) ((cs.drop (i*z)).take ((len - i)*z))) :=by rw[dZ,hV]
  have agq:(h.set b (.cells (max cap (len+1)*z) (bf cs ((i+1)*z) ((cs.drop (i*z)).take ((len - i)*z))))).f io=.cells z vs:=by rw[dZ,b5 _ _ _ _ bY]; exact lP
  obtain⟨JA,vA,M8⟩:=Jv (P:=P) m1 (o:=0) (n:=z) agq tE (by omega);rw[nA] at vA;obtain⟨dU,qY,pF,sQ⟩:=HA (P:=P) (t:=T) (u:=T) (ty:=I) m1 L.Av aw (k:=i*z) gB hm (by omega) (dLen:=len+1 - i) (dc:=cap' - i) (sLen:=1) (sc:=eu) (cnt:=1)
   (by simp only[azU]; split<;>omega) (by omega) (by rw[azg]; exact M8) vA (by omega)
  have vC:max (max cap (len+1)*z) (i*z+1*z)=max cap (len+1)*z:=by omega
  rw[vC,ajq kp EI (by omega)] at pF sQ;have zg:w.frozen? ⟨fX.r,fX.s+0,none⟩=false:=by
   simp only[World.frozen?,NC];rcases VK with aJ | aJ
   ·subst aJ; simp
   ·simp; intro aj; omega
  have zh:w.frozen? ⟨fX.r,Rl.size,none⟩=false:=by
   simp only[World.frozen?,NC];rcases VK with aJ | aJ
   ·subst aJ; simp
   ·simp; intro aj; omega
  refine (L.shift m.r m.s len cap' i fX.r (fX.s+0) eu _ _ w cH dU c2 r2 Rl.size arr.size EI eA u7 Nb (by simp[World.shape?,NC]) (by simp[World.shape?,az]) (by omega) zg zh qX qY).mono ?_;rintro x w2 ⟨rfl,rfl⟩;obtain⟨μ',ad,ae,aj⟩:=ZJ (h:=h) sQ ((pE.trans oZ).trans pF) (b:=b) (row:=ph z cs vs i len) (ns:=max cap (len+1)*z) (n:=len+1) (nc:=max cap (len+1)) (z:=z) (v:=.slice (some ⟨m.r,m.s+0,none⟩) (len+1) cap') (by
   rw[dZ,dZ];funext y;simp only[bB];split<;>rfl) rfl rfl (by omega) pQ (.aq z b 0 (len+1) (max cap (len+1)) (max cap (len+1)*z) cap' _ m (by rw[dZ,hV]) hm (by omega) (by omega) (.inr ⟨by omega,by omega,by simpa using BD⟩))
  exact⟨_,μ',rfl,ad,ae,aj⟩
 ·obtain rfl:cap=len:=by omega
  obtain rfl:cap'=cap:=by omega
  obtain⟨xr,zv,MQ,mu,kq⟩:=abF ii;have sn:xr.size=z:=by simp[cC,MQ] at aw; exact aw
  have mO:xr.bytes=by_:=by simp[k7,MQ] at dM; exact dM
  have ez:contents h z (.aq z b 0 i cap' (cap'*z))=some ((cs.drop 0).take (i*z),i) :=by simp[contents,af]
  obtain⟨dP,_,fZ,iK,zx⟩:=wW (P:=P) rel ez (aQ.aq z b 0 i cap' (cap'*z) cap' cs m af hm (by omega) (by omega) (.inr ⟨by omega,awU _,by simpa using BD⟩));have EY:=zx i (awU _) w.drew (fun _=>rfl);rw[awR (by rw[iK.1,dP]; exact awU _)] at EY;rw[ax5] at iK dP;have WE:(cap'+1)*xr.bytes<=ci:=by rw[mO]; exact dC
  have ob:i+(cap'+1 - i)=cap'+1:=by omega
  have asN:(cap'+1 - i)*xr.bytes<=(cap'+1)*xr.bytes:=awX _ (by omega);have md:=Lib.run_append_grow_zeros w T I T e xr zv .i64 .i64 L.Av L.apB MQ mu (some ⟨m.r,m.s+0,none⟩) i cap' fZ (by rw[sn]; exact EY) (cap'+1 - i) (by omega) (by omega) (by omega) (by omega) (by unfold ci at WE; omega)
   (by rw[ob]; have:=growslice_fits (old:=cap') (need:=cap'+1) (by omega) WE; omega)
  rw[ob] at md;obtain⟨s6,UX⟩:∃ s6,s6=grownCap w (cap'+1) cap' e:=⟨_,rfl⟩
  have UZ:cap'+1<=s6:=by rw[UX]; exact grownCap_ge w _ _ _
  rw[<-UX] at md;obtain⟨ROW,H0⟩:∃ ROW:Array Value,ROW=fZ.toArray++Builtin.zeroCells zv.cells (cap'+1 - i)++Builtin.zeroCells zv.cells (s6 - (cap'+1)) :=⟨_,rfl⟩
  rw[<-H0] at md;have asG:(cap'+1)*z<=ROW.size:=by
   have aS:i*z+(cap'+1 - i)*z=(cap'+1)*z:=by rw[<-axL]; congr 1
   rw[H0];simp only[azA,azB,Builtin.zeroCells];simp[kq,iK.1];omega
  have dA:(cs.take (i*z)).length=i*z:=by rw[axd]; omega
  obtain⟨pE,oB⟩:=rel.push (w':=w.drew.alloc (.cells ROW e)) (cs.take (i*z)) ROW e rfl rfl rfl rfl (by omega) (fun j c ai=>by
   obtain⟨v,aK,aW,a6⟩:=iK.2 j c ai;refine⟨v,?_,aW,a6⟩;have aL:j<fZ.length:=(awQ.1 aK).1;rw[H0,ay7,ax3 (by simpa using aL)];simpa using aK)
  rw[dA] at pE oB;have Ii:b≠h.n:=by omega
  have asR:=rel.nU tE;have Vq:io≠h.n:=by omega
  have oi:(bB μ h.n (some ⟨w.heap.size,0,ROW.size⟩)) h.n=some ⟨w.heap.size,0,ROW.size⟩:=hV _ _ _;have ahK:(bB μ h.n (some ⟨w.heap.size,0,ROW.size⟩)) io=some fX:=by rw[b5 _ _ _ _ Vq]; exact tE
  have ahE:(bB μ h.n (some ⟨w.heap.size,0,ROW.size⟩)) b=some m:=by rw[b5 _ _ _ _ Ii]; exact hm
  have agc:(h.push (.cells (i*z) (cs.take (i*z)))).f h.n=.cells (i*z) (cs.take (i*z)) :=by rw[ep,hV]
  have age:(h.push (.cells (i*z) (cs.take (i*z)))).f io=.cells z vs:=by rw[ep,b5 _ _ _ _ Vq]; exact lP
  obtain⟨JA,I7,M7⟩:=Jv (P:=P) oB (o:=0) (n:=z) age ahK (by omega);rw[nA] at I7;obtain⟨cH,qX,oZ,m1⟩:=HA (P:=P) (t:=T) (u:=T) (ty:=I) oB L.Av aw (k:=i*z) agc oi (awU _) (dLen:=cap'+1 - i) (dc:=s6 - i) (sLen:=1) (sc:=eu) (cnt:=1)
   (by simp only[azU]; split<;>omega) (by omega) (by rw[azg]; exact M7) I7 (by simp only; omega)
  have vB:max (i*z) (i*z+1*z)=(i+1)*z:=by omega
  rw[vB] at oZ m1;obtain⟨aeG,ZC⟩:=PA m1 (w':=cH.drew) (Rv cH);have agd:((h.push (.cells (i*z) (cs.take (i*z)))).set h.n (.cells ((i+1)*z) (bf (cs.take (i*z)) (i*z) vs))).f h.n=.cells ((i+1)*z) (bf (cs.take (i*z)) (i*z) vs) :=by rw[dZ,hV]
  have Vn:((h.push (.cells (i*z) (cs.take (i*z)))).set h.n (.cells ((i+1)*z) (bf (cs.take (i*z)) (i*z) vs))).f b=.cells (cap'*z) cs:=by rw[dZ,b5 _ _ _ _ Ii,ep,b5 _ _ _ _ Ii]; exact af
  obtain⟨cn,vA,M8⟩:=Jv (P:=P) ZC (o:=i*z) (n:=(cap' - i)*z) Vn ahE (by omega);obtain⟨dU,qY,pF,sQ⟩:=HA (P:=P) (t:=T) (u:=T) (ty:=I) ZC L.Av aw (k:=(i+1)*z) agd oi (awU _) (dLen:=cap' - i) (dc:=s6 - (i+1)) (sLen:=cap' - i) (sc:=cap' - i) (cnt:=cap' - i)
   (by simp only[azU]; split<;>omega) UV M8 vA (by simp only; omega)
  have vC:max ((i+1)*z) ((i+1)*z+(cap' - i)*z)=(cap'+1)*z:=by omega
  rw[vC,ajn kp EI (by omega)] at pF sQ;simp only[axV] at qX qY;have BS:max cap' (cap'+1)=cap'+1:=by omega
  rw[BS];refine (L.grow m.r (m.s+0) cap' cap' i fX.r (fX.s+0) eu w.heap.size s6 _ _ w _ cH dU EI (awU _) (by omega) UZ u7 ?_ qX qY).mono ?_
  ·have:(cap' : Int)+1 - (i:Int)=((cap'+1 - i:Nat) :Int) :=by omega
   rw[this];exact md
  rintro x w2 ⟨rfl,rfl⟩;have ar:=sQ.kill (b:=b) (sz:=cap'*z) (cs:=cs) (h':=(h.set b .dead).push (.cells ((cap'+1)*z) (ph z cs vs i cap'))) (by rw[dZ,b5 _ _ _ _ Ii]; exact Vn) (by rw[e2,e2,fJ]; omega) (by
   rw[ep,dZ,e2,dZ,dZ,ep];funext y;simp only[bB];by_cases ad:y=h.n
   ·rw[if_pos ad,if_neg (by omega),if_pos ad]
   ·rw[if_neg ad];split
    ·rfl
    ·simp[ad]) (by rw[fJ,e2,e2,e2,fJ])
  refine⟨_,_,rfl,(((pE.trans oZ).trans aeG).trans pF).trans ar.1,ar.2,?_⟩;have:=aQ.aq (w:=w2) (R:=R) (h:=(h.set b .dead).push (.cells ((cap'+1)*z) (ph z cs vs i cap'))) (μ:=bB μ h.n (some ⟨w.heap.size,0,ROW.size⟩)) z h.n 0 (cap'+1) (cap'+1) ((cap'+1)*z) s6 (ph z cs vs i cap') ⟨w.heap.size,0,ROW.size⟩ (by rw[ep,e2,hV]) (by simp) (awU _) (by omega) (.inr ⟨by omega,UZ,by
   simp only;have aS:i*z+(cap'+1 - i)*z=(cap'+1)*z:=by rw[<-axL]; congr 1
   have bt:(cap'+1)*z+(s6 - (cap'+1))*z=s6*z:=by rw[<-axL]; congr 1; omega
   rw[H0];simp only[azA,azB,Builtin.zeroCells];simp[kq,iK.1];omega⟩)
  simpa using this
theorem ajh {f T I e z by_:Nat} (L:C7 P f T I e z) (ew:jc P T=some e) (aw:cC P e=some z) (dM:k7 P e=some by_) (sh:0<z) (y9:0<by_) (ii:ux P e=some z)
  {io:Nat} {vs:List U} (lP:h.f io=.cells z vs) (dC:by_<=ci) :
  rI P G f [.aG,.int .i64 0,.aq z io 0 1 1 z] h (.aq z h.n 0 1 1 z) (h.push (.cells z vs)) :=by
 intro R B w μ eJ rel y3 al ao;obtain⟨rE⟩:=eJ
 match rE,al with
 | [v0,cu,b4],_=>
 have ko:=ao 0 _ v0 rfl rfl;have nA:=ao 1 _ cu rfl rfl;have fH:=ao 2 _ b4 rfl rfl;have NL:=fH;cases nA;have aiC:=ko;cases ko;have Nf:Cq P T:=⟨_,L.Av,fun k ar=>by cases ar⟩
 cases fH with
 | hO _ _ _ _ _ _ _ _ _ _ ax=>
  exfalso;rcases ax with ax | ⟨fY,cs',ax,aL⟩
  ·rw[lP] at ax; cases ax
  ·rw[lP] at ax; cases ax; omega
 | aq _ _ _ _ _ _ eu KC fX agp tE og vv lf=>
 have Es:=rel.blk io fX tE;rw[lP] at Es;obtain⟨kp,_⟩:=Es;have aE:tf P h T .aG (.aq z io 0 1 1 z)=some (.aq z h.n 0 1 1 z,h.push (.cells z vs)) :=by
  have nA:(vs.drop 0).take (1*z)=vs:=by rw[ax5,azg,awR (by omega)]
  unfold tf;rw[ew];simp only[aw,dM,contents,lP,and_self,if_true,nA];unfold wA;rw[if_neg (by omega),if_neg (by rw[ii]; simp; omega)];simp only[azg,dC,if_true]
 obtain⟨v,bO,ha,fV,tz,Nz,vE⟩:=Ld (P:=P) (ty:=T) (u:=T) rel Nf aE aiC NL;refine (L.fin none 0 0 eu fX.r (fX.s+0) v w bO (awU _) (by omega) (fun _=>⟨rfl,rfl⟩) fV).mono ?_;rintro x w2 ⟨rfl,rfl⟩;exact⟨v,ha,rfl,tz,Nz,vE⟩
theorem Xc {f T I e z by_:Nat} (L:C7 P f T I e z) (ew:jc P T=some e) (aw:cC P e=some z) (dM:k7 P e=some by_) (sh:0<z) (y9:0<by_) (ii:ux P e=some z)
  (args:List U) (h:aO) (r:U) (h' : aO) (ag:tT z by_ args h=some (r,h')) :rI P G f args h r h':=by
 unfold tT at ag;split at ag
 ·rename_i s x y;split at ag
  ·rename_i i gy io hB br b7 iC vG;have sr:x=.int .i64 i:=by
    unfold Rm at vG;split at vG
    ·split at vG
     ·cases vG; rfl
     ·cases vG
    ·cases vG
   subst sr;split at ag
   ·rename_i eR vs lP;split at ag
    ·rename_i ah;obtain⟨rfl,rfl,rfl,rfl,rfl,rfl,aJ⟩:=ah;obtain⟨k,rfl⟩:=axY aJ;rw[axq] at ag;unfold Fm at ag;cases s<;>simp only at ag<;>try (cases ag; done)
     case aG=>
      split at ag
      ·rename_i ah;obtain⟨rfl,az⟩:=ah;cases ag;exact ajh L ew aw dM sh y9 ii lP az
      ·cases ag
     case aq g1 b off len cap sz=>
      cases af:h.f b<;>rw[af] at ag<;>(try simp only at ag)<;>try (cases ag; done)
      split at ag
      ·rename_i ah;obtain⟨rfl,rfl,rfl,rfl,bY,ay,q4,az⟩:=ah;cases ag;exact aji L ew aw dM sh y9 ii af lP bY ay q4 az
      ·cases ag
    ·cases ag
   ·cases ag
  ·cases ag
 ·cases ag
end

end Go.bV

namespace Go.bV
open Go
section
variable (P:Program)
abbrev qv:=List (List Nat)
def aat (ops:Array Oper) (o:Oper) (i:Nat) (dK:List Nat) (b1:Bool) :dp:=
 let g:=match o.guard with | none=>none | some fE=>some (match ops[fE.1]? with | some dG=>dG.dst | none=>none,fE.2)
 match nY P o.op with
 | some m=>⟨i,o.dst,g,.gR m,dK,b1⟩
 | none=>match o.op with
  | .call c=>match c.callee with
   | .value (.func f)=>⟨i,o.dst,g,.nb f c.args.toList,dK,b1⟩
   | .value x=>⟨i,o.dst,g,.nd x c.args.toList,dK,b1⟩
   | .invoke x name=>⟨i,o.dst,g,.oV x name c.args.toList,dK,b1⟩
   | _=>⟨i,none,none,.gR .stop,[],false⟩
  | _=>⟨i,none,none,.gR .stop,[],false⟩
def aaw (ops:Array Oper) :List Oper->Nat->List dp
 | [],_=>[]
 | o::r,i=>aat P ops o i [] false::aaw ops r (i+1)
def Xa (i:Nat) :List Nat->Bool
 | []=>false
 | x::r=>match Nat.beq i x with | true=>true | false=>Xa i r
def XO (i:Nat) :qv->Bool
 | []=>false
 | p::r=>match Xa i p.tail with | true=>true | false=>XO i r
def Q9:qv->Bool
 | []=>false
 | p::r=>match p.tail with | []=>Q9 r | _=>true
def Qa (ops:Array Oper) (q:qv) (n:Nat) :qv->List dp
 | []=>aaw P ops (ops.toList.drop n) n
 | p::r=>(match p with
  | []=>⟨0,none,none,.gR .stop,[],false⟩
  | i::c=>match ops[i]? with | some o=>aat P ops o i c (XO i q) | none=>⟨0,none,none,.gR .stop,[],false⟩) ::Qa ops q n r
def Pz (ops:Array Oper) (p:qv) :fM:=match Q9 p with
 | true=>.yW (Qa P ops p p.length p)
 | false=>.l3 (Qa P ops p p.length p)
def aoJ (a b:fM) :fM:=match a with
 | .skip=>b
 | a=>match b with
  | .skip=>a
  | b=>.seq a b
def xI:Code->List qv->fM × List qv
 | .skip,p=>(.skip,p)
 | .label _,p=>(.skip,p)
 | .ret,p=>(.ret,p)
 | .exit id,p=>(.exit id,p)
 | .region _ ops true,p=>match p with
  | []=>(Pz P ops [],[])
  | x::p=>(Pz P ops x,p)
 | .region _ ops false,p=>(Pz P ops [],p)
 | .seq a b,p=>match xI a p with | (a,p)=>match xI b p with | (b,p)=>(aoJ a b,p)
 | .cond c a b,p=>match xI a p with | (a,p)=>match xI b p with | (b,p)=>(.cond c a b,p)
 | .block id c,p=>match xI c p with | (c,p)=>(.block id c,p)
 | .loop c,p=>match xI c p with | (c,p)=>(.loop c,p)
 | .scope c,p=>xI c p
 | _,p=>(.skip,p)
def xJ (fn:Func) (p:List qv) :fM:=match fn.body with
 | some c=>(xI P c p).1
 | none=>.skip
def vR:List ResultVar->List db
 | []=>[]
 | x::r=>(match LI P x with | some m=>m | none=>.stop) ::vR r
end
theorem qg (x:U) (t:List U) :x::x::x::x::x::x::x::x::x::x::x::x::x::x::x::x::x::x::x::x::x::x::x::x::x::x::x::x::x::x::x::x::t=rep 32 x++t:=rfl
theorem Kc (x:U) (t:List U) :rep 32 x++(rep 32 x++t)=rep 64 x++t:=rfl
theorem afh {P:Program} {f:FuncId} {fn:Func} (aF:P.funcs[f]? = some fn) (p:List qv) {c:fM} {ms:List db}
  (ah:xJ P fn p=c:=by conv=>lhs; (cbv; try simp only[qg,Kc,axr]))
  (az:vR P fn.results.toList=ms:=by conv=>lhs; cbv)
  (ar:(wS P f,wT P f)=(some (xJ P fn p),some (vR P fn.results.toList)) :=by kernel_rfl)
  {G:Nat->U} {args:List U} {l:ap} {K:uD} (h:run P G c (l8 args) l (Fy P G ms K.k)) :c5 P G f args l (c:=K) :=by
 rw[ah,az] at ar;exact Hs (Prod.mk.inj ar).1 (Prod.mk.inj ar).2 h
theorem bn {P:Program} {f:FuncId} {fn:Func} (aF:P.funcs[f]? = some fn) (p:List qv) {T:Tables} {F:Array Func} {c:fM} {ms:List db} (ew:P=⟨T,F⟩:=by rfl)
  (ah:xJ ⟨T,#[]⟩ fn p=c:=by conv=>lhs; (cbv; try simp only[qg,Kc,axr]))
  (az:vR ⟨T,#[]⟩ fn.results.toList=ms:=by conv=>lhs; cbv)
  (ar:(wS P f,wT P f)=(some (xJ ⟨T,#[]⟩ fn p),some (vR ⟨T,#[]⟩ fn.results.toList)) :=by kernel_rfl)
  {G:Nat->U} {args:List U} {l:ap} {K:uD} (h:run P G c (l8 args) l (Fy P G ms K.k)) :c5 P G f args l (c:=K) :=by
 rw[ah,az] at ar;exact Hs (Prod.mk.inj ar).1 (Prod.mk.inj ar).2 h
def afg {P:Program} {f:FuncId} {fn:Func} (aF:P.funcs[f]? = some fn) (p:List qv) {c:fM} {ms:List db}
  (ah:xJ P fn p=c:=by conv=>lhs; (cbv; try simp only[qg,Kc,axr]))
  (az:vR P fn.results.toList=ms:=by conv=>lhs; cbv)
  (ar:(wS P f,wT P f)=(some (xJ P fn p),some (vR P fn.results.toList)) :=by kernel_rfl) :{x:fM × List db // G5 P f x}:=
 ⟨(c,ms),by rw[ah,az] at ar; exact⟨(Prod.mk.inj ar).1,(Prod.mk.inj ar).2⟩⟩
def cA {P:Program} {f:FuncId} {fn:Func} (aF:P.funcs[f]? = some fn) (p:List qv) {T:Tables} {F:Array Func} {c:fM} {ms:List db} (ew:P=⟨T,F⟩:=by rfl)
  (ah:xJ ⟨T,#[]⟩ fn p=c:=by conv=>lhs; (cbv; try simp only[qg,Kc,axr]))
  (az:vR ⟨T,#[]⟩ fn.results.toList=ms:=by conv=>lhs; cbv)
  (ar:(wS P f,wT P f)=(some (xJ ⟨T,#[]⟩ fn p),some (vR ⟨T,#[]⟩ fn.results.toList)) :=by kernel_rfl) :{x:fM × List db // G5 P f x}:=
 ⟨(c,ms),by rw[ah,az] at ar; exact⟨(Prod.mk.inj ar).1,(Prod.mk.inj ar).2⟩⟩
end Go.bV

namespace Go.bV
open Go Go.Proofs
set_option maxRecDepth 100000
set_option maxHeartbeats 8000000
noncomputable def RT:=cA Tryz.func11 []
noncomputable def R7:=cA Tryz.func13 []
noncomputable def Hq:=cA Tryz.func15 []
noncomputable def Sk:=cA Tryz.func17 []
noncomputable def Ss:=cA Tryz.func19 []
noncomputable def Su:=cA Tryz.func21 []
noncomputable def Sv:=cA Tryz.func24 [[[0],[1],[2],[3,2,1]],[[0],[1],[2],[3],[4],[5,2]]]
noncomputable def Sw:=cA Tryz.func25 []
noncomputable def Sx:=cA Tryz.func26 []
noncomputable def Sy:=cA Tryz.func27 []
noncomputable def Sz:=cA Tryz.func28 []
noncomputable def SA:=cA Tryz.func29 [[[0],[1],[2],[3],[4],[5],[6],[7],[8],[9],[10],[11],[12],[13],[14],[15,11,9,7,5],[16,11,9]]]
noncomputable def SB:=cA Tryz.func33 []
noncomputable def SC:=cA Tryz.func34 [[[0],[1],[2],[3],[4,2]]]
noncomputable def SD:=cA Tryz.func35 []
noncomputable def SE:=cA Tryz.func36 [[[0],[1],[2],[3,2]],[[0],[1],[2],[3,2]]]
noncomputable def SF:=cA Tryz.func38 []
noncomputable def SG:=cA Tryz.func43 []
noncomputable def SH:=cA Tryz.func46 []
noncomputable def SI:=cA Tryz.func48 []
noncomputable def SJ:=cA Tryz.func53 []
noncomputable def SK:=cA Tryz.func54 []
noncomputable def SL:=cA Tryz.func55 []
noncomputable def SM:=cA Tryz.func56 [[[0],[1],[2],[3],[4],[6],[5,0]]]
noncomputable def SO:=cA Tryz.func60 []
noncomputable def SP:=cA Tryz.func61 []
noncomputable def SQ:=cA Tryz.func62 []
noncomputable def SR:=cA Tryz.func63 []
noncomputable def SS:=cA Tryz.func64 [[[0],[1],[2],[3],[4],[5],[6],[7],[8],[9,1]]]
noncomputable def SU:=cA Tryz.func65 []
noncomputable def SV:=cA Tryz.func66 []
noncomputable def SW:=cA Tryz.func67 []
noncomputable def SX:=cA Tryz.func68 []
noncomputable def SY:=cA Tryz.func69 []
noncomputable def SZ:=cA Tryz.func71 []
noncomputable def S0:=cA Tryz.func72 []
noncomputable def S1:=cA Tryz.func75 []
noncomputable def S2:=cA Tryz.func76 []
noncomputable def S3:=cA Tryz.func78 []
noncomputable def S4:=cA Tryz.func80 []
noncomputable def S5:=cA Tryz.func81 []
noncomputable def S6:=cA Tryz.func82 [[[0],[1],[2],[3],[5],[6],[7],[9],[10],[11],[12],[4,12,11,7,0],[8,12,11,0]]]
noncomputable def S7:=cA Tryz.func83 []
noncomputable def S8:=cA Tryz.func84 [[[0],[1],[2],[3],[4],[6],[7],[8],[9],[5,9,8]]]
noncomputable def S9:=cA Tryz.func86 []
noncomputable def Ta:=cA Tryz.func88 [[[0],[1],[2],[4],[5],[3,5],[7],[8],[6]],[[0],[1],[2],[3],[4],[5],[7],[8],[9],[10],[6,10]],[[0],[1],[2],[3],[4],[5],[6],[7],[8],[9],[10],[11],[12],[13,3]]]
noncomputable def Tb:=cA Tryz.func89 [[[0],[1],[2],[3,1]],[[0],[1],[2],[3],[4],[5],[6],[7],[8],[10],[11],[12],[13],[14],[15],[16],[9,16,15,13]],[[0],[1],[2,1]]]
noncomputable def Tc:=cA Tryz.func93 []
noncomputable def Td:=cA Tryz.func94 []
noncomputable def Te:=cA Tryz.func95 []
noncomputable def Tf:=cA Tryz.func96 []
noncomputable def Tg:=cA Tryz.func97 []
noncomputable def Th:=cA Tryz.func98 []
noncomputable def Ti:=cA Tryz.func99 [[[0],[1],[2],[3],[4],[5],[6],[10],[11],[12],[7,11],[8,11],[9]]]
noncomputable def RN:=cA Tryz.func100 []
noncomputable def RO:=cA Tryz.func101 []
noncomputable def RP:=afg Tryz.func104 []
noncomputable def RQ:=cA Tryz.func107 []
noncomputable def RR:=cA Tryz.func108 []
noncomputable def RS:=cA Tryz.func109 []
noncomputable def RU:=cA Tryz.func110 []
noncomputable def RV:=cA Tryz.func111 []
noncomputable def RW:=cA Tryz.func114 []
noncomputable def RX:=cA Tryz.func115 []
noncomputable def RY:=cA Tryz.func116 []
noncomputable def RZ:=cA Tryz.func117 []
noncomputable def R0:=cA Tryz.func120 []
noncomputable def R1:=cA Tryz.func121 []
noncomputable def R2:=cA Tryz.func122 []
noncomputable def R3:=cA Tryz.func123 []
noncomputable def R4:=cA Tryz.func124 []
noncomputable def R5:=cA Tryz.func125 [[[0],[1],[3],[4],[7],[2,7,4],[5,7],[6]],[[0],[1],[2],[3],[4],[5],[6],[7],[8],[9,1]]]
noncomputable def R6:=cA Tryz.func128 []
noncomputable def R8:=cA Tryz.func134 []
noncomputable def R9:=cA Tryz.func135 []
noncomputable def Sa:=cA Tryz.func136 []
noncomputable def Sb:=cA Tryz.func137 []
noncomputable def Sc:=cA Tryz.func138 []
noncomputable def Sd:=cA Tryz.func139 []
noncomputable def Se:=cA Tryz.func149 []
noncomputable def Sf:=cA Tryz.func152 []
noncomputable def Sg:=cA Tryz.func153 []
noncomputable def Sh:=cA Tryz.func156 []
noncomputable def Si:=cA Tryz.func157 []
noncomputable def Sj:=cA Tryz.func164 []
noncomputable def Sl:=cA Tryz.func175 [[[0],[1],[3],[2,3]]]
noncomputable def Sm:=cA Tryz.func176 [[],[],[[0],[1],[2],[3],[4],[5],[6],[7],[8],[9],[10],[11],[12],[13],[14],[16],[17],[18],[19],[20],[21],[22],[23],[24],[25],[26],[27],[28],[29],[30],[15,30,29,27,23,19,17],[32],[31]]]
noncomputable def Sn:=cA Tryz.func177 []
noncomputable def Sp:=cA Tryz.func178 []
noncomputable def Sq:=cA Tryz.func180 []
noncomputable def Sr:=cA Tryz.func187 []
noncomputable def St:=cA Tryz.func206 []
noncomputable def aaP:cE (fM × List db) :=(.node (.node (.node (.node (.node (.node (.node .nil (some SR.1) .nil) none (.node .nil (some Te.1) .nil)) (some Hq.1) (.node .nil none (.node (.node .nil (some Sl.1) .nil) (some RV.1) .nil))) none (.node (.node (.node (.node .nil (some R9.1) .nil) (some SZ.1) .nil) none .nil) none (.node .nil (some SL.1) .nil))) none (.node (.node (.node (.node .nil (some SW.1) .nil) (some SD.1) (.node .nil (some Ti.1) .nil)) (some Ss.1) (.node (.node .nil (some S7.1) .nil) none (.node .nil (some RX.1) .nil))) (some RT.1) (.node (.node (.node (.node .nil (some Sd.1) .nil) (some S1.1) .nil) (some SG.1) (.node .nil (some RQ.1) .nil)) (some Sy.1) (.node .nil none (.node (.node .nil (some Sr.1) .nil) (some R3.1) .nil))))) none (.node (.node (.node (.node (.node .nil (some SU.1) .nil) (some SB.1) (.node .nil (some Tg.1) .nil)) (some Sk.1) (.node (.node .nil (some S5.1) .nil) none (.node (.node .nil (some Sn.1) .nil) none .nil))) none (.node (.node (.node (.node .nil (some Sb.1) .nil) none .nil) none .nil) (some Sw.1) (.node (.node (.node .nil (some Sg.1) .nil) (some Tb.1) .nil) none (.node .nil (some R1.1) .nil)))) none (.node (.node (.node (.node .nil (some SY.1) .nil) none (.node .nil (some RO.1) .nil)) (some Su.1) (.node (.node (.node .nil (some Se.1) .nil) none .nil) (some SJ.1) (.node .nil (some RZ.1) .nil))) (some R7.1) (.node (.node .nil none (.node .nil (some RS.1) .nil)) (some SA.1) (.node (.node (.node .nil (some Si.1) .nil) (some Tc.1) .nil) (some SP.1) (.node .nil (some R5.1) .nil)))))) none (.node (.node (.node (.node (.node (.node (.node .nil (some R6.1) .nil) (some SS.1) .nil) none (.node .nil (some Tf.1) .nil)) none (.node (.node .nil (some S4.1) .nil) (some SI.1) (.node (.node .nil (some Sm.1) .nil) none .nil))) none (.node (.node (.node (.node .nil (some Sa.1) .nil) (some S0.1) .nil) none (.node .nil (some RP.1) .nil)) (some Sv.1) (.node (.node (.node .nil (some Sf.1) .nil) (some Ta.1) .nil) (some SM.1) (.node .nil (some R0.1) .nil)))) none (.node (.node (.node (.node .nil (some SX.1) .nil) (some SE.1) (.node (.node .nil (some Sj.1) .nil) (some RN.1) .nil)) none (.node (.node .nil (some S8.1) .nil) none (.node (.node .nil (some Sq.1) .nil) (some RY.1) .nil))) none (.node (.node (.node .nil (some S2.1) .nil) none (.node .nil (some RR.1) .nil)) (some Sz.1) (.node (.node (.node .nil (some Sh.1) .nil) none .nil) (some SO.1) (.node .nil (some R4.1) .nil))))) none (.node (.node (.node (.node (.node .nil (some SV.1) .nil) (some SC.1) (.node .nil (some Th.1) .nil)) none (.node (.node .nil (some S6.1) .nil) none (.node (.node .nil (some Sp.1) .nil) (some RW.1) .nil))) none (.node (.node (.node (.node .nil (some Sc.1) .nil) none .nil) none .nil) (some Sx.1) (.node .nil none (.node .nil (some R2.1) .nil)))) none (.node (.node (.node (.node (.node .nil (some R8.1) .nil) none .nil) (some SF.1) .nil) none (.node (.node .nil (some S9.1) .nil) (some SK.1) .nil)) none (.node (.node (.node .nil (some S3.1) (.node .nil (some St.1) .nil)) (some SH.1) (.node .nil (some RU.1) .nil)) none (.node (.node .nil (some Td.1) .nil) (some SQ.1) .nil))))))
theorem ao7:qr (G5 Tryz.prog) aaP:=(fy (fy (fy (fy (cw Hq.2 (fy (cw SR.2 bI bI) (cw Te.2 bI bI)) (fy bI (cw RV.2 (cw Sl.2 bI bI) bI))) (fy (fy (cw SZ.2 (cw R9.2 bI bI) bI) bI) (cw SL.2 bI bI))) (cw RT.2 (cw Ss.2 (cw SD.2 (cw SW.2 bI bI) (cw Ti.2 bI bI)) (fy (cw S7.2 bI bI) (cw RX.2 bI bI))) (cw Sy.2 (cw SG.2 (cw S1.2 (cw Sd.2 bI bI) bI) (cw RQ.2 bI bI)) (fy bI (cw R3.2 (cw Sr.2 bI bI) bI))))) (fy (fy (cw Sk.2 (cw SB.2 (cw SU.2 bI bI) (cw Tg.2 bI bI)) (fy (cw S5.2 bI bI) (fy (cw Sn.2 bI bI) bI))) (cw Sw.2 (fy (fy (cw Sb.2 bI bI) bI) bI) (fy (cw Tb.2 (cw Sg.2 bI bI) bI) (cw R1.2 bI bI)))) (cw R7.2 (cw Su.2 (fy (cw SY.2 bI bI) (cw RO.2 bI bI)) (cw SJ.2 (fy (cw Se.2 bI bI) bI) (cw RZ.2 bI bI))) (cw SA.2 (fy bI (cw RS.2 bI bI)) (cw SP.2 (cw Tc.2 (cw Si.2 bI bI) bI) (cw R5.2 bI bI)))))) (fy (fy (fy (fy (fy (cw SS.2 (cw R6.2 bI bI) bI) (cw Tf.2 bI bI)) (cw SI.2 (cw S4.2 bI bI) (fy (cw Sm.2 bI bI) bI))) (cw Sv.2 (fy (cw S0.2 (cw Sa.2 bI bI) bI) (cw RP.2 bI bI)) (cw SM.2 (cw Ta.2 (cw Sf.2 bI bI) bI) (cw R0.2 bI bI)))) (fy (fy (cw SE.2 (cw SX.2 bI bI) (cw RN.2 (cw Sj.2 bI bI) bI)) (fy (cw S8.2 bI bI) (cw RY.2 (cw Sq.2 bI bI) bI))) (cw Sz.2 (fy (cw S2.2 bI bI) (cw RR.2 bI bI)) (cw SO.2 (fy (cw Sh.2 bI bI) bI) (cw R4.2 bI bI))))) (fy (fy (fy (cw SC.2 (cw SV.2 bI bI) (cw Th.2 bI bI)) (fy (cw S6.2 bI bI) (cw RW.2 (cw Sp.2 bI bI) bI))) (cw Sx.2 (fy (fy (cw Sc.2 bI bI) bI) bI) (fy bI (cw R2.2 bI bI)))) (fy (fy (cw SF.2 (fy (cw R8.2 bI bI) bI) bI) (cw SK.2 (cw S9.2 bI bI) bI)) (fy (cw SH.2 (cw S3.2 bI (cw St.2 bI bI)) (cw RU.2 bI bI)) (cw SQ.2 (cw Td.2 bI bI) bI))))))
theorem k0:Df Tryz.prog (fun f=>aaP.get f) :=ao6 ao7
end Go.bV

namespace Go.bV
open Go
namespace hp
abbrev W:=BitVec 32
abbrev B:=BitVec 8
def oC (x:W) (n:Nat) :W:=(x >>> n) ||| (x <<< (32 - n))
def qp (l:List B) :W:=l.foldl (fun a x=>(a <<< 8) ||| x.setWidth 32) 0#32
def part (b:List B) (k t:Nat) :W:=qp (((b.take k).drop (4*t)).take 4)
def fK (b:List B) :List W:=(List.range 16).map fun t=>qp ((b.drop (4*t)).take 4)
def ext (w:List W) :W:=
 let t:=w.length
 let x:=w.getD (t - 15) 0#32
 let y:=w.getD (t - 2) 0#32
 w.getD (t - 16) 0#32+w.getD (t - 7) 0#32+(oC x 7 ^^^ oC x 18 ^^^ (x >>> 3))+(oC y 17 ^^^ oC y 19 ^^^ (y >>> 10))
def jd:Nat->List W->List W
 | 0,w=>w
 | n+1,w=>jd n (w++[ext w])
def fR (b:List B) :List W:=jd 48 (fK b)
def lu (x:W) (i j k:Nat) :W:=oC x i ^^^ oC x j ^^^ oC x k
structure eU where
 (a b c d e f g h:W)
def round (s:eU) (k w:W) :eU:=
 let p:=s.h+lu s.e 6 11 25+((s.e &&& s.f) ^^^ (~~~s.e &&& s.g))+k+w
 let q:=lu s.a 2 13 22+((s.a &&& s.b) ^^^ (s.a &&& s.c) ^^^ (s.b &&& s.c))
 ⟨p+q,s.a,s.b,s.c,s.d+p,s.e,s.f,s.g⟩
def rounds:eU->List W->List W->eU
 | s,k::cm,w::g0=>rounds (round s k w) cm g0
 | s,_,_=>s
def table:List Nat:=[0x428a2f98,0x71374491,0xb5c0fbcf,0xe9b5dba5,0x3956c25b,0x59f111f1,0x923f82a4,0xab1c5ed5,0xd807aa98,0x12835b01,0x243185be,0x550c7dc3,0x72be5d74,0x80deb1fe,0x9bdc06a7,0xc19bf174,0xe49b69c1,0xefbe4786,0x0fc19dc6,0x240ca1cc,0x2de92c6f,0x4a7484aa,0x5cb0a9dc,0x76f988da,0x983e5152,0xa831c66d,0xb00327c8,0xbf597fc7,0xc6e00bf3,0xd5a79147,0x06ca6351,0x14292967,0x27b70a85,0x2e1b2138,0x4d2c6dfc,0x53380d13,0x650a7354,0x766a0abb,0x81c2c92e,0x92722c85,0xa2bfe8a1,0xa81a664b,0xc24b8b70,0xc76c51a3,0xd192e819,0xd6990624,0xf40e3585,0x106aa070,0x19a4c116,0x1e376c08,0x2748774c,0x34b0bcb5,0x391c0cb3,0x4ed8aa4a,0x5b9cca4f,0x682e6ff3,0x748f82ee,0x78a5636f,0x84c87814,0x8cc70208,0x90befffa,0xa4506ceb,0xbef9a3f7,0xc67178f2]
def cm:List W:=table.map (BitVec.ofNat 32)
def grind (h:eU) (b:List B) :eU:=
 let v:=rounds h cm (fR b)
 ⟨h.a+v.a,h.b+v.b,h.c+v.c,h.d+v.d,h.e+v.e,h.f+v.f,h.g+v.g,h.h+v.h⟩
def Lo:Nat->eU->List B->eU × List B
 | 0,h,b=>(h,b)
 | n+1,h,b=>if 64<=b.length then Lo n (grind h (b.take 64)) (b.drop 64) else (h,b)
def h7 (h:eU) (b:List B) :eU × List B:=Lo (b.length / 64) h b
def first:eU:=⟨0x6a09e667#32,0xbb67ae85#32,0x3c6ef372#32,0xa54ff53a#32,0x510e527f#32,0x9b05688c#32,0x1f83d9ab#32,0x5be0cd19#32⟩
def Ds (n:BitVec 64) :List B:=[(n >>> 56).setWidth 8,(n >>> 48).setWidth 8,(n >>> 40).setWidth 8,(n >>> 32).setWidth 8,(n >>> 24).setWidth 8,(n >>> 16).setWidth 8,(n >>> 8).setWidth 8,(n >>> 0).setWidth 8]
def tail (n:Nat) :List B:=128#8::List.replicate ((119 - n % 64) % 64) 0#8++Ds (BitVec.ofNat 64 n*8#64)
def wg (w:W) :List B:=[(w >>> 24).setWidth 8,(w >>> 16).setWidth 8,(w >>> 8).setWidth 8,w.setWidth 8]
def eU.l (s:eU) :List W:=[s.a,s.b,s.c,s.d,s.e,s.f,s.g,s.h]
def written (s:eU) :List B:=(s.l.map wg).flatten
def i2 (b:List B) :List B:=written (h7 first (b++tail b.length)).1
theorem aqg (l:List B) (x:B) :qp (l++[x])=(qp l <<< 8) ||| x.setWidth 32:=by simp[qp,ayE]
theorem yZ:∀ (n:Nat) (w:List W),(jd n w).length=w.length+n
 | 0,w=>rfl
 | n+1,w=>by rw[jd,yZ n]; simp; omega
theorem Gl (b:List B) :(fR b).length=64:=by rw[fR,yZ]; simp[fK]
theorem KL (s:eU) :(written s).length=32:=rfl
theorem ye (b:List B) :(i2 b).length=32:=rfl
theorem LY:∀ (n:Nat) (w:List W),jd (n+1) w=jd n w++[ext (jd n w)]
 | 0,w=>rfl
 | n+1,w=>by rw[jd,LY n (w++[ext w])]; rfl
theorem Ko (a:W) (x:B) :(a <<< 8) ||| x.setWidth 32=a*256#32+x.setWidth 32:=by
 apply aw8;have ag:x.toNat<256:=x.isLt;have aE:=a.isLt;rw[BitVec.toNat_or,ayR,azI,ayI,aw9];have ad:x.toNat % 2 ^ 32=x.toNat:=aw2 (by omega);have ae:a.toNat <<< 8 % 2 ^ 32=(a.toNat % 2 ^ 24) <<< 8:=by rw[ayo,ayo]; omega
 have aj:=azr (b:=x.toNat) (i:=8) (by omega) (a.toNat % 2 ^ 24);rw[ad,ae,<-aj,ayo];have aD:(256#32).toNat=256:=rfl;rw[aD];omega
theorem Dq (h:eU) (b:List B) (af:64<=b.length) :h7 h b=h7 (grind h (b.take 64)) (b.drop 64) :=by
 have:b.length / 64=(b.drop 64).length / 64+1:=by simp; omega
 rw[h7,this,Lo,if_pos af];rfl
theorem Hl (h:eU) (b:List B) (af:b.length<64) :h7 h b=(h,b) :=by
 rw[h7,azJ af]; rfl
theorem acQ (h:eU) (b:List B) :(h7 h b).2.length=b.length % 64:=by
 generalize aC:b.length=n
 induction n using Nat.strongRecOn generalizing h b with
 | _ n aR=>
  rcases ax1 b.length 64 with ad | ad
  ·rw[Hl h b ad,aw2 (by omega)]; exact aC
  ·rw[Dq h b ad,aR (b.length - 64) (by omega) _ (b.drop 64) (by simp)];omega
theorem RC (h:eU) (a b:List B) :h7 h (a++b)=h7 (h7 h a).1 ((h7 h a).2++b) :=by
 generalize aC:a.length=n
 induction n using Nat.strongRecOn generalizing h a with
 | _ n aR=>
  rcases ax1 a.length 64 with ad | ad
  ·rw[Hl h a ad]
  ·rw[Dq h a ad,Dq h (a++b) (by simp; omega),axs ad,axR ad];exact aR (a.length - 64) (by omega) _ (a.drop 64) (by simp)
end hp

end Go.bV

namespace Go.bV
open Go Go.Proofs
def CV:List U:=hp.cm.map bx
def GS:Nat->U:=fun g=>match Nat.beq g 1 with | true=>.bM CV 0 | false=>.bad
theorem bj:∀ g,(GS g).closed=true:=by
 intro g;unfold GS;split
 ·exact ng bx (fun _=>rfl) _
 ·rfl
@[simp]
theorem aqF:GS 1=.bM CV 0:=id rfl
theorem ao4 (i:Nat) (h:i<64) :CV[i]? = some (bx (hp.cm.getD i 0#32)) :=by
 have al:hp.cm.length=64:=rfl;unfold CV;rw[awV,aw7,awT (by omega)];rfl
end Go.bV

namespace Go.bV
open Go Go.Proofs
set_option maxRecDepth 100000
namespace hp
def PF (x:W) (k:Int) :W:=(x <<< (BitVec.ofInt 64 k &&& 31#64).toNat) ||| (x >>> (32#64 - (BitVec.ofInt 64 k &&& 31#64)).toNat)
theorem Ag (x:W) (n:Nat) (aJ:0<n) (h:n<32) :PF x (-(n:Int))=oC x n:=by
 have ad:∀ n:Fin 32,0<n.val->(BitVec.ofInt 64 (-(n.val:Int)) &&& 31#64)=BitVec.ofNat 64 (32 - n.val) :=by decide
 have ae:=ad ⟨n,h⟩ aJ;simp only at ae;unfold PF oC;rw[ae,BitVec.or_comm];congr 2
 ·have:∀ n:Fin 32,0<n.val->(32#64 - BitVec.ofNat 64 (32 - n.val)).toNat=n.val:=by decide
  exact this ⟨n,h⟩ aJ
 ·have:∀ n:Fin 32,0<n.val->(BitVec.ofNat 64 (32 - n.val)).toNat=32 - n.val:=by decide
  exact this ⟨n,h⟩ aJ
theorem Af (x:W) (k:Int) :bw Tryz.prog GS 230 [bx x,.int .i64 k] (bx (PF x k)) :=by
 refine bQ Tryz.checked.mixed bj ?_;apply bn Tryz.func230 [];simp;exact aU rfl rfl
theorem Yc (x:W) (i j k:Nat) (ay:0<i/\i<32) (ai:0<j/\j<32) (ar:0<k/\k<32) :bw Tryz.prog GS 213 [bx x,.int .i64 i,.int .i64 j,.int .i64 k] (bx (lu x i j k)) :=by
 refine bQ Tryz.checked.mixed bj ?_;apply bn Tryz.func213 [];have aC:∀ n:Nat,n<32->IntKind.i64.wrap (-(n:Int))=-(n:Int) :=fun n aC=>wrap_i64 (by omega) (by omega)
 simp[aC i ay.2];refine a7 (Af x _) rfl ?_;simp[aC j ai.2];refine a7 (Af x _) rfl ?_;simp[aC k ar.2];refine a7 (Af x _) rfl ?_;simp[Ag x _ ay.1 ay.2,Ag x _ ai.1 ai.2,Ag x _ ar.1 ar.2];exact aU rfl rfl
def cb (x:B) :List U:=[bC x]
abbrev eS:=b8 B
abbrev cF (s:eS) :U:=cc 1 cb s
theorem nh (s:eS) :(cF s).closed=true:=uT (fun _=>rfl) s
def qq (b:List B) (k:Nat) :List W:=((List.range 16).map fun t=>qp (((b.take k).drop (4*t)).take 4))++List.replicate 48 0#32
theorem abr (b:List B) (k:Nat) :(qq b k).length=64:=by simp[qq]
theorem aqu (b:List B) :qq b 0=List.replicate 64 0#32:=by simp[qq,qp]; rfl
theorem QA (b:List B) (k t:Nat) (aX:t<16) :(qq b k)[t]? = some (qp (((b.take k).drop (4*t)).take 4)) :=by
 unfold qq;rw[awS (by simpa using aX),awV,axu aX];rfl
theorem aqt (b:List B) (k:Nat) (ar:k<64) (af:k<b.length) (x:B) (ag:b[k]? = some x) :
  (qq b k).set (k / 4) ((qp (((b.take k).drop (4*(k / 4))).take 4) <<< 8) ||| x.setWidth 32)=qq b (k+1) :=by
 apply axE;intro t;rw[aw4,abr];have WU:b.take (k+1)=b.take k++[x] :=by rw[axe,ag]; rfl
 have bA:(b.take k).length=k:=by simp; omega
 by_cases aX:t<16
 ·rw[QA b _ t aX,QA b _ t aX];by_cases h:k / 4=t
  ·rw[if_pos h,if_pos (by omega),<-aqg,WU,h];congr 2;rw[axR (by omega)];obtain⟨A,dA⟩:∃ A,A=List.drop (4*t) (List.take k b) :=⟨_,rfl⟩
   have lL:A.length<4:=by rw[dA]; simp; omega
   rw[<-dA,awR (by omega),awR (by simp; omega)]
  ·rw[if_neg h,WU];congr 2;rcases ax1 k (4*t) with ad | ad
   ·rw[axA (by omega),axA (by simp; omega)]
   ·rw[axR (by omega),axs (by simp; omega)]
 ·rw[if_neg (by omega)];unfold qq;rw[aw6 (by simp; omega),aw6 (by simp; omega)];simp
theorem aqs (b:List B) (af:64<=b.length) :qq b 64=fK b++List.replicate 48 0#32:=by
 unfold qq fK;congr 1;apply ayi;intro t aX;have:=axz.1 aX;congr 1;rw[aze,ayx,ayh (by omega)]
def rv (b:List B) (k:Nat) :List W:=jd k (fK b)++List.replicate (48 - k) 0#32
theorem aof (b:List B) (k:Nat) (ar:k<=48) :(rv b k).length=64:=by simp[rv,yZ,fK]; omega
theorem Kl (b:List B) (k i:Nat) (ay:i<16+k) :(rv b k)[i]? = some ((jd k (fK b)).getD i 0#32) :=by
 unfold rv;have al:(jd k (fK b)).length=16+k:=by simp[yZ,fK]
 rw[awS (by omega),aw7,awT (by omega)];rfl
theorem aog (b:List B) (k:Nat) (ar:k<48) :(rv b k).set (16+k) (ext (jd k (fK b)))=rv b (k+1) :=by
 have al:(jd k (fK b)).length=16+k:=by simp[yZ,fK]
 unfold rv;rw[axS _ _ (by omega),al,ayV,show 48 - k=(48 - (k+1))+1 by omega,axJ,ayA,LY];simp
set_option maxHeartbeats 4000000 in
theorem aoi (b:List B) (af:64<=b.length) :bw Tryz.prog GS 212 [cF (some b)] (.aH ((fR b).map bx)) :=by
 refine bQ Tryz.checked.mixed bj ?_;apply bn Tryz.func212 [];have bW:fm (.aq 1) (cF (some b)) none (some (.int .i64 64)) none=some (cF (some (b.take 64))) :=by
  unfold cF; rw[P3 (by omega) (by omega)]; rfl
 have BP:min 64 b.length=64:=by omega
 simp[bW,BP];refine cl 64 (fun k σ l=>σ 2=.ptr 0 0 64/\σ 11=cF (some (b.take 64))/\σ 12=.int .i64 64/\σ 13=.int .i64 k/\l=[.cells 64 ((qq b k).map bx)]) ?_ ?_
 ·rintro k σ l ar ⟨aW,ht,kL,kM,rfl⟩;obtain⟨σ,rfl⟩:=ij aW ht kL kM;clear aW ht kL kM;simp;by_cases h:(k:Int)<64
  ·obtain⟨x,ag⟩:∃ x,b[k]? = some x:=⟨_,awT (by omega)⟩
   have zJ:(b.take 64)[k]? = some x:=by rw[axm (by omega)]; exact ag
   have bT:cN (.aq 1) (cF (some (b.take 64))) (.int .i64 k)=some (.bM (cb x) 0) :=by simp[cF,p2,zJ]
   obtain⟨q,Nv⟩:∃ q,q=k / 4:=⟨_,rfl⟩
   have aN:cy .quo .i64 (k:Int) .i64 4=some (.int .i64 (q:Int)) :=by rw[Nv]; exact Lr k 4 (by omega) (by omega)
   have dD:IntKind.i64.wrap ((k:Int)+1)=k+1:=wrap_i64 (by omega) (by omega);have aL:(q:Int)<64:=by omega
   have ax:=QA b k q (by omega);have ak:=qi bx (qq b k) q (((qp (((b.take k).drop (4*q)).take 4) <<< 8) ||| x.setWidth 32)) (by rw[abr]; omega);rw[Nv,aqt b k (by omega) (by omega) x ag,<-Nv] at ak;have dN:q+1<=64:=by omega
   simp[h,bT,cb,aN,aL,ax,dN,dD,ak];omega
  ·have zm:k=64:=by omega
   subst zm;simp;refine cl 48 (fun j σ l=>σ 2=.ptr 0 0 64/\σ 5=.int .i64 (16+j:Nat)/\l=[.cells 64 ((rv b j).map bx)]) ?_ ?_
   ·rintro j σ l ai ⟨aW,bm,rfl⟩;obtain⟨σ,rfl⟩:=rD aW bm;clear aW bm;obtain⟨t,aX⟩:∃ t,t=16+j:=⟨_,rfl⟩
    rw[<-aX];simp;by_cases h:(t:Int)<64
    ·have pf:IntKind.i64.wrap ((t:Int)+1)=(t+1:Nat) :=wrap_i64 (by omega) (by omega);have KD:IntKind.i64.wrap ((t:Int) - 15)=(t - 15:Nat) :=by rw[wrap_i64 (by omega) (by omega)]; omega
     have w2:IntKind.i64.wrap ((t:Int) - 2)=(t - 2:Nat) :=by rw[wrap_i64 (by omega) (by omega)]; omega
     have KE:IntKind.i64.wrap ((t:Int) - 16)=(t - 16:Nat) :=by rw[wrap_i64 (by omega) (by omega)]; omega
     have GJ:IntKind.i64.wrap ((t:Int) - 7)=(t - 7:Nat) :=by rw[wrap_i64 (by omega) (by omega)]; omega
     have al:(jd j (fK b)).length=t:=by simp[yZ,fK]; omega
     have qP:=Kl b j (t - 15) (by omega);have aW:=Kl b j (t - 2) (by omega);have Bj:=Kl b j (t - 16) (by omega);have ei:=Kl b j (t - 7) (by omega);have ak:=qi bx (rv b j) t (ext (jd j (fK b))) (by rw[aof b j (by omega)]; omega);rw[aX,aog b j (by omega),<-aX] at ak;unfold ext at ak;rw[al] at ak
     dsimp only at ak
     obtain⟨xu,LO⟩:∃ i,i=t - 15:=⟨_,rfl⟩
     obtain⟨dY,bt⟩:∃ i,i=t - 2:=⟨_,rfl⟩
     obtain⟨xv,HD⟩:∃ i,i=t - 16:=⟨_,rfl⟩
     obtain⟨iV,Bc⟩:∃ i,i=t - 7:=⟨_,rfl⟩
     rw[<-LO] at KD qP ak;rw[<-bt] at w2 aW ak;rw[<-HD] at KE Bj ak;rw[<-Bc] at GJ ei ak;have Lh:(xu:Int)<64:=by omega
     have dw:(dY:Int)<64:=by omega
     have Li:(xv:Int)<64:=by omega
     have rW:(iV:Int)<64:=by omega
     have dN:t+1<=64:=by omega
     generalize (jd j (fK b)).getD xu 0#32=x at qP ak;generalize (jd j (fK b)).getD dY 0#32=y at aW ak;generalize (jd j (fK b)).getD xv 0#32=QD at Bj ak;generalize (jd j (fK b)).getD iV 0#32=QE at ei ak;have Zk:=Ag x 7 (by omega) (by omega);have Zh:=Ag x 18 (by omega) (by omega);have Zg:=Ag y 17 (by omega) (by omega);have Zi:=Ag y 19 (by omega) (by omega);simp at Zk Zh Zg Zi;simp[h,KD,w2,qP,aW,Lh,dw];refine a7 (Af _ _) rfl ?_;simp;refine a7 (Af _ _) rfl ?_;simp;refine a7 (Af _ _) rfl ?_;simp;refine a7 (Af _ _) rfl ?_;simp[Zk,Zh,Zg,Zi,KE,GJ,Bj,ei,Li,rW,h,ak,pf,dN];omega
    ·have ahl:j=48:=by omega
     have aij:rv b 48=fR b:=by simp[rv,fR]
     subst ahl;have EO:=Gl b;rw[aij];simp[h,EO,oI,awR];exact aU rfl (Tz bx (fun _=>rfl) _)
   ·simp[rv,jd,aqs b af]
 ·simp[aqu,ZG _ 32]
theorem aqq (b:List B) (n:Nat) (aC:64<=n) :fK (b.take n)=fK b:=by
 unfold fK;apply ayi;intro t aX;have:=axz.1 aX;congr 1;rw[aze,ayx,ayh (by omega)]
theorem aoh (b:List B) (n:Nat) (aC:64<=n) :fR (b.take n)=fR b:=by unfold fR; rw[aqq b n aC]
theorem rounds_succ:∀ (k:Nat) (s:eU) (a b:List W) (x y:W),a[k]? = some x->b[k]? = some y->rounds s (a.take (k+1)) (b.take (k+1))=round (rounds s (a.take k) (b.take k)) x y
 | 0,s,a,b,x,y,aE,af=>by
  cases a with
  | nil=>simp at aE
  | cons a Q5=>
   cases b with
   | nil=>simp at af
   | cons b bs=>simp at aE af; subst aE af; simp[rounds]
 | k+1,s,a,b,x,y,aE,af=>by
  cases a with
  | nil=>simp at aE
  | cons a Q5=>
   cases b with
   | nil=>simp at af
   | cons b bs=>
    simp only[List.take_succ_cons,rounds];exact rounds_succ k _ Q5 bs x y (by simpa using aE) (by simpa using af)
def nJ (h:eU) (b:List B) (k:Nat) :eU:=rounds h (cm.take k) ((fR b).take k)
theorem Zn (h:eU) (b:List B) :nJ h b 0=h:=rfl
theorem Zm (h:eU) (b:List B) (k:Nat) (ar:k<64) :nJ h b (k+1)=round (nJ h b k) (cm.getD k 0#32) ((fR b).getD k 0#32) :=by
 have ad:cm.length=64:=rfl;have ae:=Gl b;refine rounds_succ k h cm (fR b) _ _ ?_ ?_
 ·rw[aw7,awT (by omega)]; rfl
 ·rw[aw7,awT (by omega)]; rfl
theorem Zl (h:eU) (b:List B) :nJ h b 64=rounds h cm (fR b) :=by
 have ad:cm.length=64:=rfl;have ae:=Gl b;unfold nJ;rw[awR (by omega),awR (by omega)]
def jt (a b:List W) (k:Nat) :List W:=(List.zipWith (·+·) a b).take k++a.drop k
theorem Q2 (a b:List W) :jt a b 0=a:=rfl
theorem K4 {a b:List W} (h:a.length=b.length) (k:Nat) :(jt a b k).length=a.length:=by simp[jt]; omega
theorem Q0 {a b:List W} (h:a.length=b.length) {k:Nat} (ar:k<a.length) :(jt a b k)[k]? = a[k]?:=by
 unfold jt;rw[aw6 (by simp; omega)];have:(List.take k (List.zipWith (·+·) a b)).length=k:=by simp; omega
 rw[this,axv]; simp
theorem Q1 {a b:List W} (h:a.length=b.length) {k:Nat} {x y:W} (ag:a[k]? = some x) (aI:b[k]? = some y) :(jt a b k).set k (x+y)=jt a b (k+1) :=by
 have ar:=(awQ.1 ag).1;unfold jt;have al:(List.take k (List.zipWith (·+·) a b)).length=k:=by simp; omega
 have aw:(List.zipWith (·+·) a b)[k]? = some (x+y) :=by rw[ayX,ag,aI]
 rw[axS _ _ (by omega),al,ayV,axC ar,ayA,axe,aw];simp
set_option maxHeartbeats 8000000 in
theorem afk {h:eU} {b:List B} (af:64<=b.length) {l:ap} {bk sz:Nat} {rest:List U} {x:U} {K:U->ap->Prop} (al:l[bk]? = some (.cells sz (h.l.map bx++rest))) (hL:8<=sz) (ag:gJ (bb l) x (cF (some b)))
  (aY:∀ junk,K (.bq []) (l.set bk (.cells sz ((grind h b).l.map bx++rest))++junk)) :c5 Tryz.prog GS 192 [.ptr bk 0 sz,x] l (c:=⟨K⟩) :=by
 apply bn Tryz.func192 [[],[[0],[1],[4],[5],[6],[7],[8],[9],[10],[11],[13],[14],[15],[17],[18],[19],[2,19,15],[3],[12],[16]]];simp;refine mA (aoi b af) (.cons ag .nil) (Ul bx (fun _=>rfl) _) ?_;have aC:=cd al;have bW:=Gl b;have jk:(l++[aV.cells 64 ((fR b).map bx)])[bk]? = some (.cells sz (h.l.map bx++rest)) :=by rw[awS aC]; exact al
 have ax:∀ i (y:W),i<8->h.l[i]? = some y->(h.l.map bx++rest)[i]? = some (bx y) :=fun i y ay aI=>by
  rw[awS (by simpa [eU.l] using ay),awV,aI]; rfl
 have cI:=ax 0 h.a (by omega) rfl;have q1:=ax 1 h.b (by omega) rfl;have dn:=ax 2 h.c (by omega) rfl;have gF:=ax 3 h.d (by omega) rfl;have v2:=ax 4 h.e (by omega) rfl;have amL:=ax 5 h.f (by omega) rfl;have amM:=ax 6 h.g (by omega) rfl;have amN:=ax 7 h.h (by omega) rfl;simp[oI,bW,jk,cI,q1,dn,gF,v2,amL,amM,amN];refine cl 64 (fun k σ l'=>σ 0=.ptr bk 0 sz/\σ 4=.ptr l.length 0 64/\σ 5=bx (nJ h b k).a/\σ 6=bx (nJ h b k).b/\σ 7=bx (nJ h b k).c/\σ 8=bx (nJ h b k).d/\σ 9=bx (nJ h b k).e/\σ 10=bx (nJ h b k).f/\σ 11=bx (nJ h b k).g/\σ 12=bx (nJ h b k).h/\σ 52=.int .i64 k ∧
  l'=l++[.cells 64 ((fR b).map bx)]) ?_ ?_
 ·rintro k σ l' ar ⟨ck,bi,bm,cD,ei,fT,g4,gg,ht,kL,UE,rfl⟩;obtain⟨σ,rfl⟩:=apE ck bi bm cD ei fT g4 gg ht kL UE;clear ck bi bm cD ei fT g4 gg ht kL UE;simp;by_cases fe:(k:Int)<64
  ·have dD:IntKind.i64.wrap ((k:Int)+1)=k+1:=wrap_i64 (by omega) (by omega);have e6:k<64:=by omega
   have aX:=ao4 k e6;have gO:(fR b)[k]? = some ((fR b).getD k 0#32) :=by rw[aw7,awT (by omega)]; rfl
   rw[Zm h b k e6];generalize (fR b).getD k 0#32=iO at *
   generalize cm.getD k 0#32=nF at *
   generalize nJ h b k=s at *
   have e0:=Yc s.e 6 11 25 (by omega) (by omega) (by omega);have eR:=Yc s.a 2 13 22 (by omega) (by omega) (by omega);simp at e0 eR;simp[fe,aX,gO];refine a7 e0 rfl ?_;simp[aX,gO];refine a7 eR rfl ?_;simp[e6,dD];simp[round]
  ·have zm:k=64:=by omega
   subst zm;rw[Zl];obtain⟨v,ao⟩:∃ v,rounds h cm (fR b)=v:=⟨_,rfl⟩
   rw[ao];have hX:grind h b=⟨h.a+v.a,h.b+v.b,h.c+v.c,h.d+v.d,h.e+v.e,h.f+v.f,h.g+v.g,h.h+v.h⟩:=by unfold grind; rw[ao]
   simp;have og:h.l.length=v.l.length:=rfl;have o9:h.l.length=8:=rfl;have vl:(grind h b).l=jt h.l v.l 8:=by rw[hX]; rfl
   rw[vl] at aY;refine cl 8 (fun k σ l'=>σ 0=.ptr bk 0 sz/\σ 111=.aH (v.l.map bx)/\σ 112=.int .i64 k/\l'=l.set bk (.cells sz ((jt h.l v.l k).map bx++rest))++[.cells 64 ((fR b).map bx)]) ?_ ?_
   ·rintro k σ l' ar ⟨ck,Uz,UA,rfl⟩;obtain⟨σ,rfl⟩:=lC ck Uz UA;clear ck Uz UA;simp;by_cases fe:(k:Int)<8
    ·have dD:IntKind.i64.wrap ((k:Int)+1)=k+1:=wrap_i64 (by omega) (by omega);have iJ:k<8:=by omega
     obtain⟨y,aI⟩:∃ y,v.l[k]? = some y:=⟨_,awT (show k<v.l.length from iJ)⟩
     obtain⟨z,aw⟩:∃ z,h.l[k]? = some z:=⟨_,awT (show k<h.l.length from iJ)⟩
     have aE:=Q0 og (k:=k) (by rw[o9]; exact iJ);rw[aw] at aE;have ic:=K4 og k;have ak:=qi bx (jt h.l v.l k) k (z+y) (by rw[ic,o9]; exact iJ);rw[Q1 og aw aI] at ak;have oe:((jt h.l v.l k).map bx).length=8:=by rw[aw1,ic,o9]
     have ll:bf ((jt h.l v.l k).map bx++rest) k [bx (z+y)]=(jt h.l v.l (k+1)).map bx++rest:=by
      rw[<-ak];unfold bf;rw[axs (by omega),axR (by simp; omega)];simp
     have tA:((jt h.l v.l k).map bx++rest)[k]? = some (bx z) :=by rw[awS (by omega),awV,aE]; rfl
     have EN:(l.set bk (.cells sz ((jt h.l v.l k).map bx++rest))++[aV.cells 64 ((fR b).map bx)])[bk]? = some (.cells sz ((jt h.l v.l k).map bx++rest)) :=by
      rw[awS (by simpa using aC),aw4]; simp[aC]
     have tC:k+1<=sz:=by omega
     simp[fe,aI,tA,EN,dD,ll,iJ,tC,aC,List.set_append]
    ·have iJ:k=8:=by omega
     subst iJ;simp;exact aY _
   ·have lS:l.set bk (.cells sz ((jt h.l v.l 0).map bx++rest))=l:=by
     rw[Q2]; exact aom al
    rw[lS];simp[eU.l]
 ·simp[Zn]
abbrev n0 (cn:b8 eS) :U:=cc 1 (fun s=>[cF s]) cn
theorem Tw (cn:b8 eS) :(n0 cn).closed=true:=uT (fun s=>by simp only[a4,nh,ayL]) cn
def bytesOf (cn:List eS) :List B:=(cn.map b8.l).flatten
theorem bytesOf_take (cn:List eS) (k:Nat) (s:eS) (h:cn[k]? = some s) :bytesOf (cn.take (k+1))=bytesOf (cn.take k)++s.l:=by
 unfold bytesOf;rw[axe,h]; simp
theorem RM (cn:List eS) (k:Nat) :(bytesOf (cn.take k)).length<=(bytesOf cn).length:=by
 conv=>rhs; rw[<-axX k cn]
 unfold bytesOf;rw[axc,axO,awW];omega
theorem afo {n:Nat} (aC:n<=1000000000) {l:ap} {K:U->ap->Prop} (aY:∀ v j l',bL 1 l' v j []->l.length<=l'.length->(∀ b,b<l.length->l'[b]? = l[b]?)->(cz v=decide (n=0))->K v l') :c5 Tryz.prog GS 153 [.aG,.int .i64 n] l (c:=⟨K⟩) :=by
 apply bn Tryz.func153 [];have ad:¬((n:Int)<0) :=by omega
 have aP:IntKind.i64.wrap (n:Int)=n:=wrap_i64 (by omega) (by omega);have vF:IntKind.i64.wrap (0:Int)=0:=rfl;by_cases aJ:n=0
 ·subst aJ;simp;exact aY _ 0 _ (.nil 0) (awU _) (fun _ _=>rfl) rfl
 have ae:(0:Int)<n:=by omega
 have aw:rV l 1 1 [.int .u8 0] .aG (.int .i64 n)=some (.aq 1 l.length 0 n n (n*1),l++[.cells (n*1) (dH [.int .u8 0] n)]) :=by
  unfold rV ja;simp only[axq];have az:ci=140737488355328:=rfl;rw[if_pos ⟨by omega,by omega,by rw[az]; omega⟩,if_neg aJ,if_neg (by omega),if_pos (by rw[az]; omega)]
 have ak:fm (.aq 1) (.aq 1 l.length 0 n n (n*1)) none (some (.int .i64 0)) none=some (.aq 1 l.length 0 0 n (n*1)) :=by
  rw[Gq,Lq,if_pos ⟨by omega,by omega⟩];simp[aJ]
 rw[ayt] at aw ak;have aj:0<n:=by omega
 simp[ad,ae,aj,aP,aw,vF,ak];refine aY _ l.length (l++[.cells n (dH [.int .u8 0] n)]) (.aq _ 0 n n (dH [.int .u8 0] n) [] (by simp) (by rw[Gd]; simp) rfl (by simp) (by omega) (by omega) rfl) (by simp) (fun b af=>awS af) ?_;simp[cz,aJ]
def AW (cn:List eS) :eS:=if bytesOf cn=[] then none else some (bytesOf cn)
theorem adk (cn:List eS) :(AW cn).l=bytesOf cn:=by unfold AW; split<;>simp_all
set_option maxHeartbeats 4000000 in
theorem adL (cn:List eS) (al:(bytesOf cn).length<=1000000000) (ER:cn.length<=1000000000) :gI Tryz.prog GS 110 [n0 (some cn)] (cF (AW cn)) :=by
 refine Cz Tryz.checked.mixed bj ?_;apply bn Tryz.func110 [];simp;have bT:∀ (k:Nat) (s:eS),cn[k]? = some s->cN (.aq 1) (n0 (some cn)) (.int .i64 k)=some (.bM [cF s] 0) :=fun k s ak=>by simp[n0,p2,ak]
 refine cl cn.length (fun k σ l=>σ 0=n0 (some cn)/\σ 9=n0 (some cn)/\σ 10=.int .i64 cn.length/\σ 11=.int .i64 k/\σ 3=.int .i64 (bytesOf (cn.take k)).length/\l=[]) ?_ ?_
 ·rintro k σ l ar ⟨ck,g4,gg,ht,a6,rfl⟩;obtain⟨σ,rfl⟩:=k1 ck a6 g4 gg ht;clear ck a6 g4 gg ht;simp;by_cases h:k<cn.length
  ·obtain⟨s,ak,_⟩:=bJ h;have af:=bytesOf_take cn k s ak;have dN:=RM cn (k+1);rw[af,awW] at dN;have aP:IntKind.i64.wrap (((bytesOf (cn.take k)).length:Int)+s.l.length)=((bytesOf (cn.take k)).length:Int)+s.l.length:=wrap_i64 (by omega) (by omega);have dD:IntKind.i64.wrap ((k:Int)+1)=k+1:=wrap_i64 (by omega) (by omega);have kk:¬(((bytesOf (cn.take k)).length:Int)+s.l.length<0) :=by omega
   simp[h,bT k s ak,aP,kk,dD,af]
  ·have bD:k=cn.length:=by omega
   subst bD;simp;refine afo al ?_;intro v j l av bA _ gM;simp;refine cl cn.length (fun k σ l=>σ 25=n0 (some cn)/\σ 26=.int .i64 cn.length/\σ 27=.int .i64 k/\∃ v j,σ 6=v/\bL 1 l v j ((bytesOf (cn.take k)).map cb)/\cz v=decide (bytesOf cn=[])) ?_ ?_
   ·rintro k σ l ar ⟨u0,Bl,Bm,v,j,cD,av,gM⟩;obtain⟨σ,rfl⟩:=ij cD u0 Bl Bm;clear cD u0 Bl Bm;simp;by_cases h:k<cn.length
    ·obtain⟨s,ak,_⟩:=bJ h;have af:=bytesOf_take cn k s ak;have dN:=RM cn (k+1);rw[af,awW] at dN;have dD:IntKind.i64.wrap ((k:Int)+1)=k+1:=wrap_i64 (by omega) (by omega);have az:ci=140737488355328:=rfl;obtain⟨v',cg,l',ad,ae,aj,aD,a2,bv⟩:=oS (by_:=1) av (x:=cF s) (xs:=s.l.map cb) (by simp[cF]) (fun e am=>by obtain⟨x,_,rfl⟩:=axi.1 am; rfl) (by omega) (by omega) (by simp; omega);simp[h,bT k s ak,ad];refine cU.b1 ?_;simp[h,dD];refine⟨⟨cg,by rw[af,axc]; exact ae⟩,?_⟩;rw[vJ bv,gM];by_cases am:bytesOf cn=[]
     ·have aJ:(bytesOf cn).length=0:=by rw[am]; rfl
      have:s.l=[] :=axF.1 (by omega);simp[am,this]
     ·simp[am]
    ·have bD:k=cn.length:=by omega
     subst bD;simp;rw[axo] at av;refine av.Gb (fun _=>rfl) _ ?_ (adk cn);rw[gM];unfold AW;split<;>simp_all
   ·simp;refine⟨⟨j,by simpa [bytesOf] using av⟩,?_⟩;rw[gM];simp[axF]
 ·simp[bytesOf]
theorem adz (s:b8 B) :fz Tryz.prog .eql 143 (cc 1 cb s) .aG=some (.bool s.isNone) :=Do (e:=5) (by kernel_rfl) 1 cb s
theorem adA {s:b8 B} (ak:s.l.length<=1000000000) {l:ap} {K:U->ap->Prop} (aY:∀ v j l',bL 1 l' v j (s.l.map cb)->l.length<=l'.length->(∀ b,b<l.length->l'[b]? = l[b]?)->(v=.aG\/l.length<=j)->cz v=s.isNone->K v l') :c5 Tryz.prog GS 193 [cc 1 cb s] l (c:=⟨K⟩) :=by
 apply bn Tryz.func193 [];simp[adz];cases s with
 | none=>
  simp;exact aY _ 0 _ (.nil 0) (awU _) (fun _ _=>rfl) (.inl rfl) rfl
 | some b=>
  simp;have az:ci=140737488355328:=rfl;have pX:b.length<=1000000000:=ak;have av:bL 1 (l++[aV.cells 0 []]) (.aq 1 l.length 0 0 0 0) l.length [] :=.aq l.length 0 0 0 [] [] (by simp) rfl rfl (by simp) (awU _) (by omega) rfl;obtain⟨v',cg,l',ad,ae,aj,aD,a2,bv⟩:=oS (by_:=1) av (x:=cc 1 cb (some b)) (xs:=b.map cb) (by simp) (fun e am=>by obtain⟨x,_,rfl⟩:=axi.1 am; rfl) (by omega) (by omega) (by simp; omega);simp[ad];refine cU.b1 ?_;simp;have k9:l.length+1<=l'.length:=by simpa using aj
  refine aY _ cg _ ae (by omega) (fun b af=>?_) (.inr (by rcases a2 with h | h<;>(try simp only[awW,axa,axB] at h)<;>omega)) ?_
  ·rw[aD b (by simp; omega) (by omega),awS af]
  ·rw[vJ bv]; rfl
structure uE where
 st:eU
 rest:eS
 n:Int
def hh (s:eU) (r:U) (n:Int) :List U:=s.l.map bx++[r,.int .i64 n]
def r3 (m:uE) :U:=.aH (hh m.st (cF m.rest) m.n)
def uW (m:uE) (b:eS) :uE:=
 let all:=m.rest.l++b.l
 ⟨(h7 m.st all).1,if all=[] then none else some (h7 m.st all).2,m.n+b.l.length⟩
theorem adl (a b:eS) :AW [a,b]=if a.l++b.l=[] then none else some (a.l++b.l) :=by
 have:bytesOf [a,b]=a.l++b.l:=by simp[bytesOf]
 unfold AW;rw[this]
theorem afl (h:eU) (b:List B) :grind h (b.take 64)=grind h b:=by unfold grind; rw[aoh b 64 (by omega)]
theorem xN (s:eU) (r:U) (n:Int) :(hh s r n).length=10:=rfl
set_option maxHeartbeats 8000000 in
theorem Uc (m:uE) (b:eS) (al:m.rest.l.length+b.l.length<=1000000000) (aC:0<=m.n) (vt:m.n<=1000000000) :gI Tryz.prog GS 161 [r3 m,cF b] (r3 (uW m b)) :=by
 refine Cz Tryz.checked.mixed bj ?_;apply bn Tryz.func161 [[[0],[1],[2],[3],[4],[5],[6,1]]];have ah:(U.aH (hh m.st (cF m.rest) m.n)).cells=some (hh m.st (cF m.rest) m.n) :=rfl;have gp:(hh m.st (cF m.rest) m.n)[8]? = some (cF m.rest) :=rfl;have Vu:=adL [m.rest,b] (by simp[bytesOf]; exact al) (by simp);rw[adl] at Vu;simp[r3,xN,gp];refine Y9 Vu (.cons ?_ .nil) ?_
 ·exact J5 (es:=[[cF m.rest],[cF b]]) (rest:=[]) rfl rfl (by simp) (by simp[a4,nh])
 obtain⟨all,dE⟩:∃ all,all=m.rest.l++b.l:=⟨_,rfl⟩
 have ic:all.length<=1000000000:=by rw[dE]; simpa using al
 rw[<-dE];simp;refine cl (all.length / 64) (fun k σ l=>σ 1=cF b/\σ 2=.ptr 0 0 10/\σ 4=.ptr 1 0 10/\∃ h s hP junk,σ 5=cF s/\l=.cells 10 (hh h (cF m.rest) m.n) ::.cells 10 hP::junk/\h7 m.st all=h7 h s.l/\s.l.length=all.length - 64*k/\hP.length=10/\s.isNone=decide (all=[])) ?_ ?_
 ·rintro k σ l ar ⟨aK,aW,bi,h,s,hP,junk,bm,rfl,gq,eb,re,Wl⟩;obtain⟨σ,rfl⟩:=ij aK aW bi bm;clear aK aW bi bm;have bA:cp (.aq 1) (cF s)=some (.int .i64 s.l.length) :=lV _;simp[bA];by_cases Me:(64:Int)<=s.l.length
  ·cases s with
   | none=>simp at Me
   | some iG=>
   have afu:(64:Int)<=iG.length:=Me;have US:64<=iG.length:=by omega
   simp[afu];refine afk (h:=h) (b:=iG) US (l:=.cells 10 (hh h (cF m.rest) m.n) ::.cells 10 hP::junk) (bk:=0) (sz:=10) (rest:=[cF m.rest,.int .i64 m.n]) rfl (by omega) (Zu (nh _)) (fun atG=>?_);have bW:fm (.aq 1) (cF (some iG)) (some (.int .i64 64)) none none=some (cF (some (iG.drop 64))) :=by
    unfold cF; rw[Kp (by omega) (by omega)]; rfl
   simp[bW];have asT:iG.length=all.length - 64*k:=eb;refine⟨by omega,grind h iG,some (iG.drop 64),rfl,hP,⟨rfl,rfl⟩,?_,?_,re,?_⟩
   ·rw[gq];show h7 h iG=_;rw[Dq h iG US,afl]; rfl
   ·simp; omega
   ·exact Wl
  ·have aL:s.l.length<64:=by omega
   have aP:IntKind.i64.wrap (m.n+(b.l.length:Int))=m.n+b.l.length:=wrap_i64 (by omega) (by omega);have gh:(hh h (cF m.rest) m.n)[9]? = some (.int .i64 m.n) :=rfl;have kj:cp (.aq 1) (cF b)=some (.int .i64 b.l.length) :=lV _;simp[Me,gh,kj,aP];refine adA (by omega) ?_;intro v j l av hY jk ai gM;obtain⟨l',rfl⟩:∃ l',l=.cells 10 (hh h (cF m.rest) m.n) ::.cells 10 hP::l':=by
    have fA:=jk 0 (by simp);have aS:=jk 1 (by simp);cases l with
    | nil=>simp at fA
    | cons a l=>cases l with
     | nil=>simp at aS
     | cons c l=>simp at fA aS; subst fA aS; exact⟨l,rfl⟩
   have ais:∀ r n fY,bf (hh h r n) 9 [.int .i64 fY]=hh h r fY:=fun _ _ _=>rfl
   have air:∀ r n r',bf (hh h r n) 8 [r']=hh h r' n:=fun _ _ _=>rfl
   have ao:=av.cells;simp[gh,ais,air,ao,xN,re,oI];have hx:∀ r n,List.take 10 (hh h r n)=hh h r n:=fun _ _=>rfl
   rw[hx,hx];have Iv:uW m b=⟨h,if all=[] then none else some s.l,m.n+b.l.length⟩:=by
    unfold uW;rw[<-dE]
    dsimp only
    rw[gq,Hl h s.l aL]
   rw[Iv];have mn:=(av.jS (l':=.cells 10 (hh h v (m.n+(b.l.length:Int))) ::.cells 10 (hh h v (m.n+(b.l.length:Int))) ::l') (by
    rcases ai with ai | ai
    ·exact .inl ai
    ·obtain⟨q,rfl⟩:∃ q,j=q+2:=⟨j - 2,by simp at ai; omega⟩
     exact .inr rfl)).Gb (fun _=>rfl) (if all=[] then none else some s.l) (by
     rw[gM,Wl]; split<;>simp_all) (by
     split
     ·rename_i am; rw[am] at eb; simp at eb; rw[eb]; rfl
     ·rfl)
   refine .aH _ _ rfl fun i c c' mf mP=>?_
   rcases i with _ | _ | _ | _ | _ | _ | _ | _ | _ | _ | i<;>simp[hh,eU.l] at mf mP
   all_goals subst mf mP
   all_goals first | exact mn | exact .flat _ rfl
 ·simp;exact⟨m.st,(if all=[] then none else some all),rfl,⟨[.int .u32 0,.int .u32 0,.int .u32 0,.int .u32 0,.int .u32 0,.int .u32 0,.int .u32 0,.int .u32 0,.aG,.int .i64 0],⟨rfl,rfl⟩,by split<;>simp_all,by split<;>simp_all,rfl,by split<;>simp_all⟩⟩
def gP (b:List B) :U:=.aH (b.map bC)
def oK (n k:Nat) :List B:=128#8::List.replicate ((119 - n % 64) % 64) 0#8++(Ds (BitVec.ofNat 64 n*8#64)).take k
theorem Qf (n:Nat) :oK n 8=tail n:=rfl
theorem aaH (n k:Nat) (x:B) (ag:(Ds (BitVec.ofNat 64 n*8#64))[k]? = some x) :oK n (k+1)=oK n k++[x] :=by
 unfold oK;rw[axe,ag]; simp
theorem Kv (n k:Nat) :(oK n k).length<=80:=by
 unfold oK;have:(Ds (BitVec.ofNat 64 n*8#64)).length=8:=rfl;simp; omega
theorem RI (q:BitVec 64) (k:Nat) (ar:k<8) :(Ds q)[k]? = some ((q >>> (56 - 8*k)).setWidth 8) :=by
 match k,ar with
 | 0,_=>rfl
 | 1,_=>rfl
 | 2,_=>rfl
 | 3,_=>rfl
 | 4,_=>rfl
 | 5,_=>rfl
 | 6,_=>rfl
 | 7,_=>rfl
def rq (s:List W) (k:Nat) :List B:=((s.take k).map wg).flatten++List.replicate (32 - 4*k) 0#8
theorem abl (s:List W) :(s.map wg).flatten.length=4*s.length:=by
 induction s with
 | nil=>rfl
 | cons w s aR=>simp[aR,wg]; omega
theorem alY (s:List W) (k:Nat) (ar:k<=s.length) (ak:s.length=8) :(rq s k).length=32:=by
 unfold rq;rw[awW,abl];simp; omega
theorem alZ (s:List W) (k:Nat) (w:W) (ar:s[k]? = some w) (ak:s.length=8) :
  ((((rq s k).set (4*k) ((w >>> 24).setWidth 8)).set (4*k+1) ((w >>> 16).setWidth 8)).set (4*k+2) ((w >>> 8).setWidth 8)).set (4*k+3) (w.setWidth 8)=rq s (k+1) :=by
 have iJ:=(awQ.1 ar).1;unfold rq;rw[axe,ar];have dA:((s.take k).map wg).flatten.length=4*k:=by rw[abl]; simp; omega
 obtain⟨A,UT⟩:∃ A,A=((s.take k).map wg).flatten:=⟨_,rfl⟩
 rw[<-UT] at dA ⊢;have az:32 - 4*k=(32 - 4*(k+1))+1+1+1+1:=by omega
 rw[az,axJ,axJ,axJ,axJ];rw[axS _ _ (by omega),axS _ _ (by omega),axS _ _ (by omega),axS _ _ (by omega)];simp only[dA,ayV,Nat.add_sub_cancel_left,ayA,azb,axc,axO,<-UT];simp[wg]
def HH (s:eU) (r:eS) (n:Nat) :List B:=written (h7 s (r.l++tail n)).1
set_option maxHeartbeats 8000000 in
theorem aer (s:eU) (r:eS) (n:Nat) (az:r.l.length<=100000000) (aC:n<=100000000) :bw Tryz.prog GS 162 [r3 ⟨s,r,n⟩] (gP (HH s r n)) :=by
 refine bQ Tryz.checked.mixed bj ?_;apply bn Tryz.func162 [];have gh:(hh s (cF r) n)[9]? = some (.int .i64 n) :=rfl;have ah:(U.aH (hh s (cF r) n)).cells=some (hh s (cF r) n) :=rfl;have sk:=AP n 64 (by omega);obtain⟨q,aN⟩:∃ q,q=n % 64:=⟨_,rfl⟩
 rw[show ((64:Int).toNat)=64 from rfl,<-aN] at sk;have atk:q<64:=by rw[aN]; exact ayO _ (by omega)
 have pf:IntKind.i64.wrap (119 - (q:Int))=(119 - q:Nat) :=by rw[wrap_i64 (by omega) (by omega)]; omega
 have I5:=AP (119 - q) 64 (by omega);rw[show ((64:Int).toNat)=64 from rfl] at I5;obtain⟨m,hm⟩:∃ m,m=(119 - q) % 64:=⟨_,rfl⟩
 rw[<-hm] at I5;have atb:m<64:=by rw[hm]; exact ayO _ (by omega)
 obtain⟨t,aX⟩:∃ t,t=119 - q:=⟨_,rfl⟩
 rw[<-aX] at pf I5;have jZ:ci=140737488355328:=rfl;obtain⟨L,eN⟩:∃ L:ap,L=[aV.cells 10 (hh s (cF r) n),aV.cells 32 (rep 32 (U.int IntKind.u8 0)),aV.cells 1 [U.int IntKind.u8 128]] :=⟨_,rfl⟩
 have afM:L[0]? = some (aV.cells 10 (hh s (cF r) n)) :=by rw[eN]; rfl
 have Eg:L[1]? = some (aV.cells 32 (rep 32 (U.int IntKind.u8 0))) :=by rw[eN]; rfl
 have tv:L.length=3:=by rw[eN]; rfl
 have Nj:bL 1 L (.aq 1 2 0 1 1 1) 2 [[U.int IntKind.u8 128]] :=by
  rw[eN];exact .aq 2 1 1 1 [.int .u8 128] _ rfl rfl rfl (by simp) (awU _) (awU _) rfl
 have ahB:m<9223372036854775808:=by omega
 have dC:(List.length [[U.int IntKind.u8 128]]+m)*1<=ci:=by rw[jZ]; simp; omega
 have ahu:=aco (n:=m) (k:=.i64) (by_:=1) (zero:=[.int .u8 0]) Nj rfl (by omega) (by omega) ahB dC;obtain⟨v,j,l,ad,av,aj,aD,a2,bv⟩:=ahu;have ao:cz v=false:=by
  rw[ayF]; intro aT;rw[lr,bv] at aT;cases aT.1
 have aM:u 128#8=128:=by decide
 have am:([[U.int IntKind.u8 128]]++List.replicate m [U.int IntKind.u8 0] :List (List U))=(oK n 0).map cb:=by
  have:m=(119 - n % 64) % 64:=by rw[hm,aN]
  unfold oK;rw[<-this];simp[cb,aM]
 rw[am] at av;have fA:=(aD 0 (by omega) (by omega)).trans afM;have aS:=(aD 1 (by omega) (by omega)).trans Eg;have zl:2<=j:=by rcases a2 with h | h<;>omega
 simp[r3,xN,gh,sk,pf,I5];rw[<-eN];simp[ad];refine cl 8 (fun k σ l=>σ 1=.ptr 0 0 10/\σ 2=.ptr 1 0 32/\σ 3=ea (BitVec.ofNat 64 n*8#64)/\σ 5=.int .i64 (56 - 8*(k:Int))/\∃ v j,σ 4=v/\2<=j/\cz v=false/\bL 1 l v j ((oK n k).map cb)/\l[0]? = some (aV.cells 10 (hh s (cF r) n))/\l[1]? = some (aV.cells 32 (rep 32 (U.int IntKind.u8 0)))) ?_ ?_
 ·rintro k σ l ar ⟨aK,aW,a6,bm,v,j,bi,ai,ao,av,fA,aS⟩;obtain⟨σ,rfl⟩:=k1 aK aW a6 bi bm;clear aK aW a6 bi bm;obtain⟨c,ah⟩:∃ c:Int,c=56 - 8*(k:Int) :=⟨_,rfl⟩
  rw[<-ah];simp;by_cases iJ:0<=c
  ·have BM:k<8:=by omega
   have ag:=RI (BitVec.ofNat 64 n*8#64) k BM;have agw:c.toNat=56 - 8*k:=by omega
   have sq:IntKind.i64.wrap (c - 8)=56 - 8*((k:Int)+1) :=by rw[wrap_i64 (by omega) (by omega)]; omega
   have ln:=Kv n k;have pa:bL 1 (l++[aV.cells 1 [bC (((BitVec.ofNat 64 n*8#64) >>> (56 - 8*k)).setWidth 8)]]) v j ((oK n k).map cb) :=av.more _;obtain⟨v',cg,l',ad,ae,aj,aD,a2,bv⟩:=oS (by_:=1) pa (x:=.aq 1 l.length 0 1 1 1) (xs:=[[bC (((BitVec.ofNat 64 n*8#64) >>> (56 - 8*k)).setWidth 8)]]) (by simp[de]) (by simp) (by omega) (by omega) (by simp; omega);have et:j<l.length:=by
    rcases av.lt with h | h
    ·subst h; simp[cz] at ao
    ·exact h
   have aek:l'[0]? = some (aV.cells 10 (hh s (cF r) n)) :=by rw[aD 0 (by simp) (by omega),awS (cd fA)]; exact fA
   have ael:l'[1]? = some (aV.cells 32 (rep 32 (U.int IntKind.u8 0))) :=by
    have:=cd aS;rw[aD 1 (by simp; omega) (by omega),awS (cd aS)]; exact aS
   have fD:cz v'=false:=by rw[vJ bv,ao]; rfl
   have fl:2<=cg:=by
    rcases a2 with h | h
    ·omega
    ·have h:=axy (show l.length<=(l++[aV.cells 1 [bC (((BitVec.ofNat 64 n*8#64) >>> (56 - 8*k)).setWidth 8)]]).length by simp) h;omega
   simp[iJ,agw,ad];refine cU.b1 ?_;simp[iJ,sq];exact⟨by omega,cg,fl,fD,by rw[aaH n k _ ag,axc]; exact ae,aek,ael⟩
  ·have vn:k=8:=by omega
   subst vn;rw[Qf] at av;have BG:=Uc ⟨s,r,n⟩ (some (tail n)) (by have:=Kv n 8; rw[Qf] at this; simp; omega) (by simp) (by simp; omega);have ag:=av.x3 (fun _=>rfl) (some (tail n)) (by rw[ao]; rfl) rfl;have VJ:(uW ⟨s,r,n⟩ (some (tail n))).st=(h7 s (r.l++tail n)).1:=rfl;obtain⟨F,o2⟩:∃ F,F=uW ⟨s,r,n⟩ (some (tail n)) :=⟨_,rfl⟩
   rw[<-o2] at BG VJ;have BQ:a4 [r3 ⟨s,r,n⟩]=true:=by simp[a4,r3,U.closed,hh,eU.l,nh]
   have agR:Bi 8 0 (r3 F)=some (.aH (F.st.l.map bx)) :=rfl;have o9:F.st.l.length=8:=rfl;simp[iJ,fA,xN];refine Y9 BG (.cons (Zu ?_) (.cons ag .nil)) ?_
   ·show (U.aH (hh s (cF r) n)).closed=true;simp[U.closed,a4,hh,eU.l,nh]
   simp[agR];refine cl 8 (fun k σ l=>σ 2=.ptr 1 0 32/\σ 33=.aH (F.st.l.map bx)/\σ 34=.int .i64 k/\l[1]? = some (aV.cells 32 ((rq F.st.l k).map bC))) ?_ ?_
   ·rintro k σ l ar ⟨aW,jT,jU,aS⟩;obtain⟨σ,rfl⟩:=lC aW jT jU;clear aW jT jU;obtain⟨i5,br,rfl⟩:=apj aS;clear aS;simp;by_cases iJ:(k:Int)<8
    ·have fe:k<8:=by omega
     obtain⟨w,aP⟩:∃ w,F.st.l[k]? = some w:=⟨_,awT (show k<F.st.l.length from fe)⟩
     have dP:=alY F.st.l k (by omega) o9;have jX:=alZ F.st.l k w aP o9;have g9:IntKind.i64.wrap (4*(k:Int))=(4*k:Nat) :=by rw[wrap_i64 (by omega) (by omega)]; omega
     have bO:IntKind.i64.wrap (((4*k:Nat) :Int)+1)=(4*k+1:Nat) :=by rw[wrap_i64 (by omega) (by omega)]; omega
     have w2:IntKind.i64.wrap (((4*k:Nat) :Int)+2)=(4*k+2:Nat) :=by rw[wrap_i64 (by omega) (by omega)]; omega
     have cY:IntKind.i64.wrap (((4*k:Nat) :Int)+3)=(4*k+3:Nat) :=by rw[wrap_i64 (by omega) (by omega)]; omega
     have iO:IntKind.i64.wrap ((k:Int)+1)=k+1:=wrap_i64 (by omega) (by omega);obtain⟨a,aE⟩:∃ a,a=4*k:=⟨_,rfl⟩
     rw[<-aE] at g9 bO w2 cY jX;have s0:=qi bC (rq F.st.l k) a ((w >>> 24).setWidth 8) (by omega);have c0:=qi bC ((rq F.st.l k).set a ((w >>> 24).setWidth 8)) (a+1) ((w >>> 16).setWidth 8) (by simp; omega);have iC:=qi bC (((rq F.st.l k).set a ((w >>> 24).setWidth 8)).set (a+1) ((w >>> 16).setWidth 8)) (a+2) ((w >>> 8).setWidth 8) (by simp; omega);have kX:=qi bC ((((rq F.st.l k).set a ((w >>> 24).setWidth 8)).set (a+1) ((w >>> 16).setWidth 8)).set (a+2) ((w >>> 8).setWidth 8)) (a+3) (w.setWidth 8) (by simp; omega);rw[jX] at kX;have hr:(a:Int)<32:=by omega
     have cT:((a+1:Nat) :Int)<32:=by omega
     have dw:((a+2:Nat) :Int)<32:=by omega
     have ke:((a+3:Nat) :Int)<32:=by omega
     have rY:a+1<=32:=by omega
     have bS:a+1+1<=32:=by omega
     have b7:a+2+1<=32:=by omega
     have hR:a+3+1<=32:=by omega
     have d1:(a:Int)+1<32:=by omega
     have d2:(a:Int)+2<32:=by omega
     have d3:(a:Int)+3<32:=by omega
     have f1:((a:Int)+1).toNat=a+1:=by omega
     have f2:((a:Int)+2).toNat=a+2:=by omega
     have f3:((a:Int)+3).toNat=a+3:=by omega
     have jo:(0:Int)<=(a:Int)+1:=by omega
     have hB:(0:Int)<=(a:Int)+2:=by omega
     have p5:(0:Int)<=(a:Int)+3:=by omega
     simp[iJ,fe,aP,g9,bO,w2,cY,iO,hr,s0,c0,iC,kX,rY,bS,b7,hR,d1,d2,d3,f1,f2,f3,jo,hB,p5,-List.map_set]
    ·have vn:k=8:=by omega
     subst vn;have ahS:rq F.st.l 8=written F.st:=by simp[rq,written,eU.l]
     rw[ahS];have xp:(written F.st).length=32:=rfl;simp[xp,oI,awR];exact aU (by unfold gP HH; rw[VJ]) (Tz bC (fun _=>rfl) _)
   ·simp[aS];rw[ZG .u8 8]; rfl
 ·simp;exact⟨j,zl,ao,av,fA,aS⟩
structure AG (m:uE) (b:List B) :Prop where
 Lm:h7 first b=(m.st,m.rest.l)
 n:m.n=b.length
theorem ajs {m:uE} {b:List B} (h:AG m b) (s:eS) :AG (uW m s) (b++s.l) :=by
 have ad:h7 first (b++s.l)=h7 m.st (m.rest.l++s.l) :=by rw[RC,h.Lm]
 refine⟨?_,?_⟩
 ·rw[ad];unfold uW
  dsimp only
  split
  ·rename_i am;rw[am]; rfl
  ·rfl
 ·unfold uW
  dsimp only
  rw[h.n]; simp
theorem ajt {m:uE} {b:List B} (h:AG m b) :m.rest.l.length<64:=by
 have:=acQ first b
 rw[h.Lm] at this;simp only at this;rw[this]; exact ayO _ (by omega)
theorem ajr {m:uE} {b:List B} (h:AG m b) :HH m.st m.rest b.length=i2 b:=by
 unfold HH i2;rw[RC first b,h.Lm]
def start:uE:=⟨first,none,0⟩
theorem aju:AG start [] :=⟨rfl,rfl⟩
theorem aoN:gI Tryz.prog GS 160 [] (r3 start) :=by
 refine Cz Tryz.checked.mixed bj ?_;apply bn Tryz.func160 [];simp;exact .flat _ rfl
def tU (s:eS) :Bool:=decide ((10000:Int)<s.l.length)
theorem akq (s:eS) :bw Tryz.prog GS 159 [cF s] (.bool (tU s)) :=by
 refine bQ Tryz.checked.mixed bj ?_;apply bn Tryz.func159 [];simp[cF];exact aU rfl rfl
theorem aeZ:kK Tryz.prog 159=true:=by kernel_rfl
def idx (l:List eS) :Int:=match l.findIdx? tU with | some i=>(i:Int) | none=>-1
theorem aiZ {l:List eS} {k:Nat} {s:eS} (ak:l[k]? = some s) (al:tU s=true) (cR:∀ j s,j<k->l[j]? = some s->tU s=false) :idx l=k:=by
 have:l.findIdx? tU=some k:=by
  rw[List.findIdx?_eq_some_iff_getElem];obtain⟨ad,rfl⟩:=awQ.1 ak;refine⟨ad,al,fun j ai=>?_⟩;rw[cR j l[j] ai (awT (by omega))]; simp
 unfold idx; rw[this]
theorem W9 {l:List eS} (cR:∀ j s,j<l.length->l[j]? = some s->tU s=false) :idx l=-1:=by
 have:l.findIdx? tU=none:=by
  rw[List.findIdx?_eq_none_iff];intro x ag;obtain⟨j,ai⟩:=aw3.1 ag;exact cR j x (awQ.1 ai).1 ai
 unfold idx; rw[this]
theorem Ob (cn:b8 eS) (al:cn.l.length<=1000000000) :bw Tryz.prog GS 191 [n0 cn,.fn 159 [] []] (.int .i64 (idx cn.l)) :=by
 refine bQ Tryz.checked.mixed bj ?_;apply bn Tryz.func191 [];have bA:cp (.aq 1) (n0 cn)=some (.int .i64 cn.l.length) :=lV _;simp[bA];refine cl cn.l.length (fun k σ l=>σ 0=n0 cn/\σ 1=.fn 159 [] []/\σ 7=.int .i64 cn.l.length/\σ 8=.int .i64 k/\∀ j s,j<k->cn.l[j]? = some s->tU s=false) ?_ (by simp);rintro k σ l ar ⟨ck,aK,ei,fT,cR⟩;obtain⟨σ,rfl⟩:=ij ck aK ei fT;clear ck aK ei fT;simp;by_cases h:k<cn.l.length
 ·obtain⟨s,ak,_⟩:=bJ h;have bT:cN (.aq 1) (n0 cn) (.int .i64 k)=some (.bM [cF s] 0) :=by
   rw[p2]; simp[ak]
  have dD:IntKind.i64.wrap ((k:Int)+1)=k+1:=wrap_i64 (by omega) (by omega);simp[h,bT];refine⟨aeZ,a7 (akq s) (by simp[a4,nh]) ?_⟩;cases vq:tU s with
  | true=>
   simp;rw[aiZ ak vq cR];exact aU rfl rfl
  | false=>
   simp[h,dD];intro j ff ai pX;rcases ax1 j k with ad | ad
   ·exact cR j ff ad pX
   ·have:j=k:=by omega
    subst this;rw[ak] at pX; cases pX; exact vq
 ·simp[h];rw[W9 (fun j s ai ak=>cR j s (by omega) ak)];exact aU rfl rfl
theorem adO (cn:b8 eS) (al:cn.l.length<=1000000000) :bw Tryz.prog GS 158 [n0 cn,.fn 159 [] []] (.bool (decide (0<=idx cn.l))) :=by
 refine bQ Tryz.checked.mixed bj ?_;apply bn Tryz.func158 [];simp;refine a7 (Ob cn al) (by simp[a4,U.closed,Tw]) ?_;simp;exact aU rfl rfl
set_option maxHeartbeats 4000000 in
theorem Pe (cn:List eS) (asx:cn.length<=20) (cR:∀ s∈cn,s.l.length<=10000) :bw Tryz.prog GS 118 [n0 (some cn)] (.bq [gP (i2 (bytesOf cn)),.int .i64 0]) :=by
 have xg:idx cn=-1:=W9 fun j s ai ak=>by
  have:=cR s (awY ak);unfold tU; simp; omega
 have bA:∀ k,(bytesOf (cn.take k)).length<=200000:=fun k=>by
  have:∀ l:List eS,(∀ s∈l,s.l.length<=10000)->(bytesOf l).length<=10000*l.length:=by
   intro l
   induction l with
   | nil=>intro _; simp[bytesOf]
   | cons s l aR=>
    intro h;have ad:=aR fun x ag=>h x (by simp[ag])
    have ae:=h s (by simp);unfold bytesOf at ad ⊢;rw[axk,axD,awW,axa];omega
  have ad:=this (cn.take k) fun s ak=>cR s (axp ak)
  have ae:(cn.take k).length<=20:=by simp; omega
  omega
 refine bQ Tryz.checked.mixed bj ?_;apply bn Tryz.func118 [];have afq:¬(20:Int)<cn.length:=by omega
 have Vx:=adO (some cn) (by simp; omega);rw[b8.xG,xg] at Vx;simp[afq];refine a7 Vx (by simp[a4,U.closed,Tw]) ?_;simp;refine a7 aoN.Gw rfl ?_;simp[r3,xN,oI];refine cl cn.length (fun k σ l=>σ 2=.ptr 0 0 32/\σ 4=.ptr 1 0 10/\σ 16=n0 (some cn)/\σ 17=.int .i64 cn.length/\σ 18=.int .i64 k/\∃ m,AG m (bytesOf (cn.take k))/\l=[.cells 32 (rep 32 (.int .u8 0)),.cells 10 (hh m.st (cF m.rest) m.n)]) ?_ ?_
 ·rintro k σ l ar ⟨aW,bi,Bj,qQ,qR,m,hm,rfl⟩;obtain⟨σ,rfl⟩:=k1 aW bi Bj qQ qR;clear aW bi Bj qQ qR;simp;have ft:(U.aH (hh m.st (cF m.rest) m.n)).closed=true:=by simp[U.closed,a4,hh,eU.l,nh]
  have hx:List.take 10 (hh m.st (cF m.rest) m.n)=hh m.st (cF m.rest) m.n:=rfl;have ra:=ajt hm;have oi:=hm.n;have vo:=bA k;by_cases h:k<cn.length
  ·obtain⟨s,ak,kR⟩:=bJ h;have bT:cN (.aq 1) (n0 (some cn)) (.int .i64 k)=some (.bM [cF s] 0) :=by
    rw[p2]; simp[ak]
   have dD:IntKind.i64.wrap ((k:Int)+1)=k+1:=wrap_i64 (by omega) (by omega);have ad:=cR s kR;have aF:=Uc m s (by omega) (by omega) (by omega);have lj:=ajs hm s;rw[<-bytesOf_take cn k s ak] at lj;obtain⟨F,o2⟩:∃ F,F=uW m s:=⟨_,rfl⟩
   rw[<-o2] at aF lj;simp[h,bT,xN,hx];refine a7 aF.Gw ?_ ?_
   ·simp only[a4,ft,nh,ayL]
   simp[r3,xN,oI,h,dD];exact⟨F,lj,rfl⟩
  ·have bD:k=cn.length:=by omega
   subst bD;rw[axo] at hm oi vo;have am:=aer m.st m.rest (bytesOf cn).length (by omega) (by omega);rw[ajr hm] at am;have oh:m=⟨m.st,m.rest,((bytesOf cn).length:Int)⟩:=by rw[<-oi]
   rw[<-oh] at am;have bW:=ye (bytesOf cn);simp[h,xN,hx];refine a7 am ?_ ?_
   ·simp only[a4,ft,ayL]
   have ec:((i2 (bytesOf cn)).map bC).length=32:=by rw[aw1,bW]
   simp[gP,bW,oI,awR];exact aU rfl (by simp[U.closed,a4,ng bC (fun _=>rfl)])
 ·simp[bytesOf];exact⟨start,aju,rfl⟩
theorem aaD (s:eS) (h:s.l.length<=10000) :bw Tryz.prog GS 85 [cF s] (.bq [gP (i2 s.l),.int .i64 0]) :=by
 have af:bytesOf [s]=s.l:=by simp[bytesOf]
 have au:=Pe [s] (by simp) (by simpa using h);rw[af] at au;refine bQ Tryz.checked.mixed bj ?_;apply bn Tryz.func85 [];have bW:=ye s.l;simp;refine mA au (.cons ?_ .nil) (by simp[U.flat,mL,gP,Bg bC (fun _=>rfl)]) ?_
 ·exact J5 (es:=[[cF s]]) (rest:=[]) rfl rfl (by simp) (by simp[a4,nh])
 simp[gP,bW,oI,awR];exact aU rfl (by simp[U.closed,a4,ng bC (fun _=>rfl)])
theorem uv (x:W) (n:Nat) (aJ:0<n) (h:n<32) :bw Tryz.prog GS 237 [bx x,.int .i64 n] (bx (oC x n)) :=by
 refine bQ Tryz.checked.mixed bj ?_;apply bn Tryz.func237 [];have aP:IntKind.i64.wrap (32 - (n:Int))=(32 - n:Nat) :=by rw[wrap_i64 (by omega) (by omega)]; omega
 obtain⟨m,hm⟩:∃ m,m=32 - n:=⟨_,rfl⟩
 rw[<-hm] at aP;simp[aP];exact aU (by unfold oC; rw[hm]) rfl
def eM (x:W) :List U:=[bx x]
set_option maxHeartbeats 4000000 in
theorem adN:gI Tryz.prog GS 238 [] (cc 1 eM (some cm)) :=by
 refine Cz Tryz.checked.mixed bj ?_;apply bn Tryz.func238 [];simp;exact Zw (z:=1) (es:=cm.map eM) (rest:=[]) (by kernel_rfl) (by kernel_rfl) (fun e am=>by obtain⟨y,_,rfl⟩:=axi.1 am; rfl) (fun e am=>by obtain⟨y,_,rfl⟩:=axi.1 am; rfl)
theorem aeT:bw Tryz.prog GS 203 [] (.aH (first.l.map bx)) :=by
 refine bQ Tryz.checked.mixed bj ?_;apply bn Tryz.func203 [];simp;exact aU rfl rfl
theorem aqo (b:List B) (t:Nat) (hr cT dw ke:B) (aJ:b[4*t]? = some hr) (ad:b[4*t+1]? = some cT) (ae:b[4*t+2]? = some dw) (aj:b[4*t+3]? = some ke) :
  qp ((b.drop (4*t)).take 4)=((hr.setWidth 32*256#32+cT.setWidth 32)*256#32+dw.setWidth 32)*256#32+ke.setWidth 32:=by
 have h:(b.drop (4*t)).take 4=[hr,cT,dw,ke] :=by
  have al:=(awQ.1 aj).1;apply axE;intro i
  match i with
  | 0=>simp[aJ]
  | 1=>simp[ad]
  | 2=>simp[ae]
  | 3=>simp[aj]
  | i+4=>rw[aw5 (by simp; omega),aw5 (by simp)]
 rw[h];show ((((0#32 <<< 8 ||| hr.setWidth 32) <<< 8 ||| cT.setWidth 32) <<< 8 ||| dw.setWidth 32) <<< 8 ||| ke.setWidth 32)=_;rw[Ko,Ko,Ko,Ko];simp
theorem abf {l:ap} {v:U} {j:Nat} {g0:List W} (h:bL 1 l v j (g0.map eM)) (ao:cz v=false) :∃ (cap sz:Nat) (cs:List U),v=.aq 1 j 0 g0.length cap sz/\l[j]? = some (.cells sz cs)/\∀ (i:Nat) (x:W),g0[i]? = some x->cs[i]? = some (bx x) :=by
 obtain⟨n,cap,sz,cs,ad,ae,aj,aD,a2,bv,_⟩:=h.view ao;rw[aw1] at aD;subst aD;refine⟨cap,sz,cs,ad,ae,fun i x ag=>?_⟩;have:=bv i (eM x) (by rw[awV,ag]; rfl) 0 (by omega);simpa [eM] using this
theorem aqr (b:List B) (k:Nat) (ar:k<16) :(fK b).take (k+1)=(fK b).take k++[qp ((b.drop (4*k)).take 4)] :=by
 have:(fK b)[k]? = some (qp ((b.drop (4*k)).take 4)) :=by unfold fK; rw[awV,axu ar]; rfl
 rw[axe,this]; rfl
theorem aqp (b:List B) :(fK b).length=16:=by simp[fK]
theorem aeI (k:Nat) (b:List B) :(jd k (fK b)).length=16+k:=by simp[yZ,fK]
set_option maxHeartbeats 16000000 in
theorem afm (h:eU) (b:List B) (af:64<=b.length) :bw Tryz.prog GS 227 [.aH (h.l.map bx),cF (some b)] (.aH ((grind h b).l.map bx)) :=by
 have jZ:ci=140737488355328:=rfl;have VQ:(h.l.map bx).length=8:=rfl;refine bQ Tryz.checked.mixed bj ?_;apply bn Tryz.func227 [[],[],[[0],[1],[2],[3],[4],[5],[6],[7],[8],[9],[10],[11],[12],[14],[17],[18],[21],[23],[26],[27],[13,10,5],[15,10,5],[16],[19],[20],[22,10,5],[24,10,5],[25]],[],[[0],[1],[2],[4],[7],[11],[12],[13],[14],[15],[16],[17],[18],[20],[21],[22],[23],[25],[26],[27],[28],[3,28,23,1],[5,28,23,1],[6],[8,28,23,1],[9],[10],[19],[24]]];simp[VQ];refine cl 16 (fun k σ l=>σ 1=cF (some b)/\σ 2=.ptr 0 0 8/\σ 4=.ptr 1 0 8/\σ 6=.int .i64 k/\∃ v j hP rest,σ 5=v/\(cz v=true->k=0)/\(v=.aG\/2<=j)/\bL 1 l v j (((fK b).take k).map eM)/\l=.cells 8 (h.l.map bx) ::.cells 8 hP::rest/\hP.length=8) ?_ ?_
 ·rintro k σ l ar ⟨aK,aW,bi,cD,v,j,hP,rest,bm,ao,ai,av,rfl,kq⟩;obtain⟨σ,rfl⟩:=k1 aK aW bi bm cD;clear aK aW bi bm cD;by_cases VW:(k:Int)<16
  ·have fe:k<16:=by omega
   obtain⟨a,aE⟩:∃ a,a=4*k:=⟨_,rfl⟩
   have g9:IntKind.i64.wrap (4*(k:Int))=(a:Nat) :=by rw[wrap_i64 (by omega) (by omega)]; omega
   obtain⟨a8,En⟩:∃ x,x=a+1:=⟨_,rfl⟩
   obtain⟨bh,Mw⟩:∃ x,x=a+2:=⟨_,rfl⟩
   obtain⟨b6,Mx⟩:∃ x,x=a+3:=⟨_,rfl⟩
   have bO:IntKind.i64.wrap ((a:Int)+1)=a8:=by rw[wrap_i64 (by omega) (by omega)]; omega
   have w2:IntKind.i64.wrap ((a:Int)+2)=bh:=by rw[wrap_i64 (by omega) (by omega)]; omega
   have cY:IntKind.i64.wrap ((a:Int)+3)=b6:=by rw[wrap_i64 (by omega) (by omega)]; omega
   have iO:IntKind.i64.wrap ((k:Int)+1)=k+1:=wrap_i64 (by omega) (by omega);obtain⟨hr,me⟩:∃ x,b[a]? = some x:=⟨_,awT (by omega)⟩
   obtain⟨cT,gB⟩:∃ x,b[a8]? = some x:=⟨_,awT (by omega)⟩
   obtain⟨dw,ej⟩:∃ x,b[bh]? = some x:=⟨_,awT (by omega)⟩
   obtain⟨ke,vd⟩:∃ x,b[b6]? = some x:=⟨_,awT (by omega)⟩
   have bT:∀ (i:Nat) (x:B),b[i]? = some x->cN (.aq 1) (cF (some b)) (.int .i64 i)=some (.bM (cb x) 0) :=fun i x ag=>by rw[p2]; simp[ag]
   have xr:=bT a hr me;have cX:=bT a8 cT gB;have dY:=bT bh dw ej;have gY:=bT b6 ke vd;have NR:=aqr b k fe;rw[aqo b k hr cT dw ke (by rw[<-aE]; exact me) (by rw[<-aE,<-En]; exact gB) (by rw[<-aE,<-Mw]; exact ej) (by rw[<-aE,<-Mx]; exact vd)] at NR;obtain⟨w,aP⟩:∃ w,w=((hr.setWidth 32*256#32+cT.setWidth 32)*256#32+dw.setWidth 32)*256#32+ke.setWidth 32:=⟨_,rfl⟩
   rw[<-aP] at NR;have pa:bL 1 ([.cells 8 (h.l.map bx),.cells 8 hP]++(rest++[aV.cells 1 [bx w]])) v j (((fK b).take k).map eM) :=av.more [aV.cells 1 [bx w]];have vo:(((fK b).take k).map eM).length<=16:=by simp; omega
   obtain⟨v',cg,r',ad,ae,aj,aD⟩:=wz (by_:=4) pa ai (x:=.aq 1 (rest.length+2) 0 1 1 1) (xs:=[eM w]) (by simp[de,eM]) (by simp[eM]) (by omega) (by omega) (by rw[jZ]; simp; omega);have e5:bL 1 (.cells 8 (h.l.map bx) ::.cells 8 hP::r') v' cg (((fK b).take (k+1)).map eM) :=by rw[NR,axc]; exact ae
   simp only[axK,axT] at ad;have fD:cz v'=false:=by rw[aD]; simp
   simp[VW,g9,bO,w2,cY,xr,cX,dY,gY,cb];rw[<-aP];simp[ad];refine cU.b1 ?_;simp[VW,iO,fe];exact⟨fD,cg,aj,by rw[<-ay1]; exact e5,kq⟩
  ·have fe:k=16:=by omega
   subst fe;have ko:cz v=false:=by
    cases NP:cz v with
    | false=>rfl
    | true=>exact absurd (ao NP) (by omega)
   have zl:2<=j:=by
    rcases ai with h | h
    ·subst h; cases ko
    ·exact h
   have ahR:bL 1 (.cells 8 (h.l.map bx) ::.cells 8 hP::rest) v j ((fK b).map eM) :=by
    have:(fK b).take 16=fK b:=awR (by rw[aqp]; omega);rw[this] at av; exact av
   clear ao ai av;simp;refine cl 48 (fun k σ l=>σ 2=.ptr 0 0 8/\σ 4=.ptr 1 0 8/\σ 7=.int .i64 (16+k:Nat)/\∃ v j hP rest,σ 5=v/\cz v=false/\2<=j/\bL 1 l v j ((jd k (fK b)).map eM)/\l=.cells 8 (h.l.map bx) ::.cells 8 hP::rest/\hP.length=8) ?_ ?_
   ·rintro k σ l ar ⟨aW,bi,ei,v,j,hP,rest,bm,ao,ai,av,rfl,kq⟩;obtain⟨σ,rfl⟩:=ij aW bi bm ei;clear aW bi bm ei;obtain⟨t,aX⟩:∃ t,t=16+k:=⟨_,rfl⟩
    rw[<-aX];by_cases zm:(t:Int)<64
    ·have pf:IntKind.i64.wrap ((t:Int)+1)=(t+1:Nat) :=wrap_i64 (by omega) (by omega);have al:=aeI k b;obtain⟨xu,LO⟩:∃ i,i=t - 15:=⟨_,rfl⟩
     obtain⟨dY,bt⟩:∃ i,i=t - 2:=⟨_,rfl⟩
     obtain⟨xv,HD⟩:∃ i,i=t - 16:=⟨_,rfl⟩
     obtain⟨iV,Bc⟩:∃ i,i=t - 7:=⟨_,rfl⟩
     have KD:IntKind.i64.wrap ((t:Int) - 15)=xu:=by rw[wrap_i64 (by omega) (by omega)]; omega
     have w2:IntKind.i64.wrap ((t:Int) - 2)=dY:=by rw[wrap_i64 (by omega) (by omega)]; omega
     have KE:IntKind.i64.wrap ((t:Int) - 16)=xv:=by rw[wrap_i64 (by omega) (by omega)]; omega
     have GJ:IntKind.i64.wrap ((t:Int) - 7)=iV:=by rw[wrap_i64 (by omega) (by omega)]; omega
     obtain⟨g0,zH⟩:∃ g0,g0=jd k (fK b) :=⟨_,rfl⟩
     have nz:=LY k (fK b);rw[<-zH] at al av nz;have xp:g0.length=t:=by omega
     unfold ext at nz
     dsimp only at nz
     rw[xp,<-LO,<-bt,<-HD,<-Bc] at nz;have HP:∀ i,i<t->g0[i]? = some (g0.getD i 0#32) :=fun i ay=>by rw[aw7,awT (by omega)]; rfl
     obtain⟨x,ag⟩:∃ x,x=g0.getD xu 0#32:=⟨_,rfl⟩
     obtain⟨y,aI⟩:∃ y,y=g0.getD dY 0#32:=⟨_,rfl⟩
     obtain⟨QD,WS⟩:∃ y,y=g0.getD xv 0#32:=⟨_,rfl⟩
     obtain⟨QE,WT⟩:∃ y,y=g0.getD iV 0#32:=⟨_,rfl⟩
     rw[<-ag,<-aI,<-WS,<-WT] at nz;obtain⟨cap,sz,cs,rfl,xh,c6⟩:=abf av ao;have Hq:=c6 xu x (by rw[ag]; exact HP xu (by omega));have b7:=c6 dY y (by rw[aI]; exact HP dY (by omega));have Dt:=c6 xv QD (by rw[WS]; exact HP xv (by omega));have Dv:=c6 iV QE (by rw[WT]; exact HP iV (by omega));obtain⟨w,aP⟩:∃ w,w=QD+QE+(oC x 7 ^^^ oC x 18 ^^^ x >>> 3)+(oC y 17 ^^^ oC y 19 ^^^ y >>> 10) :=⟨_,rfl⟩
     rw[<-aP] at nz;have pa:bL 1 ([.cells 8 (h.l.map bx),.cells 8 hP]++(rest++[aV.cells 1 [bx w]])) _ j (g0.map eM) :=av.more [aV.cells 1 [bx w]];obtain⟨v',cg,r',ad,ae,aj,aD⟩:=wz (by_:=4) pa (.inr ai) (x:=.aq 1 (rest.length+2) 0 1 1 1) (xs:=[eM w]) (by simp[de,eM]) (by simp[eM]) (by omega) (by omega) (by rw[jZ]; simp; omega);have e5:bL 1 (.cells 8 (h.l.map bx) ::.cells 8 hP::r') v' cg ((jd (k+1) (fK b)).map eM) :=by rw[nz,axc]; exact ae
     simp only[axK,axT] at ad;have fD:cz v'=false:=by rw[aD]; rfl
     obtain⟨gD,rfl⟩:∃ gD,j=gD+2:=⟨j - 2,by omega⟩
     have tD:rest[gD]? = some (.cells sz cs) :=by simpa using xh
     have zr:(rest++[aV.cells 1 [bx w]])[gD]? = some (.cells sz cs) :=by rw[awS (cd tD)]; exact tD
     have Lh:xu<g0.length:=by omega
     have dw:dY<g0.length:=by omega
     have Li:xv<g0.length:=by omega
     have rW:iV<g0.length:=by omega
     have t7:=uv x 7 (by omega) (by omega);have t18:=uv x 18 (by omega) (by omega);have t17:=uv y 17 (by omega) (by omega);have t19:=uv y 19 (by omega) (by omega);simp at t7 t18 t17 t19;simp[zm,KD,w2,KE,GJ,Lh,dw,Li,rW,tD,Hq,b7,Dt,Dv];refine a7 t7 rfl ?_;simp[tD,Dt,Dv];refine a7 t18 rfl ?_;simp[tD,Dt,Dv];refine a7 t17 rfl ?_;simp[tD,Dt,Dv];refine a7 t19 rfl ?_;simp[tD,Dt,Dv];rw[<-aP];simp[ad];refine cU.b1 ?_;simp[pf];exact⟨by omega,by omega,fD,cg,aj.resolve_left (by intro e; subst e; cases fD),e5,kq⟩
    ·have fe:k=48:=by omega
     subst fe;subst aX;have tK:jd 48 (fK b)=fR b:=rfl;rw[tK] at av;obtain⟨cap,sz,cs,rfl,xh,c6⟩:=abf av ao;obtain⟨gD,rfl⟩:∃ gD,j=gD+2:=⟨j - 2,by omega⟩
     have tD:rest[gD]? = some (.cells sz cs) :=by simpa using xh
     have bW:=Gl b;rw[bW];clear av ao ai xh;simp;refine a7 adN.Gw rfl ?_;have o9:h.l.length=8:=rfl;simp[oI,o9];refine cl 64 (fun k σ l=>σ 2=.ptr 0 0 8/\σ 4=.ptr 1 0 8/\σ 5=.aq 1 (gD+2) 0 64 cap sz/\σ 10=cc 1 eM (some cm)/\σ 11=.ptr (rest.length+2) 0 8/\σ 12=.int .i64 k/\l=.cells 8 (h.l.map bx) ::.cells 8 hP::(rest++[.cells 8 ((nJ h b k).l.map bx)])) ?_ ?_
     ·rintro k σ l ar ⟨aW,bi,bm,gg,ht,kL,rfl⟩;obtain⟨σ,rfl⟩:=we aW bi bm gg ht kL;clear aW bi bm gg ht kL;have et:=cd tD;have zr:∀ x:aV,(rest++[x])[gD]? = some (.cells sz cs) :=fun x=>by rw[awS et]; exact tD
      by_cases zm:(k:Int)<64
      ·have e6:k<64:=by omega
       have dD:IntKind.i64.wrap ((k:Int)+1)=(k+1:Nat) :=wrap_i64 (by omega) (by omega);have tB:cm[k]? = some (cm.getD k 0#32) :=by rw[aw7,awT (show k<cm.length from e6)]; rfl
       have gO:=c6 k ((fR b).getD k 0#32) (by rw[aw7,awT (by omega)]; rfl);rw[Zm h b k e6];obtain⟨iO,aP⟩:∃ iO,(fR b).getD k 0#32=iO:=⟨_,rfl⟩
       obtain⟨nF,M4⟩:∃ nF,cm.getD k 0#32=nF:=⟨_,rfl⟩
       obtain⟨s,ak⟩:∃ s,nJ h b k=s:=⟨_,rfl⟩
       rw[aP] at gO ⊢;rw[M4] at tB ⊢;rw[ak];have Cb:cN (.aq 1) (cc 1 eM (some cm)) (.int .i64 k)=some (.bM (eM nF) 0) :=by rw[p2]; simp[tB]
       have t6:=uv s.e 6 (by omega) (by omega);have t11:=uv s.e 11 (by omega) (by omega);have t25:=uv s.e 25 (by omega) (by omega);have t2:=uv s.a 2 (by omega) (by omega);have t13:=uv s.a 13 (by omega) (by omega);have t22:=uv s.a 22 (by omega) (by omega);simp at t6 t11 t25 t2 t13 t22;have ail:s.l=[s.a,s.b,s.c,s.d,s.e,s.f,s.g,s.h] :=rfl;have WA:(round s nF iO).l=[(round s nF iO).a,(round s nF iO).b,(round s nF iO).c,(round s nF iO).d,(round s nF iO).e,(round s nF iO).f,(round s nF iO).g,(round s nF iO).h] :=rfl;simp[zm,ail,Cb,eM,zr,gO];refine a7 t6 rfl ?_;simp[Cb,eM,zr,gO];refine a7 t11 rfl ?_;simp[Cb,eM,zr,gO];refine a7 t25 rfl ?_;simp[Cb,eM,zr,gO];refine a7 t2 rfl ?_;simp[Cb,eM,zr,gO];refine a7 t13 rfl ?_;simp[Cb,eM,zr,gO];refine a7 t22 rfl ?_;simp[oI,e6,dD];rfl
      ·have fe:k=64:=by omega
       subst fe;rw[Zl];obtain⟨v,ao⟩:∃ v,rounds h cm (fR b)=v:=⟨_,rfl⟩
       rw[ao];have hX:grind h b=⟨h.a+v.a,h.b+v.b,h.c+v.c,h.d+v.d,h.e+v.e,h.f+v.f,h.g+v.g,h.h+v.h⟩:=by unfold grind; rw[ao]
       have og:h.l.length=v.l.length:=rfl;have o9:h.l.length=8:=rfl;have vl:(grind h b).l=jt h.l v.l 8:=by rw[hX]; rfl
       rw[vl];simp;refine cl 8 (fun k σ l=>σ 2=.ptr 0 0 8/\σ 4=.ptr 1 0 8/\σ 11=.ptr (rest.length+2) 0 8/\σ 21=.int .i64 k/\l=.cells 8 ((jt h.l v.l k).map bx) ::.cells 8 hP::(rest++[.cells 8 (v.l.map bx)])) ?_ ?_
       ·rintro k σ l ar ⟨aW,bi,ht,uY,rfl⟩;obtain⟨σ,rfl⟩:=ij aW bi ht uY;clear aW bi ht uY;by_cases iJ:(k:Int)<8
        ·have vn:k<8:=by omega
         have dD:IntKind.i64.wrap ((k:Int)+1)=(k+1:Nat) :=wrap_i64 (by omega) (by omega);obtain⟨y,aI⟩:∃ y,v.l[k]? = some y:=⟨_,awT (show k<v.l.length from vn)⟩
         obtain⟨z,aw⟩:∃ z,h.l[k]? = some z:=⟨_,awT (show k<h.l.length from vn)⟩
         have aE:=Q0 og (k:=k) (by rw[o9]; exact vn);rw[aw] at aE;have ic:=K4 og k;have sp:=qi bx (jt h.l v.l k) k (z+y) (by rw[ic,o9]; exact vn);rw[Q1 og aw aI] at sp;have VO:(List.map bx (jt h.l v.l k))[k]? = some (bx z) :=by rw[awV,aE]; rfl
         have BM:k<=7:=by omega
         obtain⟨A,dA⟩:∃ A,A=(jt h.l v.l k).map bx:=⟨_,rfl⟩
         have lL:A.length=8:=by rw[dA,aw1,ic,o9]
         rw[<-dA] at VO sp ⊢;obtain⟨afx,ag5⟩:=awQ.1 VO;simp[iJ,vn,dD,ag5,aI,sp,lL,BM]
        ·have fe:k=8:=by omega
         subst fe;have ic:=K4 og 8;have Jc:∀ A:List U,A.length=8->A.take 8=A:=fun A dA=>awR (by omega)
         obtain⟨A,dA⟩:∃ A,A=(jt h.l v.l 8).map bx:=⟨_,rfl⟩
         have lL:A.length=8:=by rw[dA,aw1,ic,o9]
         have Br:a4 A=true:=by rw[dA]; exact ng bx (fun _=>rfl) _
         rw[<-dA];simp[oI,kq,lL,Jc A lL];exact aU rfl (by simp[U.closed,Br])
       ·simp[Q2]
     ·simp[Zn];exact awR (by simp[o9])
   ·refine⟨rfl,rfl,rfl,v,j,hP,rest,rfl,ko,zl,ahR,rfl,kq⟩
 ·simp;exact⟨0,.nil 0⟩
def sL (k:Nat) :List B:=128#8::List.replicate k 0#8
theorem amc (k:Nat) :sL (k+1)=sL k++[0#8] :=by simp[sL,List.replicate_succ']
theorem YJ (k:Nat) :(sL k).length=k+1:=by simp[sL]
set_option maxHeartbeats 8000000 in
theorem anE (n:Nat) (aC:n<=100000000) :gI Tryz.prog GS 204 [.int .i64 n] (cF (some (tail n))) :=by
 have jZ:ci=140737488355328:=rfl;refine Cz Tryz.checked.mixed bj ?_;apply bn Tryz.func204 [];obtain⟨m,hm⟩:∃ m,m=(119 - n % 64) % 64:=⟨_,rfl⟩
 simp;refine cl m (fun k σ l=>σ 0=.int .i64 n/\∃ v j,σ 3=v/\cz v=false/\bL 1 l v j ((sL k).map cb)) ?_ ?_
 ·rintro k σ l ar ⟨ck,v,j,a6,ao,av⟩;obtain⟨σ,rfl⟩:=rD ck a6;clear ck a6;have bA:=av.len;rw[aw1,YJ] at bA;obtain⟨bZ,IH⟩:∃ bZ,bZ=k+1:=⟨_,rfl⟩
  rw[<-IH] at bA;have pf:IntKind.i64.wrap ((n:Int)+(bZ:Int))=(n+bZ:Nat) :=wrap_i64 (by omega) (by omega);obtain⟨q,aN⟩:∃ q,q=n+bZ:=⟨_,rfl⟩
  rw[<-aN] at pf;have mT:IntKind.i64.wrap ((q:Int)+8)=(q+8:Nat) :=wrap_i64 (by omega) (by omega);obtain⟨J2,Nw⟩:∃ J2,J2=q+8:=⟨_,rfl⟩
  rw[<-Nw] at mT;have sk:=AP J2 64 (by omega);rw[show ((64:Int).toNat)=64 from rfl] at sk;obtain⟨x,ag⟩:∃ x,x=J2 % 64:=⟨_,rfl⟩
  rw[<-ag] at sk;simp[bA,pf,mT,sk];by_cases B8:x=0
  ·have iS:k=m:=by omega
   subst iS;have NI:sL k=oK n 0:=by unfold sL oK; rw[<-hm]; simp
   rw[NI] at av;clear bA pf mT sk;simp[B8];refine cl 8 (fun k σ l=>σ 0=.int .i64 n/\σ 4=.int .i64 (7 - (k:Int))/\∃ v j,σ 3=v/\cz v=false/\bL 1 l v j ((oK n k).map cb)) ?_ ?_
   ·rintro k σ l ar ⟨ck,bi,v,j,a6,ao,av⟩;obtain⟨σ,rfl⟩:=lC ck a6 bi;clear ck a6 bi;obtain⟨c,ah⟩:∃ c:Int,c=7 - (k:Int) :=⟨_,rfl⟩
    rw[<-ah];by_cases iJ:0<=c
    ·have BM:k<8:=by omega
     have sq:IntKind.i64.wrap (c - 1)=7 - ((k:Int)+1) :=by rw[wrap_i64 (by omega) (by omega)]; omega
     obtain⟨d,bg⟩:∃ d,d=8*c:=⟨_,rfl⟩
     have NQ:IntKind.i64.wrap (8*c)=d:=by rw[wrap_i64 (by omega) (by omega)]; omega
     have MF:0<=d:=by omega
     have agH:d.toNat=56 - 8*k:=by omega
     have ag:=RI (BitVec.ofNat 64 n*8#64) k BM;have ln:=Kv n k;obtain⟨y,aI⟩:∃ y,y=(((BitVec.ofNat 64 n*8#64) >>> (56 - 8*k)).setWidth 8) :=⟨_,rfl⟩
     rw[<-aI] at ag;have pa:bL 1 (l++[aV.cells 1 [bC y]]) v j ((oK n k).map cb) :=av.more _;obtain⟨v',cg,l',ad,ae,aj,aD,a2,bv⟩:=oS (by_:=1) pa (x:=.aq 1 l.length 0 1 1 1) (xs:=[[bC y]]) (by simp[de]) (by simp) (by omega) (by omega) (by simp; omega);have fD:cz v'=false:=by rw[vJ bv,ao]; rfl
     have e5:bL 1 l' v' cg ((oK n (k+1)).map cb) :=by rw[aaH n k y ag,axc]; exact ae
     rw[BitVec.mul_comm] at aI;simp only[bC] at ad;simp[iJ,NQ,MF,agH];rw[<-aI];simp[ad];refine cU.b1 ?_;simp[sq,BM];exact⟨fD,cg,e5⟩
    ·have fe:k=8:=by omega
     subst fe;simp[iJ];exact av.Gb (fun _=>rfl) (some (tail n)) ao rfl
   ·simp;exact⟨ao,_,av⟩
  ·have ln:=YJ k;have pa:bL 1 (l++[aV.cells 1 [bC 0#8]]) v j ((sL k).map cb) :=av.more _;obtain⟨v',cg,l',ad,ae,aj,aD,a2,bv⟩:=oS (by_:=1) pa (x:=.aq 1 l.length 0 1 1 1) (xs:=[[bC 0#8]]) (by simp[de]) (by simp) (by omega) (by omega) (by simp; omega);have fD:cz v'=false:=by rw[vJ bv,ao]; rfl
   have e5:bL 1 l' v' cg ((sL (k+1)).map cb) :=by rw[amc,axc]; exact ae
   have iS:k<m:=by omega
   simp[bC] at ad;simp[B8,ad];refine cU.b1 ?_;simp[iS];exact⟨fD,cg,e5⟩
 ·simp;exact⟨rfl,0,.aq 0 1 1 1 [.int .u8 128] _ rfl rfl rfl (by intro e am; simp[sL] at am; subst am; rfl) (awU _) (awU _) rfl⟩
set_option maxHeartbeats 8000000 in
theorem anx (h:eU) (b:List B) (af:b.length<=100000000) :bw Tryz.prog GS 202 [.aH (h.l.map bx),cF (some b)] (.aH ((h7 h b).1.l.map bx)) :=by
 refine bQ Tryz.checked.mixed bj ?_;apply bn Tryz.func202 [];have Jc:∀ A:List U,A.length=8->A.take 8=A:=fun A dA=>awR (by omega)
 have VQ:∀ s:eU,(s.l.map bx).length=8:=fun s=>rfl
 obtain⟨KO,D9⟩:∃ KO,KO=h.l.map bx:=⟨_,rfl⟩
 have afv:KO.length=8:=by rw[D9]; rfl
 rw[<-D9];simp[afv];refine cl (b.length / 64) (fun k σ l=>σ 1=cF (some b)/\σ 2=.ptr 0 0 8/\σ 4=.ptr 1 0 8/\σ 5=.int .i64 (64*k:Nat)/\∃ s hP,h7 s (b.drop (64*k))=h7 h b/\l=[.cells 8 (s.l.map bx),.cells 8 hP]/\hP.length=8) ?_ ?_
 ·rintro k σ l ar ⟨aK,aW,bi,bm,s,hP,ak,rfl,kq⟩;obtain⟨σ,rfl⟩:=ij aK aW bi bm;clear aK aW bi bm;obtain⟨a,aE⟩:∃ a,a=64*k:=⟨_,rfl⟩
  rw[<-aE] at ak ⊢;obtain⟨a8,En⟩:∃ a8,a8=64*(k+1) :=⟨_,rfl⟩
  rw[<-En];obtain⟨A,dA⟩:∃ A,A=s.l.map bx:=⟨_,rfl⟩
  have lL:A.length=8:=by rw[dA]; rfl
  rw[<-dA];have aP:IntKind.i64.wrap ((a:Int)+64)=a8:=by rw[wrap_i64 (by omega) (by omega)]; omega
  by_cases dN:a8<=b.length
  ·have EP:(a8:Int)<=b.length:=by omega
   have bW:fm (.aq 1) (cF (some b)) (some (.int .i64 (a:Int))) (some (.int .i64 (a8:Int))) none=some (cF (some ((b.drop a).take 64))) :=by
    unfold cF; rw[aoy (by omega) (by omega) (by omega)];have:(a8:Int).toNat - (a:Int).toNat=64:=by omega
    rw[this,axq]
   have gq:64<=((b.drop a).take 64).length:=by simp; omega
   have hX:=afm s _ gq;have tA:grind s ((b.drop a).take 64)=grind s (((b.drop a).take 64)) :=rfl;rw[<-dA] at hX;have bE:h7 (grind s ((b.drop a).take 64)) (b.drop a8)=h7 h b:=by
    rw[<-ak,Dq s (b.drop a) (by simp; omega),azt];congr 2; omega
   have e6:k<b.length / 64:=by omega
   have Br:a4 A=true:=by rw[dA]; exact ng bx (fun _=>rfl) _
   obtain⟨KN,Mg⟩:∃ KN,KN=(grind s ((b.drop a).take 64)).l.map bx:=⟨_,rfl⟩
   have afy:KN.length=8:=by rw[Mg]; rfl
   rw[<-Mg] at hX;simp[aP,dN,EP,lL,Jc A lL,bW];refine a7 hX (by simp[a4,U.closed,Br,nh]) ?_;simp[oI,lL,afy,aP,e6];exact⟨_,bE,hP,⟨Mg,rfl⟩,kq⟩
  ·have EP:¬(a8:Int)<=b.length:=by omega
   have am:=ak;rw[Hl s (b.drop a) (by simp; omega)] at am;rw[<-am];have Br:a4 A=true:=by rw[dA]; exact ng bx (fun _=>rfl) _
   simp[aP,dN,EP,lL,Jc A lL,oI,kq];exact aU (by rw[dA]) (by rw[dA] at Br; simp[U.closed,Br])
 ·exact⟨rfl,rfl,rfl,rfl,h,rep 8 (.int .u32 0),rfl,by rw[D9]; rfl,rfl⟩
def uc (s:eU) (k:Nat) :List B:=(written s).take k++List.replicate (32 - k) 0#8
theorem al0 (s:eU) (k:Nat) (ar:k<=32) :(uc s k).length=32:=by
 unfold uc;have:=KL s;simp; omega
theorem al1 (s:eU) (k:Nat) (x:B) (ag:(written s)[k]? = some x) :(uc s k).set k x=uc s (k+1) :=by
 have ar:k<32:=(awQ.1 ag).1;unfold uc;have al:(List.take k (written s)).length=k:=by have:=KL s; simp; omega
 rw[axS _ _ (by omega),al,ayV,axe,ag,show 32 - k=(32 - (k+1))+1 by omega,axJ,ayA];simp
theorem aqv (s:eU) (k:Nat) (ar:k<32) :∃ w,s.l[k / 4]? = some w/\(written s)[k]? = some ((w >>> (24 - 8*(k % 4))).setWidth 8) :=by
 have aJ:∀ w:W,w=w >>> 0:=fun w=>by simp
 obtain⟨a,b,c,d,e,f,g,h⟩:=s;have:∀ (l:List W) (k:Nat),k<4*l.length->∃ w,l[k / 4]? = some w/\(l.map wg).flatten[k]? = some ((w >>> (24 - 8*(k % 4))).setWidth 8) :=by
  intro l
  induction l with
  | nil=>intro k ar; simp at ar
  | cons w l aR=>
   intro k ar
   match k,ar with
   | 0,_=>exact⟨w,rfl,rfl⟩
   | 1,_=>exact⟨w,rfl,rfl⟩
   | 2,_=>exact⟨w,rfl,rfl⟩
   | 3,_=>refine⟨w,rfl,?_⟩; simp[wg]
   | k+4,ar=>
    obtain⟨y,ad,ae⟩:=aR k (by simp at ar; omega);refine⟨y,?_,?_⟩
    ·rw[show (k+4) / 4=k / 4+1 by omega]; exact ad
    ·rw[show (k+4) % 4=k % 4 by omega]; exact ae
 exact this _ k (by simpa [eU.l] using ar)
set_option maxHeartbeats 8000000 in
theorem anG (s:eU) :bw Tryz.prog GS 201 [.aH (s.l.map bx)] (gP (written s)) :=by
 refine bQ Tryz.checked.mixed bj ?_;apply bn Tryz.func201 [];obtain⟨A,dA⟩:∃ A,A=s.l.map bx:=⟨_,rfl⟩
 have lL:A.length=8:=by rw[dA]; rfl
 rw[<-dA];simp[lL];refine cl 32 (fun k σ l=>σ 1=.ptr 0 0 8/\σ 2=.ptr 1 0 32/\σ 3=.ptr 2 0 32/\σ 4=.int .i64 k/\∃ hP,l=[.cells 8 A,.cells 32 hP,.cells 32 ((uc s k).map bC)]/\hP.length=32) ?_ ?_
 ·rintro k σ l ar ⟨aK,aW,a6,bi,hP,rfl,kq⟩;obtain⟨σ,rfl⟩:=ij aK aW a6 bi;clear aK aW a6 bi;by_cases MZ:(k:Int)<32
  ·have e6:k<32:=by omega
   have dD:IntKind.i64.wrap ((k:Int)+1)=(k+1:Nat) :=wrap_i64 (by omega) (by omega);have Nx:=Lr k 4 (by omega) (by omega);have sk:=AP k 4 (by omega);rw[show ((4:Int).toNat)=4 from rfl] at Nx sk;obtain⟨w,aP,ag⟩:=aqv s k e6;obtain⟨q,aN⟩:∃ q,q=k / 4:=⟨_,rfl⟩
   obtain⟨r,az⟩:∃ r,r=k % 4:=⟨_,rfl⟩
   rw[<-aN] at Nx aP;rw[<-az] at sk ag;have Nw:q<8:=by omega
   obtain⟨F8,WA⟩:∃ F8,F8=8*r:=⟨_,rfl⟩
   have NQ:IntKind.i64.wrap (8*(r:Int))=F8:=by rw[wrap_i64 (by omega) (by omega)]; omega
   obtain⟨J3,aie⟩:∃ J3,J3=24 - F8:=⟨_,rfl⟩
   have aiH:IntKind.i64.wrap (24 - (F8:Int))=J3:=by rw[wrap_i64 (by omega) (by omega)]; omega
   have lS:=al1 s k _ ag;rw[<-WA,<-aie] at ag lS;have dP:=al0 s k (by omega);have sp:=qi bC (uc s k) k ((w >>> J3).setWidth 8) (by rw[dP]; exact e6);rw[lS] at sp;obtain⟨O,eO⟩:∃ O,O=(uc s k).map bC:=⟨_,rfl⟩
   have pM:O.length=32:=by rw[eO,aw1,dP]
   rw[<-eO] at sp ⊢;have afz:A[q]? = some (bx w) :=by rw[dA,awV,aP]; rfl
   obtain⟨afx,afA⟩:=awQ.1 afz;have aia:q<=7:=by omega
   have aho:k<=31:=by omega
   have aib:(q:Int)<8:=by omega
   simp[MZ,e6,dD,Nx,sk,NQ,aiH,lL,Nw,afA,pM,sp,kq,aia,aho,aib]
  ·have fe:k=32:=by omega
   subst fe;have av:uc s 32=written s:=by unfold uc; rw[awR (by rw[KL]; omega)]; simp
   rw[av];obtain⟨O,eO⟩:∃ O,O=(written s).map bC:=⟨_,rfl⟩
   have pM:O.length=32:=by rw[eO,aw1,KL]
   have afT:a4 O=true:=by rw[eO]; exact ng bC (fun _=>rfl) _
   have aX:O.take 32=O:=awR (by omega);unfold gP;rw[<-eO];simp[pM,aX,oI,kq];exact aU rfl (by simp[U.closed,afT])
 ·refine⟨rfl,rfl,rfl,rfl,_,rfl,rfl⟩
set_option maxHeartbeats 8000000 in
theorem ZA (s:eS) (ak:s.l.length<=1000000) :bw Tryz.prog GS 171 [cF s] (gP (i2 s.l)) :=by
 have jZ:ci=140737488355328:=rfl;refine bQ Tryz.checked.mixed bj ?_;apply bn Tryz.func171 [];simp;refine a7 aeT rfl ?_;have aly:bL 1 ([aV.cells 32 (rep 32 (U.int IntKind.u8 0))]++[aV.cells 0 []]) (.aq 1 1 0 0 0 0) 1 [] :=.aq 1 0 0 0 [] _ rfl rfl rfl (by simp) (awU _) (awU _) rfl;obtain⟨v,j,r,ad,ae,aj,aD⟩:=wz (by_:=1) aly (.inr (awU _)) (x:=cF s) (xs:=s.l.map cb) (by unfold cF; rw[wV,aw1]) (by intro e am; obtain⟨x,_,rfl⟩:=axi.1 am; rfl) (by omega) (by omega) (by rw[jZ]; simp; omega);have ao:cz v=false:=by rw[aD]; rfl
 simp only[axT,List.singleton_append] at ad ae;have bA:cp (.aq 1) (cF s)=some (.int .i64 s.l.length) :=lV _;have ln:=anE s.l.length (by omega);have Jd:(tail s.l.length).length<=80:=by rw[<-Qf]; exact Kv _ _
 obtain⟨v',cg,r',bZ,ce,eB,hA⟩:=wz (by_:=1) (pre:=[aV.cells 32 (rep 32 (U.int IntKind.u8 0))]) ae aj (x:=cF (some (tail s.l.length))) (xs:=(tail s.l.length).map cb) (by unfold cF; rw[wV,aw1]; rfl) (by intro e am; obtain⟨x,_,rfl⟩:=axi.1 am; rfl) (by omega) (by omega) (by rw[jZ]; simp; omega);have fD:cz v'=false:=by rw[hA,ao]; rfl
 rw[<-axc] at ce;simp only[List.singleton_append] at bZ ce;have mn:=ce.x3 (fun _=>rfl) (some (s.l++tail s.l.length)) fD rfl;have gq:=anx first (s.l++tail s.l.length) (by simp; omega)
 have lT:=anG (h7 first (s.l++tail s.l.length)).1;have pY:i2 s.l=written (h7 first (s.l++tail s.l.length)).1:=rfl;rw[<-pY] at lT;obtain⟨F,o2⟩:∃ F,F=(h7 first (s.l++tail s.l.length)).1:=⟨_,rfl⟩
 rw[<-o2] at gq lT;simp[ad];refine cU.b1 ?_;simp[bA];refine a7 ln.Gw rfl ?_;simp[bZ];refine cU.b1 ?_;simp;refine mA gq (.cons (.same _ ?_) (.cons mn .nil)) (Ul bx (fun _=>rfl) _) ?_
 ·simp[U.closed,ng bx (fun _=>rfl)]
 simp;refine a7 lT ?_ ?_
 ·simp[a4,U.closed,ng bx (fun _=>rfl)]
 have bW:=ye s.l;simp[gP,bW,oI,awR];exact aU rfl (by simp[U.closed,ng bC (fun _=>rfl)])
end hp

end Go.bV

namespace Go.bV
open Go Go.Proofs Go.RowKit
set_option maxRecDepth 100000
open hp
theorem Qn {e:TypeId} (aM:Tryz.prog.underlying e=some (.int .u8)) :∀ (n:Nat) {ts:List TypeId} {cs:List U},dv Tryz.prog (List.replicate n e++ts) cs->∃ (x:List B) (cs' : List U),cs=x.map bC++cs'/\x.length=n/\dv Tryz.prog ts cs'
 | 0,ts,cs,h=>⟨[],cs,rfl,rfl,h⟩
 | n+1,ts,cs,h=>by
  obtain⟨k,qI,rfl,ad,ae,aj⟩:=uw aM h;obtain⟨x,hT,rfl,ag,aD⟩:=Qn aM n aj;have a2:(0:Int)<=k:=ad;have bv:k<=255:=ae;refine⟨BitVec.ofNat 8 k.toNat::x,hT,?_,by simp[ag],aD⟩;have:((BitVec.ofNat 8 k.toNat).toNat:Int)=k:=by
   rw[axf,aw2 (by omega)]; omega
  simp[bC,u]; omega
theorem aaY (r:List U) (h:dv Tryz.prog [61] r) :∃ x:List B,r=x.map bC/\x.length=32:=by
 have ad:=Qm (e:=5) (n:=32) (by kernel_rfl) h;obtain⟨x,cs',rfl,ag,ae⟩:=Qn (by kernel_rfl) 32 ad;rw[As ae,axr];exact⟨x,rfl,ag⟩
theorem aa1 {ts:List TypeId} {cs:List U} (h:dv Tryz.prog (86::ts) cs) :∃ (x:BitVec 64) (cs' : List U),cs=ea x::cs'/\dv Tryz.prog ts cs':=by
 obtain⟨k,qI,rfl,ad,ae,aj⟩:=uw (k:=.u64) (by kernel_rfl) h;have a2:(0:Int)<=k:=ad;have bv:k<=18446744073709551615:=ae;refine⟨BitVec.ofNat 64 k.toNat,qI,?_,aj⟩;have:((BitVec.ofNat 64 k.toNat).toNat:Int)=k:=by
  rw[axf,aw2 (by omega)]; omega
 simp[ea,u]; omega
theorem Ql {ts:List TypeId} {cs:List U} (h:js Tryz.prog (3::ts) cs) :∃ (n:Int) (cs' : List U),cs=.int .i64 n::cs'/\IntKind.i64.min<=n/\n<=IntKind.i64.max/\js Tryz.prog ts cs':=by
 obtain⟨c,cs',rfl,ad,ae⟩:=CX h;obtain⟨n,qI,ak,al,ay,aj⟩:=uw (k:=.i64) (by kernel_rfl) (Gx (by kernel_rfl) ad);cases ak;exact⟨n,cs',rfl,al,ay,ae⟩
def Ok:List Int:=hp.cm.map fun k=>(k.toNat:Int)
theorem ao5:CV=Ok.map fun k=>.int .u32 k:=by unfold CV Ok; rw[ayv]; rfl
theorem aj9 {W:World} (h:laidMetH Tryz.prog [("braid/digest.constants",Go.Proofs.YtidejmkknleijaaGreatDoor.Rows.laid_braid_digest_constants)] W) :∀ g,eh W (fun _=>True) (GS g) (.pointer (some ⟨g,0,none⟩)) :=by
 intro g;unfold GS;split
 ·rename_i af;have:=axt af;subst this;rw[MakeChecks.laidMetH_plain _ _ _ (by kernel_rfl)] at h;obtain⟨ps,⟨ck,t0,qH,f0,kx,cI,MO,NI,ko,MF,_,_⟩,_,_⟩:=h;have aS:Tryz.prog.globalNamed "braid/digest.constants"=some 1:=by kernel_rfl
  have bt:(Tryz.prog.globals[1]?).map (·.type)=some 264:=by kernel_rfl
  obtain rfl:=Option.some.inj (aS.symm.trans MO);obtain rfl:=Option.some.inj (bt.symm.trans NI);rw[ao5];exact afe Ok aS ko (n:=64) (e:=85) (by kernel_rfl) (by kernel_rfl) (by kernel_rfl) MF (by rfl)
 ·exact .bad _
end Go.bV

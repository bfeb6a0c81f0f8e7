/-
  Registers: what an operation sets, put into a row of one's own; walked.
-/
import Derived.Test.YtobphgccoalchaaGreatDoorRk
set_option linter.unusedVariables false
set_option linter.unusedSimpArgs false
set_option linter.unnecessarySimpa false
namespace Go.cf
open Go Go.Proofs
set_option maxRecDepth 100000
namespace Op
open gZ
theorem Us (s:gp) :gq Tryz.prog .eql 32 (cL 38 bR s) .aV=some (.bool s.isNone) :=Fb (e:=50) (by kernel_rfl) 38 bR s
theorem Ai {l:List bP} (h:hj l) :((l.map bR).flatten).length=l.length*38:=by
 rw[mM (z:=38) (fun e ao=>by obtain⟨y,ay,rfl⟩:=asr.1 ao; exact iu (h y ay).id),asi]
theorem U2 {l:ap} {b n:Nat} {a:List bP} (az:hj a) (aF:a.length=n) (ag:l[b]? = some (.cells (n*38) (a.map bR).flatten)) :bB 38 l (.au 38 b 0 n n (n*38)) b (a.map bR) :=by
 have eo:=Ai az;refine .au b n n (n*38) _ _ ag (by rw[eo,aF]) (by simp[aF]) (fun e ao=>?_) (ar0 _) (ar0 _) ?_
 ·obtain⟨y,ay,rfl⟩:=asr.1 ao; exact iu (az y ay).id
 ·rw[arX (by rw[eo,aF]; omega)]
structure jk (l:ap) (v:ad) (j:Nat) (xs:List bP) :Prop where
 o:bB 38 l v j (xs.map bR)
 v:v=.aV\/v=.au 38 j 0 xs.length xs.length (xs.length*38)
theorem jk.nil (l:ap) (j:Nat) :jk l .aV j [] :=⟨.nil j,.inl rfl⟩
theorem jk.frame {l l' : ap} {v:ad} {j:Nat} {xs:List bP} (h:jk l v j xs) (aD:v=.aV\/l'[j]? = l[j]?) :jk l' v j xs:=⟨h.o.nT aD,h.v⟩
theorem jk.full {l:ap} {j:Nat} {xs:List bP} (aq:hj xs) (ag:l[j]? = some (.cells (xs.length*38) (xs.map bR).flatten)) :jk l (.au 38 j 0 xs.length xs.length (xs.length*38)) j xs:=⟨U2 aq rfl ag,.inr rfl⟩
theorem jk.block {l:ap} {v:ad} {j:Nat} {xs:List bP} (h:jk l v j xs) (aw:v≠.aV) :v=.au 38 j 0 xs.length xs.length (xs.length*38)/\l[j]? = some (.cells (xs.length*38) (xs.map bR).flatten) :=by
 have qQ:=h.v.resolve_left aw;refine⟨qQ,?_⟩;have aq:=h.o;rw[qQ] at aq;generalize ao:ad.au 38 j 0 xs.length xs.length (xs.length*38)=w at aq;generalize lK:xs.map bR=es at aq;cases aq with
 | nil=>cases ao
 | au TZ n cap sz cs es ag am aF av ah c9 cb=>
  injection ao with _ aR _ bE c4 jr
  rw[ag,<-jr,<-cb,arX (by rw[am,<-jr,<-bE]; omega)]
def On (v:ad) (xs:List bP) :gp:=match cx v with | true=>none | false=>some xs
theorem jk.ajM {l:ap} {v:ad} {j:Nat} {xs:List bP} (h:jk l v j xs) :(On v xs).l=xs:=by
 rcases h.v with aw | aw
 ·have:=h.o;rw[aw] at this;have ai:=this.q.qX;rw[ate] at ai;rw[aw,ai]; rfl
 ·rw[aw]; rfl
theorem jk.rd {l:ap} {v:ad} {j:Nat} {xs:List bP} (h:jk l v j xs) :go (b8 l) v (c8 (On v xs)) :=by
 rcases h.v with aw | aw
 ·rw[aw]; exact .same _ rfl
 ·have:=h.o.na (fun x=>mK x) (some xs) (by rw[aw]; rfl) rfl;rw[aw] at this ⊢;exact this
theorem ZC (s:gp) (aq:hj s.l) (ak:s.l.length<=1000000) {l:ap} {K:ad->ap->Prop} (aB:s=none->K .aV l)
  (h1:∀ a,s=some a->K (.au 38 l.length 0 a.length a.length (a.length*38)) (l++[.cells (a.length*38) (a.map bR).flatten])) :
  dr Tryz.prog GS 155 [c8 s] l (c:=⟨K⟩) :=by
 apply bm Tryz.func155 [];have aA:cK=140737488355328:=rfl;cases s with
 | none=>
  simp[c8,Us];exact aB rfl
 | some a=>
  simp at ak;have eo:=Ai (l:=a) aq;have lI:i1 (l++[aY.cells 0 []]) 38 96 (.au 38 l.length 0 0 0 0) (cL 38 bR (some a))=some (.au 38 l.length 0 a.length a.length (a.length*38),l++[.cells (a.length*38) (a.map bR).flatten]) :=by
   unfold i1;rw[ul];simp only[dg.tt];unfold jm;by_cases av:a.length=0
   ·have:a=[] :=asF.1 av;subst this;simp
   ·rw[if_neg av,if_neg (by omega)];simp[aA];exact⟨by omega,fun h=>by simp[h]⟩
  simp[c8,Us,lI];refine dt.cy ?_;simp;exact h1 a rfl
theorem afc {l:ap} {b bv n i:Nat} {a:List bP} {x:bP} (az:hj a) (ai:tX x) (aF:a.length=n) (ag:l[b]? = some (.cells (n*38) (a.map bR).flatten)) (i5:l[bv]? = some (.cells 38 (bR x))) (bU:bv≠b) (ax:i<=n) (oM:n<=1000000)
  {K:ad->ap->Prop} (bl:K (.au 38 l.length 0 (n+1) (n+1) ((n+1)*38)) (l.set b .dead++[.cells ((n+1)*38) ((e5 a i x).map bR).flatten])) :
  dr Tryz.prog GS 138 [.au 38 b 0 n n (n*38),.int .i64 i,.au 38 bv 0 1 1 38] l (c:=⟨K⟩) :=by
 have eC:=e7 ag;have ak:=Mt (P:=Tryz.prog) (G:=GS) (h:=b8 l) Mq (by kernel_rfl) (by kernel_rfl) (show jn Tryz.prog 50=some 96 by kernel_rfl) (by omega) (by omega) (by kernel_rfl) (b:=b) (bv:=bv) (len:=n) (cap:=n) (i:=i) (ly.2 ag) (ly.2 i5) bU ax (ar0 _) (by unfold cK; omega);rw[zI,o7 _ eC,ng,aun (by omega)] at ak;refine⟨_,_,.ext ak,by simp,?_⟩;have eo:=Ai az;have bE:a.map bR=(a.take i).map bR++(a.drop i).map bR:=by rw[<-asv,asK]
 have Hi:((a.take i).map bR).flatten.length=i*38:=by
  rw[Ai (fun t aJ=>az t (asz aJ)),asc,asR (by omega)]
 have AD:((a.drop i).map bR).flatten.length=(n - i)*38:=by
  rw[Ai (fun t aJ=>az t (atx aJ)),atg,aF]
 have cI:mw 38 (a.map bR).flatten (bR x) i n=((e5 a i x).map bR).flatten:=by
  unfold mw e5;have h1:((a.map bR).flatten).take (i*38)=((a.take i).map bR).flatten:=by
   rw[bE,asX,asm (by omega),arX (by omega)]
  have ae:((a.map bR).flatten).drop (i*38)=((a.drop i).map bR).flatten:=by
   rw[bE,asX,asL (by omega),asW (by omega),asO]
  have al:(((a.drop i).map bR).flatten).take ((n - i)*38)=((a.drop i).map bR).flatten:=arX (by omega);have aE:((a.map bR).flatten).drop ((n+1)*38)=[] :=asW (by rw[eo,aF]; omega);rw[h1,ae,al,aE,asD];simp
 rw[cI];exact bl
theorem afb {l:ap} {bv:Nat} {x:bP} (i5:l[bv]? = some (.cells 38 (bR x))) {K:ad->ap->Prop} (bl:K (.au 38 l.length 0 1 1 38) (l++[.cells 38 (bR x)])) :
  dr Tryz.prog GS 138 [.aV,.int .i64 0,.au 38 bv 0 1 1 38] l (c:=⟨K⟩) :=by
 have ak:=Ms (P:=Tryz.prog) (G:=GS) (h:=b8 l) Mq (by kernel_rfl) (by kernel_rfl) (show jn Tryz.prog 50=some 96 by kernel_rfl) (by omega) (by omega) (by kernel_rfl) (bv:=bv) (ly.2 i5) (by unfold cK; omega);rw[zI,ng] at ak;exact⟨_,_,.ext ak,by simp,bl⟩
theorem P7 (l:List bP) (x:List UInt8) :eV l x<=l.length:=by unfold eV; exact (auP _).length_le
def jd (l:List bP) (x:bP) :List bP:=if ju l x.key=true then (if kW x.cl x.id (l0 l (eV l x.key)).cl (l0 l (eV l x.key)).id=true then l.set (eV l x.key) x else l) else e5 l (eV l x.key) x
def c6 (o:bq) (x:List B) :bP:=⟨o.act.key,o.act.val,o.cl,x⟩
def eS (l:List bP) (o:bq) (x:List B) :List bP:=if o.act.kind=4#8 then jd l (c6 o x) else l
theorem Fz (o:bq) :((u o.act.kind:Int)=4)<->o.act.kind=4#8:=sn o.act.kind 4#8
theorem Ht {l:List bP} {i:Nat} {x:bP} (h:hj l) (ai:tX x) :hj (e5 l i x) :=fun t aJ=>by
 rcases Be.1 aJ with e | e
 ·rw[e]; exact ai
 ·exact h t e
theorem N6 {l:List bP} {x:bP} (h:hj l) (ai:tX x) :hj (jd l x)/\(jd l x).length<=l.length+1:=by
 unfold jd;split
 ·split
  ·refine⟨fun t aJ=>?_,by simp⟩;rcases atf aJ with e | e
   ·exact h t e
   ·rw[e]; exact ai
  ·exact⟨h,by omega⟩
 ·exact⟨Ht h ai,by rw[ti]; omega⟩
set_option maxHeartbeats 8000000 in
theorem Vv (o:bq) (aq:D7 o.act.val) (x:List B) (ai:x.length=32) {xs:List bP} (da:hj xs) (aF:xs.length<=1000000) (hm:HW xs o.act.key) {l:ap} {v:ad} {j:Nat} (h:jk l v j xs) {K:ad->ap->Prop}
  (bl:∀ a8 l' bK,jk l' a8 bK (eS xs o x)->((v≠.aV/\bK=j)\/l.length<=bK\/a8=.aV)->l.length<=l'.length->(∀ b,b<l.length->(v=.aV\/b≠j)->l'[b]? = l[b]?)->(cx a8=true->cx v=true/\o.act.kind≠4#8)->(o.act.kind≠4#8->a8=v)->K a8 l') :
  dr Tryz.prog GS 87 [v,.aI (a1 o),.aI (aQ x)] l (c:=⟨K⟩) :=by
 apply bm Tryz.func87 [];have a2:=cA ai;have bO:(a1 o).length=11:=rfl;have jv:∀ h,(a1 o)[3]'h=bA o.act.kind:=fun _=>rfl
 have mb:∀ h,(a1 o)[4]'h=.str o.act.key:=fun _=>rfl
 have uA:∀ h,(a1 o)[2]'h=cU o.cl:=fun _=>rfl
 have uB:((a1 o).drop 5).take 4=dJ o.act.val:=rfl;have anH:(dJ o.act.val).length=4:=rfl;have wC:=Fz o;obtain⟨O,dn⟩:∃ O,O=a1 o:=⟨_,rfl⟩
 obtain⟨X,b3⟩:∃ X,X=aQ x:=⟨_,rfl⟩
 rw[<-dn] at bO jv mb uA uB ⊢;rw[<-b3] at a2 ⊢;obtain⟨L,dS⟩:∃ L,L=l++[aY.cells 11 O,aY.cells 32 X] :=⟨_,rfl⟩
 have mR:L.length=l.length+2:=by rw[dS]; simp
 have KC:∀ b,b<l.length->L[b]? = l[b]?:=fun b ag=>by rw[dS,arZ ag]
 have dK:L[l.length]? = some (.cells 11 O) :=by rw[dS,ar8 (ar0 _)]; simp
 have q1:L[l.length+1]? = some (.cells 32 X) :=by rw[dS,ar8 (by omega)]; simp
 have aj:v=.aV\/j<l.length:=h.o.lt;by_cases c5:o.act.kind=4#8
 ·have uZ:=wC.2 c5;have iB:eS xs o x=jd xs (c6 o x) :=by unfold eS; rw[if_pos c5]
  have yM:tX (c6 o x) :=⟨ai,aq⟩
  have wm:bR (c6 o x)=.str o.act.key::bA o.act.val.kind::.int .i64 o.act.val.num::cU o.act.val.bits::.str o.act.val.text::cU o.cl::X:=by rw[b3]; rfl
  have hL:=iu ai (r:=c6 o x);have uC:∀ h,(bR (c6 o x))[0]'h=.str o.act.key:=fun _=>rfl
  have m0:bt (rep 32 (.int .u8 0)) 0 X=X:=ek (by rw[a2]; rfl);have pD:=BG hL;have ak:=h.ajM;obtain⟨s,ia⟩:∃ s,s=On v xs:=⟨_,rfl⟩
  rw[<-ia] at ak;have yv:=aaW s (by rw[ak]; exact da) (by rw[ak]; exact aF) o.act.key (by rw[ak]; exact hm);rw[ak] at yv;have rG:=mK (c6 o x);obtain⟨T,cM⟩:∃ T,T=bR (c6 o x) :=⟨_,rfl⟩
  rw[<-cM] at wm hL uC pD rG;obtain⟨sC,Aq⟩:∃ sC,sC=L++[aY.cells 38 T] :=⟨_,rfl⟩
  have KA:sC.length=l.length+3:=by rw[Aq]; simp[mR]
  have Gc:∀ b,b<l.length->sC[b]? = l[b]?:=fun b ag=>by rw[Aq,arZ (by omega)]; exact KC b ag
  have ae:jk sC v j xs:=h.frame (aj.imp_right fun aj=>Gc j aj);have Tj:=ae.rd;rw[<-ia] at Tj;have dE:sC[l.length+2]? = some (.cells 38 T) :=by rw[Aq,ar8 (by omega),mR]; simp
  have cg:∀ h,L[l.length]'h=.cells 11 O:=fun h=>(arY.1 dK).2
  have aL:∀ h,L[l.length+1]'h=.cells 32 X:=fun h=>(arY.1 q1).2
  have aT:∀ h,sC[l.length+2]'h=.cells 38 T:=fun h=>(arY.1 dE).2
  have kR:∀ y:aY,(L++[y]).set (l.length+2) (.cells 38 T)=sC:=fun y=>by rw[Aq,asy _ _ (by omega),mR]; simp
  have ahr:∀ y:aY,(L++[y])[l.length+2]? = some y:=fun y=>by rw[ar8 (by omega),mR]; simp
  simp[bO,a2,jv,mb,uA,uB,dJ,uZ,<-dS,dK,q1,mR,arX,m0,<-wm,hL,pD,kR,ahr,dE,uC,cg,aL,aT];rw[<-Aq];refine iW yv (.cons Tj (.cons (.same _ rfl) (.cons (.same _ rfl) .nil))) rfl ?_;have eE:=P7 xs o.act.key;obtain⟨kG,eB⟩:∃ a,a=eV xs o.act.key:=⟨_,rfl⟩
  have uO:jd xs (c6 o x)=if ju xs o.act.key=true then (if kW o.cl x (l0 xs kG).cl (l0 xs kG).id=true then xs.set kG (c6 o x) else xs) else e5 xs kG (c6 o x) :=by rw[eB]; rfl
  rw[<-eB] at eE ⊢;cases aD:ju xs o.act.key with
  | false=>
   rw[aD,if_neg (by simp)] at uO;obtain⟨xK,Gb⟩:∃ xK,xK=sC++[aY.cells 38 T] :=⟨_,rfl⟩
   have anA:xK.length=l.length+4:=by rw[Gb]; simp[KA]
   have KD:∀ b,b<l.length->xK[b]? = l[b]?:=fun b ag=>by rw[Gb,arZ (by omega)]; exact Gc b ag
   have hn:xK[l.length+3]? = some (.cells 38 T) :=by rw[Gb,ar8 (by omega),KA]; simp
   simp[KA,dE,aT,hL,pD,arX,<-Gb];by_cases aw:v=.aV
   ·have tb:xs=[] :=by
     have:=h.o;rw[aw] at this;have:=this.q.qX
     rwa [ate] at this
    have RR:kG=0:=by rw[tb] at eE; simp at eE; exact eE
    rw[aw,RR];refine afb (x:=c6 o x) (by rw[hn,cM]) ?_;simp;have qJ:eS xs o x=[c6 o x] :=by rw[iB,uO,tb,RR]; rfl
    refine bl _ _ xK.length ?_ (.inr (.inl (by omega))) (by simp; omega) (fun b ag _=>by rw[arZ (by omega)]; exact KD b ag) (fun aH=>by cases aH) (fun aH=>absurd c5 aH);rw[qJ];exact jk.full (xs:=[c6 o x]) (fun t aJ=>by rw[asl] at aJ; rw[aJ]; exact yM) (by simp)
   ·obtain⟨qQ,ag⟩:=h.block aw;have e3:=aj.resolve_left aw;rw[qQ];refine afc (a:=xs) (x:=c6 o x) da yM rfl (by rw[KD j e3]; exact ag) (by rw[hn,cM]) (by omega) eE aF ?_;simp;refine bl _ _ xK.length ?_ (.inr (.inl (by omega))) (by simp; omega) (fun b ag gK=>by rw[arZ (by simp; omega),ar7 (fun e=>(gK.resolve_left aw) e.symm)]; exact KD b ag) (fun aH=>by cases aH) (fun aH=>absurd c5 aH);rw[iB,uO];have bn:(e5 xs kG (c6 o x)).length=xs.length+1:=ti _ _ _;rw[<-bn];exact jk.full (Ht da yM) (by rw[ar8 (by simp)]; simp)
  | true=>
   rw[aD,if_pos rfl] at uO;have AF:=aD;unfold ju at AF;rw[ar3,decide_eq_true_eq,<-eB] at AF;obtain⟨y,ay,ch⟩:=bu AF.1;have y1:l0 xs kG=y:=nb ay;rw[y1] at uO;have aw:v≠.aV:=fun aw=>by
    have:=h.o;rw[aw] at this;have:=this.q.qX;rw[ate] at this;rw[this] at ay; simp at ay
   have b4:=iu (da y ch).id;have hY:=mK y;obtain⟨p,c,q,aX,bg,a3,a4⟩:=ae.o.q.get (k:=.i64) (i:=kG) (e:=bR y) (by rw[ar5,ay]; rfl);have aM:=akS (c6 o x) y ai (da y ch).id;rw[<-cM] at aM;obtain⟨Y,dC⟩:∃ Y,Y=bR y:=⟨_,rfl⟩
   rw[<-dC] at a4 aM b4 hY;simp[dE,aT,hL,arX,aX,bg,a3,a4];refine aW aM (by simp[aZ,ad.closed,rG,hY]) ?_;have oL:kW (c6 o x).cl (c6 o x).id y.cl y.id=kW o.cl x y.cl y.id:=rfl;rw[oL];cases jx:kW o.cl x y.cl y.id with
   | false=>
    rw[jx,if_neg (by simp)] at uO;simp;refine bl v sC j (by rw[iB,uO]; exact ae) (.inl ⟨aw,rfl⟩) (by omega) (fun b ag _=>Gc b ag) (fun aH=>absurd (jC.1 aH) aw) (fun aH=>absurd c5 aH)
   | true=>
    rw[jx,if_pos rfl] at uO;obtain⟨bZ,l',dx,di,gA,mI,p6⟩:=zf (X:=.aI (bR (c6 o x))) rfl ae.o (fun y ay=>iu (da y ay).id) AF.1 (by rw[<-cM]; exact hL);rw[aX] at dx;obtain rfl:=Option.some.inj dx;rw[<-cM] at di;simp[dE,aT,hL,arX,aX,di];refine bl v l' j ?_ (.inl ⟨aw,rfl⟩) (by omega) (fun b ag gK=>by rw[p6 b (gK.resolve_left aw)]; exact Gc b ag) (fun aH=>absurd (jC.1 aH) aw) (fun aH=>absurd c5 aH);rw[iB,uO];refine⟨gA,.inr ?_⟩;rw[auu];exact h.v.resolve_left aw
 ·have uZ:¬ (u o.act.kind:Int)=4:=fun aH=>c5 (wC.1 aH)
  simp[bO,a2,jv,uZ,<-dS,dK];have iB:eS xs o x=xs:=by unfold eS; rw[if_neg c5]
  refine bl v L j (by rw[iB]; exact h.frame (aj.imp_right fun aj=>KC j aj)) ?_ (by omega) (fun b ag _=>KC b ag) (fun aH=>⟨aH,c5⟩) (fun _=>rfl);by_cases aw:v=.aV
  ·exact .inr (.inr aw)
  ·exact .inl ⟨aw,rfl⟩
theorem vQ (s:gp) :(c8 s).cells=some [c8 s] :=by cases s<;>rfl
theorem FZ {l:List bP} (h:mB l=0) :l.length<=60/\l7 l=true:=by
 unfold mB at h;split at h
 ·cases h
 ·split at h
  ·rename_i h1 ae; exact⟨by omega,ae⟩
  ·cases h
theorem Rp {l:List bP} (h:l7 l=true) {i:Nat} {a b:bP} (az:l[i]? = some a) (ag:l[i+1]? = some b) :e6 a.key b.key=true:=by
 have h1:=(of_decide_eq_true h) (i+1) (arY.1 ag).1;unfold ql at h1;rw[atP,nb az,nb ag,ar3] at h1;simpa using h1.2
theorem wd {l:List bP} (h:l7 l=true) :∀ {d i:Nat} {a b:bP},l[i]? = some a->l[i+d+1]? = some b->e6 a.key b.key=true
 | 0,i,a,b,az,ag=>Rp h az ag
 | d+1,i,a,b,az,ag=>by
  obtain⟨c,ah,_⟩:=bu (l:=l) (k:=i+d+1) (by have:=(arY.1 ag).1; omega);exact Ev (wd h az ah) (Rp h ah ag)
theorem Kp {l:List bP} (h:l7 l=true) (x:List UInt8) :HW l x:=by
 intro i j a b iy az ag aM;by_cases ao:i=j
 ·subst ao; rw[az] at ag; cases ag; exact aM
 ·exact Ev (wd h (d:=j - i - 1) az (by rw[show i+(j - i - 1)+1=j by omega]; exact ag)) aM
def oU (s:gp) (o:bq) :gp:=if s.isNone=true/\o.act.kind≠4#8 then none else some (eS s.l o (cQ o))
theorem xl (s:gp) (o:bq) :(oU s o).l=eS s.l o (cQ o) :=by
 unfold oU;split
 ·rename_i h;cases s with
  | some a=>cases h.1
  | none=>unfold eS; rw[if_neg h.2]
 ·rfl
def iG (s:gp) (o:bq) :gp × Int:=
 if mB s.l=0 then (if fy o=0 then (if 60<(eS s.l o (cQ o)).length then (none,18) else (oU s o,0)) else (none,8)) else (none,mB s.l)
set_option maxHeartbeats 8000000 in
theorem akV (s:gp) (o:bq) (ak:hj s.l) (db:s.l.length<=1000000) (aq:jO o) :
  bx Tryz.prog GS 98 [.aI [c8 s],.aI (a1 o)] (.bJ [.aI [c8 (iG s o).1],.int .i64 (iG s o).2]) :=by
 refine bH Tryz.checked.mixed bD ?_;apply bm Tryz.func98 [[[0],[1],[3],[4],[2,4,3]]];have cb:=qa s;have b6:=k5 o;have cO:=akW s ak db;have fv:=ON o aq;have cY:=Bb o;have bO:(a1 o).length=11:=rfl;have jY:=vQ s;by_cases aB:mB s.l=0
 ·by_cases h1:fy o=0
  ·obtain⟨D,gc⟩:∃ D,D=(cQ o).map bA:=⟨_,rfl⟩
   have gU:D.length=32:=by rw[gc,asi,cY]
   have An:aZ D=true:=by rw[gc]; exact lD bA (fun _=>rfl) _
   have Ao:aQ (cQ o)=D:=by rw[gc]; rfl
   have mo:bt (rep 32 (.int .u8 0)) 0 D=D:=ek (by rw[gU]; rfl);unfold fD at fv;rw[<-gc] at fv;have wF:=Kp (FZ aB).2 o.act.key;have iM:=(FZ aB).1;obtain⟨O,dn⟩:∃ O,O=a1 o:=⟨_,rfl⟩
   have iB:=fun (l:ap) (v:ad) (j:Nat) (h:jk l v j s.l) (K:ad->ap->Prop)=>Vv o aq.val (cQ o) cY ak db wF h (K:=K)
   rw[<-dn] at fv bO b6 ⊢;simp only[<-dn,Ao] at iB;simp[bO,jY,arX];refine aW cO (by simp[aZ,ad.closed,cb]) ?_;simp[aB,bO,arX];refine aW fv (by simp[aZ,ad.closed,b6]) ?_;simp[h1,gU,mo,bO,arX];refine ZC s ak db (fun aF=>?_) (fun a yU=>?_)
   ·subst aF;simp[bO,gU,arX];refine iB _ _ _ (jk.nil _ 4) _ (fun a8 l' bK fz fp ku pO q3 tG=>?_);have dE:l'[2]? = some (.cells 1 [.aV]) :=by rw[pO 2 (by simp) (.inl rfl)]; rfl
    have pv:3<=l'.length:=by simp at ku; omega
    have bn:=fz.o.len;rw[asi] at bn;have iC:=fz.o.cells;have ho:∀ y:aY,(l'.set 2 y)[2]? = some y:=fun y=>ar9 (by omega)
    by_cases ev:60<(eS [] o (cQ o)).length
    ·have rB:(60:Int)<((eS [] o (cQ o)).length:Int) :=by omega
     have az:iG (none) o=(none,18) :=by unfold iG; rw[if_pos aB,if_pos h1]; exact if_pos ev
     rw[az];simp[bn,rB,dE,ho];exact aK rfl rfl
    ·have rB:¬ (60:Int)<((eS [] o (cQ o)).length:Int) :=by omega
     have az:iG (none) o=(oU (none) o,0) :=by unfold iG; rw[if_pos aB,if_pos h1]; exact if_neg ev
     rw[az];simp[bn,rB,dE,ho,iC];refine oT (q4 ?_) (aK rfl rfl);have kQ:bB 38 (l'.set 2 (.cells 1 [a8])) a8 bK ((eS [] o (cQ o)).map bR) :=fz.o.nT (by
      by_cases aw:a8=.aV
      ·exact .inl aw
      ·right;refine ar7 ?_;rcases fp with h | h | h
       ·exact absurd rfl h.1
       ·simp at h; omega
       ·exact absurd h aw)
     exact kQ.q.lZ (fun x=>mK x) (oU (none) o) (by
      unfold oU;by_cases c5:o.act.kind=4#8
      ·simp[c5];cases eQ:cx a8 with
       | false=>rfl
       | true=>exact absurd c5 (q3 eQ).2
      ·simp[c5];rw[tG c5]; rfl) (xl _ _)
   ·subst yU;simp[bO,gU,arX];refine iB _ _ _ (jk.full ak (by simp)) _ (fun a8 l' bK fz fp ku pO q3 tG=>?_);have dE:l'[2]? = some (.cells 1 [.aV]) :=by rw[pO 2 (by simp) (.inr (by simp))]; rfl
    have pv:3<=l'.length:=by simp at ku; omega
    have bn:=fz.o.len;rw[asi] at bn;have iC:=fz.o.cells;have ho:∀ y:aY,(l'.set 2 y)[2]? = some y:=fun y=>ar9 (by omega)
    by_cases ev:60<(eS a o (cQ o)).length
    ·have rB:(60:Int)<((eS a o (cQ o)).length:Int) :=by omega
     have az:iG (some a) o=(none,18) :=by unfold iG; rw[if_pos aB,if_pos h1]; exact if_pos ev
     rw[az];simp[bn,rB,dE,ho];exact aK rfl rfl
    ·have rB:¬ (60:Int)<((eS a o (cQ o)).length:Int) :=by omega
     have az:iG (some a) o=(oU (some a) o,0) :=by unfold iG; rw[if_pos aB,if_pos h1]; exact if_neg ev
     rw[az];simp[bn,rB,dE,ho,iC];refine oT (q4 ?_) (aK rfl rfl);have kQ:bB 38 (l'.set 2 (.cells 1 [a8])) a8 bK ((eS a o (cQ o)).map bR) :=fz.o.nT (by
      by_cases aw:a8=.aV
      ·exact .inl aw
      ·right;refine ar7 ?_;rcases fp with h | h | h
       ·rw[h.2]; simp
       ·simp at h; omega
       ·exact absurd h aw)
     exact kQ.q.lZ (fun x=>mK x) (oU (some a) o) (by
      unfold oU;simp;cases eQ:cx a8 with
      | false=>rfl
      | true=>exact absurd (q3 eQ).1 (by simp[cx])) (xl _ _)
  ·have az:iG s o=(none,8) :=by unfold iG; rw[if_pos aB,if_neg h1]
   rw[az];simp[bO,jY];refine aW cO (by simp[aZ,ad.closed,cb]) ?_;simp[aB,bO,arX];refine aW fv (by simp[aZ,ad.closed,b6]) ?_;simp[h1,fD,cY];exact aK rfl rfl
 ·have az:iG s o=(none,mB s.l) :=by unfold iG; rw[if_neg aB]
  rw[az];simp[bO,jY];refine aW cO (by simp[aZ,ad.closed,cb]) ?_;simp[aB];exact aK rfl rfl
def j7 (a b:bP) :Bool:=e6 a.key b.key
def lw (l:List bP) (x:bP) :List bP:=e5 l (iV j7 l x l.length) x
theorem Qe (l:ap) (s:gp) :dA l 38 (c8 s)=some ((s.l.map bR).flatten,s.l.length) :=ul l 38 bR s
theorem JG {l:ap} {p:ad} {x:List ad × Nat} (h:eZ l p=some x) :oy p 0=some p:=by
 cases p<;>first | rfl | (exfalso; simp[eZ] at h)
structure Yg (l:ap) (a:List bP) (x:bP) (m:Nat) (af:bi) (l1:ap) :Prop where
 ex:∃ (i:Nat) (v:ad),i=m/\i<=a.length/\af 5=v/\af 6=.int .i64 (i:Int)/\cj 38 bR l l1 v (e5 a i x) false/\iV j7 a x i=iV j7 a x a.length
set_option maxHeartbeats 4000000 in
theorem VL (s:gp) (ak:hj s.l) (db:s.l.length<=1000000) (x:bP) (ai:tX x) :bx Tryz.prog GS 113 [c8 s,.aI (bR x)] (c8 (some (lw s.l x))) :=by
 refine bH Tryz.checked.mixed bD ?_;apply bm Tryz.func113 [[[0],[1],[3],[4],[2,4,3]]];have a2:=iu ai.id;have aA:cK=140737488355328:=rfl;have wq:∀ h,(bR x)[0]'h=.str x.key:=fun _=>rfl
 obtain⟨X,b3⟩:∃ X,X=bR x:=⟨_,rfl⟩
 have hN:=BG (E:=X) (by rw[b3]; exact a2);have AQ:bB 38 [aY.cells 38 X,aY.cells 0 [],aY.cells 38 X] (.au 38 1 0 0 0 0) 1 [] :=.au 1 0 0 0 [] [] rfl rfl rfl (by simp) (ar0 _) (by omega) rfl;obtain⟨eh,tl,l1,aX,dx,cm,d1,aR,f1⟩:=zN AQ (by_:=96) (x:=c8 s) (xs:=s.l.map bR) (by rw[asi]; exact Qe _ s) (fun e ao=>by obtain⟨y,ay,rfl⟩:=asr.1 ao; exact iu (ak y ay).id) (by omega) (by omega) (by rw[aA]; simp; omega);simp at cm;have AI:tl=1\/3<=tl:=by
  rcases aR with h | ⟨_,h⟩ | h
  ·exact .inr h
  ·exact .inl h
  ·rw[h] at f1; cases f1
 have dK:l1[0]? = some (.cells 38 X) :=by rw[d1 0 (by simp) (.inr (by omega))]; rfl
 have dE:l1[2]? = some (.cells 38 X) :=by rw[d1 2 (by simp) (.inr (by omega))]; rfl
 have Cc:cj 38 bR [aY.cells 38 X] l1 eh s.l false:=⟨tl,by simpa using dx,by simp; omega,fun b ag=>by
  obtain rfl:b=0:=by simpa using ag
  rw[dK]; rfl,.inr (by simp; omega),f1⟩
 obtain⟨dz,bQ,bg,di,dk⟩:=M1 (by_:=96) Cc x (b:=2) (by rw[<-b3]; exact dE) (iu ai.id) (by omega) (by omega) (by rw[aA]; omega);rw[<-b3] at a2 wq ⊢;simp[a2,hN,arX,aX];refine dt.cy ?_;simp[dK,dE,a2,arX,bg];refine dt.cy ?_;have qB:=di.len;have c4:IntKind.i64.wrap ((s.l.length:Int)+1 - 1)=(s.l.length:Int) :=by rw[IntKind.wrap_i64]; omega
 have jr:IntKind.i64.wrap (s.l.length:Int)=(s.l.length:Int) :=by rw[IntKind.wrap_i64]; omega
 have aB:e5 s.l s.l.length x=s.l++[x] :=by unfold e5; simp
 simp[qB,c4,jr];rw[<-aB] at di;refine r9 (Yg [aY.cells 38 X] s.l x) ?_ s.l.length _ _ ⟨s.l.length,dz,rfl,ar0 _,by simp,by simp,di,rfl⟩;rintro m af ew ⟨i,v,rfl,cY,bf,bT,c1,iN⟩;obtain⟨af,rfl⟩:=nE bf bT;clear bf bT;have iQ:(e5 s.l i x)[i]? = some x:=TQ cY;have rO:iV j7 s.l x i=i->e5 s.l i x=lw s.l x:=fun h=>by unfold lw; rw[<-iN,h]
 rcases i with _ | i
 ·simp;have:=rO rfl;rw[this] at c1;exact c1.rd mK (some _) rfl rfl
 ·obtain⟨y,ay,ch⟩:=bu (l:=s.l) (k:=i) (by omega);have uU:(e5 s.l (i+1) x)[i]? = some y:=by rw[TR (by omega) cY]; exact ay
  obtain⟨lV,cm,tw,gg,gI,pZ,kg⟩:=Bs c1 iQ;obtain⟨sj,dk,gP,hp,ji,o1,o2⟩:=Bs c1 uU;have bX:IntKind.i64.wrap ((i:Int)+1 - 1)=(i:Int) :=by rw[IntKind.wrap_i64]; omega
  have w2:IntKind.i64.wrap (i:Int)=(i:Int) :=by rw[IntKind.wrap_i64]; omega
  have h0:(0:Int)<(i:Int)+1:=by omega
  have b4:=iu (ak y ch).id;have kq:=mK y;have mj:=Bx (lt:=j7) (x:=x) ay;have qS:∀ t∈e5 s.l (i+1) x,(bR t).length=38:=fun t aJ=>iu (Ht ak ai t aJ).id
  have cZ:(e5 s.l (i+1) x).length=s.l.length+1:=ti _ _ _;obtain⟨Ed,j6,jf,kx,Dn⟩:=H2 (X:=.aI (bR y)) c1 qS rfl (k:=i+1) (y:=y) (by omega) b4;have DF:∀ t∈(e5 s.l (i+1) x).set (i+1) y,(bR t).length=38:=fun t aJ=>by
   rcases atf aJ with h | h
   ·exact qS t h
   ·rw[h]; exact b4
  obtain⟨Nc,Bi,t1,t2,wI⟩:=H2 (X:=.aI (bR x)) Dn DF rfl (k:=i) (y:=x) (by simp; omega) (iu ai.id);rw[TS ay] at wI;have Av:∀ h,(bR y)[0]'h=.str y.key:=fun _=>rfl
  rw[<-b3] at kg t2;obtain⟨Y,dC⟩:∃ Y,Y=bR y:=⟨_,rfl⟩
  rw[<-dC] at o2 b4 kq kx Av;simp at gg jf;rw[gg] at jf;obtain rfl:=Option.some.inj jf;rw[hp] at t1;obtain rfl:=Option.some.inj t1;have tb:cm[tw]? = some (.str x.key) :=by
   have:(cm.drop tw)[0]? = some (.str x.key) :=by
    have ae:((cm.drop tw).take 38)[0]? = X[0]?:=by rw[kg]
    rw[asf (by omega)] at ae;rw[ae,ar1 (by omega),wq]
   simpa using this
  have aeS:dk[gP]? = some (.str y.key) :=by
   have:(dk.drop gP)[0]? = some (.str y.key) :=by
    have ae:((dk.drop gP).take 38)[0]? = Y[0]?:=by rw[o2]
    rw[asf (by omega)] at ae;rw[ae,ar1 (by omega),Av]
   simpa using this
  have k0:=JG gI;have h4:=JG ji;have eC:ov .lss x.key y.key=some (.bool (e6 x.key y.key)) :=rfl;simp[h0,gg,gI,hp,ji,k0,h4,bX,w2,tb,aeS,eC];have aM:j7 x y=e6 x.key y.key:=rfl;rw[aM] at mj;cases aU:e6 x.key y.key with
  | true=>
   rw[aU,if_pos rfl] at mj;simp[gg,gI,pZ,kg,hp,ji,o1,o2,bX,w2,kx,t2];exact⟨i,by omega,i,v,rfl,by omega,by simp,by simp,wI,by rw[<-mj]; exact iN⟩
  | false=>
   rw[aU,if_neg (by simp)] at mj;simp;have:=rO mj;rw[this] at c1;exact c1.rd mK (some _) rfl rfl
set_option maxHeartbeats 4000000 in
theorem ahP (s:gp) (aq:hj s.l) (am:s.l.length<=1000000) :bx Tryz.prog GS 63 [.aI [c8 s]] (.int .i64 (mB s.l)) :=by
 refine bH Tryz.checked.mixed bD ?_;apply bm Tryz.func63 [];unfold mB;have bn:cz (.au 38) (c8 s)=some (.int .i64 s.l.length) :=by simp[c8]
 by_cases h1:60<s.l.length
 ·have c3:(60:Int)<(s.l.length:Int) :=by omega
  simp[bn,c3];exact aK (by rw[if_pos h1]) rfl
 ·have c3:¬ (60:Int)<(s.l.length:Int) :=by omega
  simp[bn,c3];refine cw s.l.length (fun k af l=>(∃ r,l=.cells 1 [c8 s] ::r)/\af 1=.ptr 0 0 1/\af 3=.int .i64 k/\∀ j,j<k->ql s.l j=true) ?_ (by simp);rintro k af l hk ⟨⟨r,rfl⟩,aL,a7,ak⟩;obtain⟨af,rfl⟩:=nE aL a7;clear aL a7;simp[bn];refine g8 (fun h=>?_) (fun h=>?_)
  ·simp only[decide_eq_true_eq] at h;obtain⟨y,ay,ch⟩:=bu (l:=s.l) (k:=k) (by omega);have b4:=iu (aq y ch).id;have aR:IntKind.i64.wrap ((k:Int)+1)=((k+1:Nat) :Int) :=by rw[IntKind.wrap_i64]; omega
   have uE:=D3 y.key;have iC:=VV y.val;have ef:ql s.l k=(jJ y&&(decide (k=0)||e6 (l0 s.l (k - 1)).key y.key)) :=by unfold ql; rw[nb ay]
   have bG:cd (.au 38) (c8 s) (.int .i64 (k:Int))=some (.b0 (bR y) 0) :=by simp[c8,ay]
   have hN:=BG b4;have cM:(bR y).take 38=bR y:=arX (by omega);have qo:∀ h,(bR y)[0]'h=.str y.key:=fun _=>rfl
   have oF:∀ h,(bR y)[5]'h=cU y.cl:=fun _=>rfl
   have yh:((bR y).tail).take 4=dJ y.val:=rfl;have n0:=Qn y.cl;have kk:aZ (dJ y.val)=true:=by simp[dJ,aZ,ad.closed]
   obtain⟨R,gu⟩:∃ R,R=bR y:=⟨_,rfl⟩
   obtain⟨Yf,KO⟩:∃ V,V=dJ y.val:=⟨_,rfl⟩
   rw[<-gu] at b4 bG hN cM qo oF yh;rw[<-KO] at iC yh kk;simp[bG,b4,hN,cM,qo];refine aW uE rfl ?_;cases aU:gN y.key with
   | false=>
    have:jJ y=false:=by unfold jJ; rw[aU]; rfl
    rw[this,asN] at ef;simp;exact aK (by rw[if_neg h1,wc h ef]; rfl) rfl
   | true=>
    simp[b4,yh];refine aW iC (by simp[aZ,ad.closed,kk]) ?_;cases bz:ke y.val with
    | false=>
     have:jJ y=false:=by unfold jJ; rw[aU,bz]; rfl
     rw[this,asN] at ef;simp[hI];exact aK (by rw[if_neg h1,wc h ef]; rfl) rfl
    | true=>
     cases dy:BI y.cl with
     | false=>
      have:jJ y=false:=by unfold jJ; rw[aU,bz,dy]; rfl
      rw[this,asN] at ef;have nV:=n0.2 dy;simp[hI,b4,oF,nV];exact aK (by rw[if_neg h1,wc h ef]; rfl) rfl
     | true=>
      have nV:¬ (1000000000000:Int)<u y.cl:=fun h=>by rw[n0.1 h] at dy; cases dy
      have:jJ y=true:=by unfold jJ; rw[aU,bz,dy]; rfl
      rw[this,asM] at ef;rcases k with _ | k
      ·simp[hI,b4,oF,nV,aR];exact⟨by omega,by rw[IntKind.wrap_i64]; omega,by rw[ef]; rfl⟩
      ·obtain⟨x,ai,cE⟩:=bu (l:=s.l) (k:=k) (by omega);have fF:cd (.au 38) (c8 s) (.int .i64 (k:Int))=some (.b0 (bR x) 0) :=by simp[c8,ai]
       have wq:(bR x)[0]? = some (.str x.key) :=rfl;obtain⟨Yh,Au⟩:∃ X,X=bR x:=⟨_,rfl⟩
       rw[<-Au] at fF wq;have c4:IntKind.i64.wrap (k:Int)=(k:Int) :=by rw[IntKind.wrap_i64]; omega
       have h0:(0:Int)<(k:Int)+1:=by omega
       simp only[atP,nb ai,aus,auV,and_false,decide_false,aur] at ef;simp[hI,b4,oF,nV,h0,c4,fF,wq,qo];have KX:ov .geq x.key y.key=some (.bool (!e6 x.key y.key)) :=rfl;rw[KX];cases eQ:e6 x.key y.key with
       | true=>
        rw[eQ] at ef;simp[aR];refine⟨by omega,by rw[IntKind.wrap_i64]; omega,fun j aj=>?_⟩;by_cases fB:j=k+1
        ·rw[fB,ef]
        ·exact ak j (by omega)
       | false=>
        rw[eQ] at ef;simp;exact aK (by rw[if_neg h1,wc h ef]; rfl) rfl
  ·simp[h];have fR:k=s.l.length:=by simp at h; omega
   exact aK (by rw[if_neg h1,if_pos (Kq fun j aj=>ak j (by omega))]) rfl
theorem TY {α:Type} [DecidableEq α] {x:α} {l:List α} (h:0<=hv x l 0) :∃ i:Nat,hv x l 0=(i:Int)/\l[i]? = some x:=by
 have hm:=(r2 x l 0).1 h;have:∃ i:Nat,l[i]? = some x/\∀ (j:Nat) (z:α),j<i->l[j]? = some z->z≠x:=by
  clear h
  induction l with
  | nil=>cases hm
  | cons y r aO=>
   by_cases ay:y=x
   ·exact⟨0,by simp[ay],fun j z aj=>by omega⟩
   ·obtain⟨i,h1,ae⟩:=aO (by simpa [Ne.symm ay] using hm);refine⟨i+1,by simpa using h1,fun j z aj av=>?_⟩;rcases j with _ | j
    ·simp at av; rw[<-av]; exact ay
    ·exact ae j z (by omega) (by simpa using av)
 obtain⟨i,h1,ae⟩:=this;exact⟨i,by have:=y2 (n:=0) h1 ae rfl; simpa using this,h1⟩
def hB (s:gp) (o:bq) :gp × Int:=
 if mB s.l=0 then (if fy o=0 then (if o.act.kind=4#8 then
  (if 0<=hv o.act.key (s.l.map bP.key) 0 then (if kW o.cl (cQ o) (l0 s.l (hv o.act.key (s.l.map bP.key) 0).toNat).cl (l0 s.l (hv o.act.key (s.l.map bP.key) 0).toNat).id=true then (some (s.l.set (hv o.act.key (s.l.map bP.key) 0).toNat (c6 o (cQ o))),0) else (some s.l,0))
   else if s.l.length=60 then (none,18) else (some (lw s.l (c6 o (cQ o))),0))
  else (some s.l,0)) else (none,8)) else (none,mB s.l)
theorem YE (l:ap) (s:gp) (aq:hj s.l) (ak:s.l.length<=1000000) :i1 (l++[aY.cells 0 []]) 38 96 (.au 38 l.length 0 0 0 0) (c8 s)=some (.au 38 l.length 0 s.l.length s.l.length (s.l.length*38),l++[.cells (s.l.length*38) (s.l.map bR).flatten]) :=by
 have aA:cK=140737488355328:=rfl;have eo:=Ai aq;unfold i1;rw[Qe];simp only;unfold jm;by_cases av:s.l.length=0
 ·have:s.l=[] :=asF.1 av;rw[this];simp
 ·rw[if_neg av,if_neg (by omega)];simp[aA];exact⟨by omega,fun h=>by simp[h]⟩
set_option maxHeartbeats 8000000 in
theorem ahO (s:gp) (o:bq) (ak:hj s.l) (db:s.l.length<=1000000) (aq:jO o) :
  bx Tryz.prog GS 102 [.aI [c8 s],.aI (a1 o)] (.bJ [.aI [c8 (hB s o).1],.int .i64 (hB s o).2]) :=by
 refine bH Tryz.checked.mixed bD ?_;apply bm Tryz.func102 [[[0],[1],[2],[3],[4],[5],[6],[7],[8],[11],[9,11,7,5,2],[10]]];have cb:=qa s;have b6:=k5 o;have cO:=ahP s ak db;have AN:=Nx o aq;have cY:=Bb o;have bO:(a1 o).length=11:=rfl;have jY:=vQ s;have uP:cz (.au 38) (c8 s)=some (.int .i64 s.l.length) :=by simp[c8]
 have jv:∀ h,(a1 o)[3]'h=bA o.act.kind:=fun _=>rfl
 have mb:∀ h,(a1 o)[4]'h=.str o.act.key:=fun _=>rfl
 have uA:∀ h,(a1 o)[2]'h=cU o.cl:=fun _=>rfl
 have uB:((a1 o).drop 5).take 4=dJ o.act.val:=rfl;have wC:=Fz o;have eB:=ahw s ak db o.act.key;by_cases aB:mB s.l=0
 ·by_cases h1:fy o=0
  ·have iM:=(FZ aB).1;have Lf:cQ o=iH (ii o) :=by unfold cQ; rw[if_pos h1]
   have la:=Nw o aq (by have:=xc h1; omega);rw[<-Lf] at la;obtain⟨D,gc⟩:∃ D,D=(cQ o).map bA:=⟨_,rfl⟩
   have gU:D.length=32:=by rw[gc,asi,cY]
   have An:aZ D=true:=by rw[gc]; exact lD bA (fun _=>rfl) _
   have mo:bt (rep 32 (.int .u8 0)) 0 D=D:=ek (by rw[gU]; rfl);unfold fD at la;rw[<-gc] at la;obtain⟨O,dn⟩:∃ O,O=a1 o:=⟨_,rfl⟩
   have lI:=YE [aY.cells 1 [c8 s],aY.cells 11 O,aY.cells 1 [.aV]] s ak db;simp only[asp,asU,as5,asO] at lI;rw[<-dn] at bO b6 la AN jv mb uA uB ⊢;simp[bO,jY];refine aW cO (by simp[aZ,ad.closed,cb]) ?_;simp[aB,bO,arX];refine aW AN (by simp[aZ,ad.closed,b6]) ?_;simp[h1,lI];refine dt.cy ?_;have e4:∀ l:ap,l[3]? = some (.cells (s.l.length*38) (s.l.map bR).flatten)->bB 38 l (.au 38 3 0 s.l.length s.l.length (s.l.length*38)) 3 (s.l.map bR) :=fun l h=>U2 ak rfl h
   by_cases c5:o.act.kind=4#8
   ·have uZ:=wC.2 c5;have wm:bR (c6 o (cQ o))=.str o.act.key::bA o.act.val.kind::.int .i64 o.act.val.num::cU o.act.val.bits::.str o.act.val.text::cU o.cl::D:=by rw[gc]; rfl
    have yM:tX (c6 o (cQ o)) :=⟨cY,aq.val⟩
    have hL:=iu cY (r:=c6 o (cQ o));have rG:=mK (c6 o (cQ o));have uC:∀ h,(bR (c6 o (cQ o)))[0]'h=.str o.act.key:=fun _=>rfl
    have RM:∀ h,(bR (c6 o (cQ o)))[5]'h=cU o.cl:=fun _=>rfl
    have RN:((bR (c6 o (cQ o))).drop 6)=D:=by rw[gc]; rfl
    have pD:=BG hL;obtain⟨T,cM⟩:∃ T,T=bR (c6 o (cQ o)) :=⟨_,rfl⟩
    rw[<-cM] at wm hL uC RM RN pD rG;simp[bO,jv,uZ,mb,uA,uB,dJ,arX];refine aW la (by simp[aZ,ad.closed,b6]) ?_;simp[gU,mo,<-wm,hL,pD,uC,arX];refine⟨⟨by rw[ar1 (by omega),uA],⟨by omega,uB⟩,by rw[ar1 (by omega),mb]⟩,?_⟩;refine aW eB (by simp[aZ,ad.closed,cb]) ?_;by_cases ax:0<=hv o.act.key (s.l.map bP.key) 0
    ·obtain⟨i,Dc,lN⟩:=TY ax;have GO:i<s.l.length:=by have:=(arY.1 lN).1; simpa using this
     obtain⟨y,ay,ch⟩:=bu GO;have y1:l0 s.l i=y:=nb ay;have az:hB s o=if kW o.cl (cQ o) y.cl y.id=true then (some (s.l.set i (c6 o (cQ o))),0) else (some s.l,0) :=by
      unfold hB; rw[if_pos aB,if_pos h1,if_pos c5,if_pos ax,Dc,asC,y1]
     rw[az,Dc];have cZ:(0:Int)<=(i:Int) :=by omega
     have bG:cd (.au 38) (c8 s) (.int .i64 (i:Int))=some (.b0 (bR y) 0) :=by simp[c8,ay]
     have b4:=iu (ak y ch).id;have hY:=mK y;have aM:=VG o.cl (cQ o) y cY (ak y ch).id;rw[show aQ (cQ o)=D by rw[gc]; rfl] at aM;obtain⟨Y,dC⟩:∃ Y,Y=bR y:=⟨_,rfl⟩
     rw[<-dC] at bG b4 hY aM;simp[cZ,hL,RM,RN,gU,bG,b4,arX];refine aW aM (by simp[aZ,ad.closed,An,hY]) ?_;cases jx:kW o.cl (cQ o) y.cl y.id with
     | false=>
      simp;refine oT (q4 ?_) (aK rfl rfl);exact (e4 _ (by simp)).q.lZ (fun x=>mK x) (some s.l) rfl rfl
     | true=>
      obtain⟨L,dS⟩:∃ L,L=[aY.cells 1 [c8 s],aY.cells 11 O,aY.cells 1 [.aV],aY.cells (s.l.length*38) (s.l.map bR).flatten,aY.cells 1 [.au 38 3 0 s.l.length s.l.length (s.l.length*38)],aY.cells 38 T] :=⟨_,rfl⟩
      obtain⟨bZ,l',dx,di,gA,mI,p6⟩:=zf (X:=.aI (bR (c6 o (cQ o)))) rfl (e4 L (by rw[dS]; rfl)) (fun y ay=>iu (ak y ay).id) GO (by rw[<-cM]; exact hL);rw[<-cM] at di;have dE:l'[2]? = some (.cells 1 [.aV]) :=by rw[p6 2 (by omega),dS]; rfl
      have Ij:l'[4]? = some (.cells 1 [.au 38 3 0 s.l.length s.l.length (s.l.length*38)]) :=by rw[p6 4 (by omega),dS]; rfl
      have ho:∀ y:aY,(l'.set 2 y)[2]? = some y:=fun y=>ar9 (by rw[mI,dS]; simp)
      rw[<-dS];have pO:L[4]? = some (.cells 1 [.au 38 3 0 s.l.length s.l.length (s.l.length*38)]) :=by rw[dS]; rfl
      have q3:L[5]? = some (.cells 38 T) :=by rw[dS]; rfl
      simp at dx;simp[pO,q3,hL,arX,dx,di,Ij,dE,ho];refine oT (q4 ?_) (aK rfl rfl);have zP:bB 38 (l'.set 2 (.cells 1 [.au 38 3 0 s.l.length s.l.length (s.l.length*38)])) (.au 38 3 0 s.l.length s.l.length (s.l.length*38)) 3 ((s.l.set i (c6 o (cQ o))).map bR) :=gA.frame fun _=>ar7 (by omega)
      exact zP.q.lZ (fun x=>mK x) (some (s.l.set i (c6 o (cQ o)))) rfl rfl
    ·have gi:¬ (0:Int)<=hv o.act.key (s.l.map bP.key) 0:=ax;by_cases bz:s.l.length=60
     ·have az:hB s o=(none,18) :=by unfold hB; rw[if_pos aB,if_pos h1,if_pos c5,if_neg ax,if_pos bz]
      rw[az];simp[gi,uP,bz];exact aK rfl rfl
     ·have az:hB s o=(some (lw s.l (c6 o (cQ o))),0) :=by unfold hB; rw[if_pos aB,if_pos h1,if_pos c5,if_neg ax,if_neg bz]
      have sX:¬ (s.l.length:Int)=60:=by omega
      have hw:=VL s ak db (c6 o (cQ o)) yM;rw[<-cM] at hw;rw[az];have K3:=vQ (some (lw s.l (c6 o (cQ o))));simp[gi,uP,sX,hL,arX];refine aW hw (by simp[aZ,ad.closed,cb,rG]) ?_;simp[K3];exact aK rfl (by simp[ad.closed,aZ,qa])
   ·have uZ:¬ (u o.act.kind:Int)=4:=fun h=>c5 (wC.1 h)
    have az:hB s o=(some s.l,0) :=by unfold hB; rw[if_pos aB,if_pos h1,if_neg c5]
    rw[az];simp[bO,jv,uZ];refine oT (q4 ?_) (aK rfl rfl);exact (e4 _ (by simp)).q.lZ (fun x=>mK x) (some s.l) rfl rfl
  ·have az:hB s o=(none,8) :=by unfold hB; rw[if_pos aB,if_neg h1]
   rw[az];simp[bO,jY];refine aW cO (by simp[aZ,ad.closed,cb]) ?_;simp[aB,bO,arX];refine aW AN (by simp[aZ,ad.closed,b6]) ?_;simp[h1];exact aK rfl rfl
 ·have az:hB s o=(none,mB s.l) :=by unfold hB; rw[if_neg aB]
  rw[az];simp[bO,jY];refine aW cO (by simp[aZ,ad.closed,cb]) ?_;simp[aB];refine aW cO (by simp[aZ,ad.closed,cb]) ?_;simp;exact aK rfl rfl
theorem JM {l:List bP} {x:List UInt8} {t:Nat} {y:bP} (aJ:t<eV l x) (ay:l[t]? = some y) :e6 y.key x=true:=by
 have aR:l.takeWhile (fun t=>e6 t.key x)=l.take (eV l x) :=avp.1 (auP _);have hm:y∈l.take (eV l x) :=ar6.2 ⟨t,by rw[asf aJ]; exact ay⟩;rw[<-aR] at hm;have:=List.all_takeWhile (l:=l) (p:=fun t=>e6 t.key x);exact asZ.1 this y hm
theorem JL:∀ {l:List bP} {x:List UInt8} {y:bP},l[eV l x]? = some y->e6 y.key x=false
 | [],x,y,h=>by simp at h
 | a::l,x,y,h=>by
  unfold eV at h;rw[atH] at h;cases az:e6 a.key x with
  | false=>
   rw[az] at h;simp at h;rw[<-h]; exact az
  | true=>
   rw[az] at h;simp at h;exact JL (l:=l) (by unfold eV; exact h)
theorem abx {l:List bP} (h:l7 l=true) {x:List UInt8} {t:Nat} {y:bP} (aJ:eV l x<=t) (ay:l[t]? = some y) :e6 y.key x=false:=by
 obtain⟨z,av,_⟩:=bu (l:=l) (k:=eV l x) (by have:=(arY.1 ay).1; omega);have h1:=JL av;cases ae:e6 y.key x with
 | false=>rfl
 | true=>rw[Kp h x _ _ _ _ aJ av ay ae] at h1; cases h1
theorem FT {l:List bP} (h:l7 l=true) (x:List UInt8) :(ju l x=true/\hv x (l.map bP.key) 0=(eV l x:Int))\/(ju l x=false/\¬ 0<=hv x (l.map bP.key) 0) :=by
 cases aD:ju l x with
 | true=>
  left;refine⟨rfl,?_⟩;unfold ju at aD;rw[ar3,decide_eq_true_eq,decide_eq_true_eq] at aD;obtain⟨y,ay,_⟩:=bu aD.1;have iR:y.key=x:=by rw[<-aD.2,nb ay]
  have:=y2 (x:=x) (l:=l.map bP.key) (k:=eV l x) (n:=0) (y:=x) (by rw[ar5,ay]; exact congrArg some iR) (fun j z aj av mv=>by
   rw[ar5] at av;cases jZ:l[j]? with
   | none=>rw[jZ] at av; cases av
   | some w=>
    rw[jZ] at av;have hw:w.key=z:=Option.some.inj av;have:=JM aj jZ;rw[hw,mv,vi] at this; cases this) rfl
  simpa using this
 | false=>
  right;refine⟨rfl,fun aB=>?_⟩;obtain⟨i,Dc,lN⟩:=TY aB;rw[ar5] at lN;cases jZ:l[i]? with
  | none=>rw[jZ] at lN; cases lN
  | some w=>
   rw[jZ] at lN;have hw:w.key=x:=Option.some.inj lN;have cY:=(arY.1 jZ).1;by_cases adh:i<eV l x
   ·have:=JM adh jZ;rw[hw,vi] at this; cases this
   ·by_cases adi:i=eV l x
    ·unfold ju at aD;rw[<-adi,nb jZ,hw,decide_eq_true cY] at aD;simp at aD
    ·obtain⟨z,av,_⟩:=bu (l:=l) (k:=eV l x) (by omega);have h1:=JL av;have ae:=wd h (d:=i - eV l x - 1) av (by rw[show eV l x+(i - eV l x - 1)+1=i by omega]; exact jZ);rw[hw,h1] at ae; cases ae
theorem Vg {l:List bP} (h:l7 l=true) {x:bP} (aF:ju l x.key=false) :iV j7 l x l.length=eV l x.key:=by
 have ah:=P7 l x.key;have key:∀ k,eV l x.key<=k->k<=l.length->iV j7 l x k=eV l x.key:=by
  intro k
  induction k with
  | zero=>
   intro h1 _;have:eV l x.key=0:=by omega
   rw[this]; rfl
  | succ k aO=>
   intro h1 ae;obtain⟨y,ay,_⟩:=bu (l:=l) (k:=k) (by omega);rw[Bx ay];by_cases hk:eV l x.key=k+1
   ·have al:=JM (l:=l) (x:=x.key) (t:=k) (by omega) ay;have aE:j7 x y=false:=by
     unfold j7;cases aU:e6 x.key y.key with
     | false=>rfl
     | true=>have:=Ev al aU; rw[vi] at this; cases this
    rw[aE,if_neg (by simp)]; exact hk.symm
   ·have al:=abx h (x:=x.key) (t:=k) (by omega) ay;have aE:j7 x y=true:=by
     unfold j7;cases aU:e6 x.key y.key with
     | true=>rfl
     | false=>
      exfalso;have ao:y.key=x.key:=by
       have aX:¬ y.key<x.key:=(N3 _ _).1 al;have bg:¬ x.key<y.key:=(N3 _ _).1 aU;exact avn (avv.1 bg) (avv.1 aX)
      rcases FT h x.key with ⟨bz,_⟩ | ⟨_,dy⟩
      ·rw[aF] at bz; cases bz
      ·exact dy ((r2 x.key (l.map bP.key) 0).2 (by rw[<-ao]; exact atG (ar4 ay)))
    rw[aE,if_pos rfl];exact aO (by omega) (by omega)
 exact key l.length ah (ar0 _)
theorem Ip (s:gp) (o:bq) :(iG s o).1.l=(hB s o).1.l/\(iG s o).2=(hB s o).2:=by
 unfold iG hB;by_cases aB:mB s.l=0
 ·rw[if_pos aB,if_pos aB];by_cases h1:fy o=0
  ·rw[if_pos h1,if_pos h1];obtain⟨iM,lM⟩:=FZ aB;have mn:=xl s o;by_cases c5:o.act.kind=4#8
   ·have aC:eS s.l o (cQ o)=jd s.l (c6 o (cQ o)) :=by unfold eS; rw[if_pos c5]
    rw[if_pos c5];rcases FT lM o.act.key with ⟨ae,al⟩ | ⟨ae,al⟩
    ·have ax:0<=hv o.act.key (s.l.map bP.key) 0:=by rw[al]; omega
     have b1:jd s.l (c6 o (cQ o))=if kW o.cl (cQ o) (l0 s.l (eV s.l o.act.key)).cl (l0 s.l (eV s.l o.act.key)).id=true then s.l.set (eV s.l o.act.key) (c6 o (cQ o)) else s.l:=by
      unfold jd;rw[show (c6 o (cQ o)).key=o.act.key from rfl,if_pos ae]; rfl
     have bn:(eS s.l o (cQ o)).length=s.l.length:=by rw[aC,b1]; split<;>simp
     rw[if_neg (by omega),if_pos ax,al,asC];split
     ·rename_i jx;exact⟨by rw[mn,aC,b1,if_pos jx]; rfl,rfl⟩
     ·rename_i jx;exact⟨by rw[mn,aC,b1,if_neg jx]; rfl,rfl⟩
    ·have b1:jd s.l (c6 o (cQ o))=e5 s.l (eV s.l o.act.key) (c6 o (cQ o)) :=by
      unfold jd;rw[show (c6 o (cQ o)).key=o.act.key from rfl,if_neg (by rw[ae]; simp)]
     have bn:(eS s.l o (cQ o)).length=s.l.length+1:=by rw[aC,b1,ti]
     rw[if_neg al];by_cases bz:s.l.length=60
     ·have Ku:60<(eS s.l o (cQ o)).length:=by omega
      rw[if_pos Ku,if_pos bz]; exact⟨rfl,rfl⟩
     ·have Ku:¬ 60<(eS s.l o (cQ o)).length:=by omega
      rw[if_neg Ku,if_neg bz];refine⟨?_,rfl⟩;rw[mn,aC,b1];show _=lw s.l (c6 o (cQ o));unfold lw;rw[Vg lM ae]; rfl
   ·have aC:eS s.l o (cQ o)=s.l:=by unfold eS; rw[if_neg c5]
    rw[if_neg c5,if_neg (by rw[aC]; omega)];exact⟨by rw[mn,aC]; rfl,rfl⟩
  ·rw[if_neg h1,if_neg h1]; exact⟨rfl,rfl⟩
 ·rw[if_neg aB,if_neg aB]; exact⟨rfl,rfl⟩
structure ct where
 eU:Int
 set:eO
 dG:gp
 cP:dM
def fr (s:ct) :List ad:=[.int .i64 s.eU,dd s.set,c8 s.dG,aN s.cP]
structure sD (s:ct) :Prop where
 set:gW s.set.l
 dG:hj s.dG.l
 cP:fo s.cP
 ls:s.set.l.length<=1000000
 DW:s.dG.l.length<=1000000
 DT:s.cP.l.length<=1000000
theorem xV (s:ct) :aZ (fr s)=true:=by simp[fr,aZ,ad.closed,oz,qa,eb]
theorem aaG (a b:List B) (az:a.length=32) (ag:b.length=32) :bx Tryz.prog GS 60 [.aI (aQ a),.aI (aQ b)] (.int .i64 (cu a b)) :=by
 refine bH Tryz.checked.mixed bD ?_;apply bm Tryz.func60 [];have ak:=Ez (n:=32) (b:=1) (by omega);have Dx:=Ez (n:=32) (b:=0) (by omega);simp[aQ,az,ag,ak,Dx];have ah:=E9 (some a) (some b) (by simp[az,ag]);refine iW ah ?_ rfl ?_
 ·exact .cons ((pK (j:=0) az rfl).na (fun _=>rfl) (some a) rfl rfl) (.cons ((pK (j:=1) ag rfl).na (fun _=>rfl) (some b) rfl rfl) .nil)
 ·simp;exact aK rfl rfl
def abz (s:ct) :Bool:=decide (0<=s.eU)&&(decide (s.eU<=60)&&(decide ((s.cP.l.length:Int)<=s.eU)&&!(decide (s.cP.l.length=0)&&decide (0<s.eU))))
def aby (s:ct) :Bool:=abz s&&(decide (lr s.set.l=0)&&(decide (mB s.dG.l=0)&&ea s.cP.l))
def WD (s:ct) :Int:=hI (aby s)
def kv (a b:ct) :Bool:=decide (a.eU=b.eU)&&(decide (a.set.l=b.set.l)&&(decide (a.dG.l=b.dG.l)&&decide (a.cP.l=b.cP.l)))
theorem VI (a b:ct) (az:sD a) (ag:sD b) :bx Tryz.prog GS 23 [.aI (fr a),.aI (fr b)] (.bool (kv a b)) :=by
 refine bH Tryz.checked.mixed bD ?_;apply bm Tryz.func23 [];unfold kv;have cm:=oz a.set;have dk:=oz b.set;have kH:=qa a.dG;have ki:=qa b.dG;have JE:=eb a.cP;have Cj:=eb b.cP;by_cases h1:a.eU=b.eU
 ·simp[fr,h1];refine aW (aiQ a.set b.set az.set ag.set az.ls) (by simp[aZ,ad.closed,cm,dk]) ?_;by_cases ae:a.set.l=b.set.l
  ·simp[ae];refine aW (aiO a.dG b.dG az.dG ag.dG az.DW) (by simp[aZ,ad.closed,kH,ki]) ?_;by_cases al:a.dG.l=b.dG.l
   ·simp[al];refine aW (aiN a.cP b.cP az.cP ag.cP az.DT) (by simp[aZ,ad.closed,JE,Cj]) ?_;simp;exact aK (by simp[h1,ae,al]) rfl
   ·simp[al];exact aK rfl rfl
  ·simp[ae];exact aK rfl rfl
 ·simp[fr,h1];exact aK rfl rfl
end Op

end Go.cf

namespace Go.cf
open Go Go.Proofs Go.Sort Go.Shelf
set_option maxRecDepth 100000
namespace Op
open gZ
def pR (l:List (List B)) :List (List B) :=l.mergeSort fun x y=>!fK y x
theorem TL:∀ {xs:List (List B)},(∀ i∈xs,i.length=32)->∃ bh:List vw,bh.map (·.1)=xs
 | [],_=>⟨[],rfl⟩
 | x::xs,h=>by
  obtain⟨bh,ay⟩:=TL (xs:=xs) fun i ax=>h i (by simp[ax])
  exact⟨⟨x,h x (by simp)⟩::bh,by simp[ay]⟩
theorem ajl (bh:List vw) :(sorted vT bh).map (·.1)=pR (bh.map (·.1)) :=by
 unfold sorted pR;rw[List.map_mergeSort];intro a _ b _;rfl
theorem ahs {z:Nat} {l l' : ap} {v:ad} {j:Nat} {es dH:List (List ad)} (h:bB z l v j es) (h' : ez z l' v j dH) :bB z l' v j dH:=by
 cases h with
 | nil j=>have:=h'.qX; subst this; exact .nil j
 | au j n cap sz cs es ag am aF av ah c9 cb=>
  generalize aw:ad.au z j 0 n cap sz=w at h';cases h' with
  | nil=>cases aw
  | au TZ agQ ny Zl ajO hW x5 fm gk oM jA md acD K2=>
   injection aw with _ aR bE c4 jr CC
   subst bE c4 jr CC;exact .au j n cap sz hW _ fm gk oM jA md (by omega) (by simpa using K2)
theorem abk {l:ap} {v:ad} {j:Nat} {xs:List (List B)} (ai:∀ i∈xs,i.length=32) (am:xs.length<=1000000) (aB:xs≠[]) (h:bB 32 l v j (xs.map aQ)) {K:ad->ap->Prop}
  (bl:∀ l',l'.length=l.length->(∀ b,b≠j->l'[b]? = l[b]?)->bB 32 l' v j ((pR xs).map aQ)->K (.bJ []) l') :dr Tryz.prog GS 99 [v,.fn 60 [] []] l (c:=⟨K⟩) :=by
 obtain⟨bh,ay⟩:=TL ai;have ao:bh.map Ae=xs.map aQ:=by rw[<-ay,atV]; rfl
 have ak:(sorted vT bh).map Ae=(pR xs).map aQ:=by rw[<-ay,<-ajl,atV]; rfl
 have b4:bh.length=xs.length:=by rw[<-ay]; simp
 rw[<-ao] at h;exact Ww vT (aje (by intro args w; exact enters_of Tryz.func60 (by kernel_rfl) rfl args w)) WP Yx Qs aak (fun x y=>aaG x.1 y.1 x.2 y.2) h.q (by omega) (fun rU=>absurd (by rw[<-ay,rU]; rfl) aB)
  (fun l' h1 ae al=>bl l' h1 (fun b ag=>ae b ag) (by rw[<-ak]; exact ahs h al))
theorem ajp {X Y:List ad} (ay:Y.length=32) (ai:X.length=32) :bt (bt (rep 32 (ad.int .u8 0)++rep 32 (.int .u8 0)) 0 Y) 32 X=Y++X:=by
 have aA:(rep 32 (ad.int .u8 0)).length=32:=rfl;unfold bt;rw[atm,asO,as8,ay,ai,asL (by omega),asW (l:=rep 32 (ad.int .u8 0)) (by omega),asO];rw[asm (by omega),arX (by omega),asW (by rw[asa]; omega),asD]
theorem akd (l:ap) {X Y:List ad} (ay:Y.length=32) (ai:X.length=32) :bB 32 (l++[.cells 64 (Y++X)]) (.au 32 l.length 0 2 2 64) l.length [Y,X] :=
 .au l.length 2 2 64 (Y++X) [Y,X] (by simp) (by simp[ai,ay]) rfl (by simp[ai,ay]) (ar0 _) (by omega) (by simp; exact arX (by simp[ai,ay]))
theorem ajc (l:List (List B)) (y:List B) :y∈pR l<->y∈l:=by unfold pR; exact List.mem_mergeSort
abbrev xt (l:List (List B)) :List (List B) :=je fK l l.length
structure XP (a:List (List B)) (k:Nat) (af:bi) (l:ap) :Prop where
 bp:af 4=.int .i64 k
 ex:∃ v,af 3=v/\cj 32 aQ [] l v (je fK a k++a.drop k) false
structure XO (t:List (List B)) (x:List B) (i:Nat) (m:Nat) (af:bi) (l:ap) :Prop where
 bp:af 4=.int .i64 i
 ex:∃ (k:Nat) (v:ad),k=m/\k<=i/\af 3=v/\af 5=.int .i64 k/\cj 32 aQ [] l v (e5 t k x) false/\iV fK t x k=iV fK t x i
set_option maxHeartbeats 4000000 in
theorem ahW (a:dM) (az:fo a) (am:a.l.length<=1000000) (aF:a.l.Nodup) :bx Tryz.prog GS 74 [aN a] (aN (some (xt a.l))) :=by
 refine bH Tryz.checked.mixed bD ?_;apply bm Tryz.func74 [];have aA:cK=140737488355328:=rfl;obtain⟨U,Gh⟩:∃ U,U=a.l:=⟨_,rfl⟩
 have AQ:bB 32 [aY.cells 0 []] (.au 32 0 0 0 0 0) 0 [] :=.au 0 0 0 0 [] [] rfl rfl rfl (by simp) (ar0 _) (by omega) rfl;obtain⟨eh,tl,l1,aX,dx,cm,d1,aR,f1⟩:=zN AQ (by_:=32) (x:=aN a) (xs:=a.l.map aQ) (by rw[asi]; exact ul _ 32 aQ a) (fun e ao=>by obtain⟨y,ay,rfl⟩:=asr.1 ao; exact cA (az y ay)) (by omega) (by omega) (by rw[aA]; simp; omega);have c1:cj 32 aQ [] l1 eh a.l false:=⟨tl,by simpa using dx,by simp,fun b ag=>absurd ag (by simp),.inr (by simp),f1⟩
 rw[<-Gh] at c1 ⊢;have RP:∀ z∈U,z.length=32:=fun z av=>az z (by rw[<-Gh]; exact av)
 have anG:U.length<=1000000:=by rw[Gh]; exact am
 have RO:U.Nodup:=by rw[Gh]; exact aF
 simp[aX];refine dt.cy ?_;simp;refine cw U.length (XP U) ?_ ⟨by simp,eh,by simp,by simpa [je] using c1⟩;clear c1 aX dx cm d1 aR f1 AQ eh tl l1;rintro i af l ax ⟨bp,v,a7,c1⟩;obtain⟨af,rfl⟩:=nE a7 bp;clear a7 bp;have db:=N9 (lt:=fK) (u:=U) ax;have SQ:cz (.au 32) v=some (.int .i64 U.length) :=by
  have:=c1.len;rw[asa,db,atg] at this;rw[this]; congr 2; omega
 simp[SQ];refine g8 (fun h=>?_) (fun h=>?_)
 ·simp only[decide_eq_true_eq] at h;obtain⟨x,ai,cE⟩:=bu (l:=U) (k:=i) (by omega);have aR:IntKind.i64.wrap ((i:Int)+1)=((i+1:Nat) :Int) :=by rw[IntKind.wrap_i64]; omega
  obtain⟨t,aJ⟩:∃ t,t=je fK U i++U.drop (i+1) :=⟨_,rfl⟩
  have lf:t.length+1=U.length:=by rw[aJ,asa,db,atg]; omega
  have aeF:∀ z∈t,z∈U:=fun z av=>by
   rw[aJ,asu] at av;rcases av with av | av
   ·rw[zq ax] at av; exact asz av
   ·exact atx av
  have aeP:x∉t:=fun av=>by
   rw[aJ,asu] at av;have ae:U=U.take i++x::U.drop (i+1) :=by
    have bN:U.drop i=x::U.drop (i+1) :=by rw[asS (by omega),(arY.1 ai).2]
    rw[<-bN,asK]
   rw[ae] at RO;obtain⟨_,ny,sd⟩:=ath.1 RO;rcases av with av | av
   ·rw[zq ax] at av; exact sd x av x (by simp) rfl
   ·exact (auv.1 ny).1 av
  have L3:∀ z∈t,z.length=32:=fun z av=>RP z (aeF z av)
  have adm:je fK U i++U.drop i=e5 t i x:=by
   have bN:U.drop i=x::U.drop (i+1) :=by rw[asS (by omega),(arY.1 ai).2]
   rw[bN,aJ,TP (by omega)];unfold e5;rw[show (je fK U i).take i=je fK U i from arX (by rw[db]; exact ar0 _),show (je fK U i).drop i=[] from asW (by rw[db]; exact ar0 _)]; simp
  have h0:iV fK t x i=iV fK (je fK U i) x (je fK U i).length:=by rw[aJ,Vd _ _ _ _ _ (by omega),db]
  have C7:e5 t (iV fK t x i) x=je fK U (i+1)++U.drop (i+1) :=by
   rw[h0,IC ai,aJ,TP (Ve _ _ _ _)]
  rw[adm] at c1;refine r9 (XO t x i) ?_ i _ _ ⟨by simp,i,v,rfl,ar0 _,by simp,by simp,c1,rfl⟩;clear c1 SQ v;rintro m af l ⟨bp,k,v,rfl,an6,a7,bf,c1,iN⟩;obtain⟨af,rfl⟩:=kb a7 bp bf;clear a7 bp bf;have rO:iV fK t x k=k->e5 t k x=je fK U (i+1)++U.drop (i+1) :=fun h=>by rw[<-C7,<-iN,h]
  have iQ:(e5 t k x)[k]? = some x:=TQ (by omega);rcases k with _ | k
  ·rw[rO rfl] at c1;simp[aR];exact⟨by omega,by simp,v,by simp,c1⟩
  ·obtain⟨y,ay,ch⟩:=bu (l:=t) (k:=k) (by omega);have uU:(e5 t (k+1) x)[k]? = some y:=by rw[TR (by omega) (by omega)]; exact ay
   obtain⟨lV,cm,tw,gg,gI,pZ,kg⟩:=Bs c1 iQ;obtain⟨sj,dk,gP,hp,ji,o1,o2⟩:=Bs c1 uU;have bX:IntKind.i64.wrap ((k:Int)+1 - 1)=(k:Int) :=by rw[IntKind.wrap_i64]; omega
   have w2:IntKind.i64.wrap (k:Int)=(k:Int) :=by rw[IntKind.wrap_i64]; omega
   have yQ:(0:Int)<(k:Int)+1:=by omega
   have iD:=RP x cE;have wT:=L3 y ch;have b4:=cA wT;have a2:=cA iD;have mj:iV fK t x (k+1)=if fK x y then iV fK t x k else k+1:=Bx ay
   have av:∀ w∈e5 t (k+1) x,(aQ w).length=32:=fun w hw=>by
    rcases Be.1 hw with e | e
    ·rw[e]; exact a2
    ·exact cA (L3 w e)
   have cZ:(e5 t (k+1) x).length=U.length:=by rw[ti,lf]
   obtain⟨X,b3⟩:∃ X,X=aQ x:=⟨_,rfl⟩
   obtain⟨Y,dC⟩:∃ Y,Y=aQ y:=⟨_,rfl⟩
   have pE:=a2;have A9:=b4;rw[<-b3] at kg pE;rw[<-dC] at o2 A9;simp at gg;have qM:=ajp A9 pE;have CS:64<=(bt (rep 32 (ad.int IntKind.u8 0)++rep 32 (ad.int IntKind.u8 0)) 0 Y).length:=by rw[WA (by rw[A9]; decide)]; decide
   have hr:=NA (some [y,x]) (fun z av=>by
    rcases as0.1 av with e | e
    ·rw[e]; exact wT
    ·rw[asl.1 e]; exact iD) (by simp)
   simp[yQ,gg,gI,pZ,kg,hp,ji,o1,o2,bX,w2,pE,A9,CS,qM];have aeE:bB 32 (l++[.cells 64 (Y++X)]) (.au 32 l.length 0 2 2 64) l.length ([y,x].map aQ) :=by
    rw[ast,ast,atQ,<-b3,<-dC]; exact akd l A9 pE
   refine iW hr (.cons (aeE.na eP (some [y,x]) rfl rfl) .nil) rfl ?_;have yS:ea [y,x]=decide (cu y x<0) :=by
    unfold ea;rw[decide_eq_decide];exact⟨fun h=>h 1 (by simp) (ar0 _),fun h k h1 ae=>by
     have:k=1:=by simp at h1; omega
     subst this; exact h⟩
   have aM:fK x y=!decide (cu y x<0) :=by
    have bU:¬ cu y x=0:=fun h=>aeP (by rw[<-rs h]; exact ch)
    have:=y9 x y;rw[qb] at this;cases h:fK x y with
    | true=>rw[h] at this; have:=this.1 rfl; rw[decide_eq_false (by omega)]; rfl
    | false=>rw[h] at this; rw[decide_eq_true]; rfl; exact Decidable.byContradiction fun ae=>absurd (this.2 (by omega)) (by simp)
   rw[show dg.l (some [y,x])=[y,x] from rfl,yS];have Dm:=c1.more [aY.cells 64 (Y++X)];by_cases aU:cu y x<0
   ·rw[aM,decide_eq_true aU,if_neg (by simp)] at mj;rw[rO mj] at Dm;simp[aU,aR];exact⟨by omega,by simp,v,by simp,Dm⟩
   ·rw[aM,decide_eq_false aU,if_pos (show (!false)=true from rfl)] at mj;obtain⟨q1,d1,fz,k0,h4,z3,z4⟩:=Bs Dm iQ;obtain⟨dE,d2,fp,eh,dz,v3,v4⟩:=Bs Dm uU;obtain⟨Ed,j6,jf,kx,Dn⟩:=H2 (X:=.aI (aQ x)) Dm av rfl (k:=k) (y:=x) (by omega) a2;have DF:∀ w∈(e5 t (k+1) x).set k x,(aQ w).length=32:=fun w hw=>by
     rcases atf hw with h | h
     ·exact av w h
     ·rw[h]; exact a2
    obtain⟨Nc,Bi,t1,t2,wI⟩:=H2 (X:=.aI (aQ y)) Dn DF rfl (k:=k+1) (y:=y) (by simp; omega) b4;rw[List.set_comm _ _ (by omega),TS ay] at wI;rw[<-b3] at z4 kx;rw[<-dC] at v4 t2;simp at k0 t1;rw[hp] at jf;obtain rfl:=Option.some.inj jf;rw[gg] at t1;obtain rfl:=Option.some.inj t1;rw[gg] at k0;obtain rfl:=Option.some.inj k0;rw[hp] at eh;obtain rfl:=Option.some.inj eh;simp[aU,gg,hp,bX,w2,pE,A9,h4,z3,z4,dz,v3,v4,kx,t2];exact⟨k,by omega,by simp,k,v,rfl,by omega,by simp,by simp,wI,by rw[<-mj]; exact iN⟩
 ·simp[h];have GM:i=U.length:=by simp at h; omega
  rw[GM,avg,asD] at c1;exact c1.rd eP (some (xt U)) rfl rfl
end Op

end Go.cf

namespace Go.cf
open Go Go.Proofs
set_option maxRecDepth 100000
namespace Op
open gZ
theorem Cl (s:dM) :(aN s).cells=some [aN s] :=by cases s<;>rfl
theorem ahX:bx Tryz.prog GS 24 [] (.aI (fr ⟨0,none,none,none⟩)) :=by
 refine bH Tryz.checked.mixed bD ?_;apply bm Tryz.func24 [];simp;exact aK rfl rfl
theorem aeV (s:dM) (aq:fo s) (ak:s.l.length<=1000000) :bx Tryz.prog GS 165 [aN s] (aN s) :=by
 refine bH Tryz.checked.mixed bD ?_;refine TJ s aq ak fun v l' h=>?_
 exact h.rd eP s rfl rfl
theorem agS (o:bq) :bt (a1 o) 1 [aN o.br]=a1 o:=by
 unfold bt a1; simp
theorem aae (o:bq) (aq:jO o) :bx Tryz.prog GS 115 [.aI (a1 o)] (.aI (a1 o)) :=by
 refine bH Tryz.checked.mixed bD ?_;apply bm Tryz.func115 [];have b6:=k5 o;have bO:(a1 o).length=11:=rfl;have gC:∀ h,(a1 o)[1]'h=aN o.br:=fun _=>rfl
 have ix:=eb o.br;have eE:=aeV o.br aq.ids aq.len;have rY:=agS o;have hm:=Cl o.br;obtain⟨O,dn⟩:∃ O,O=a1 o:=⟨_,rfl⟩
 rw[<-dn] at b6 bO gC rY ⊢;have hs:bt [ad.int .u32 0,.aV,.int .u64 0,.int .u8 0,.str [],.int .u8 0,.int .i64 0,.int .u64 0,.str [],.int .u32 0,.int .u32 0] 0 O=O:=ek (by rw[bO]; rfl);simp[bO,gC,arX];refine aW eE (by simp[aZ,ad.closed,ix]) ?_;simp[bO,hm,rY,hs,arX];exact aK rfl (by simpa [ad.closed] using b6)
def BX:bq:=⟨0,none,0,⟨0,[],o3⟩,0,0⟩
def nU (g:bc) (x:List B) :bq × Int:=if x∈g.ids.l then (iU g.ops.l (ru g.ids.l x),0) else (BX,6)
theorem rA {g:bc} (V:kB g) {i:Nat} {x:List B} {o:bq} (ax:g.ids.l[i]? = some x) (aq:g.ops.l[i]? = some o) :nU g x=(o,0) :=by
 unfold nU;rw[if_pos (ar4 ax),vU V.ea ax,oR aq]
theorem Qj (g:bc) (ar:ei g) (aB:dm g=0) (x:List B) (ai:x.length=32) :bx Tryz.prog GS 68 [cn g,.aI (aQ x)] (.bJ [.aI (a1 (nU g x).1),.int .i64 (nU g x).2]) :=by
 refine bH Tryz.checked.mixed bD ?_;apply bm Tryz.func68 [];have V:=kX aB;have cJ:=eb g.ids;have b6:=jo g.ops;have eF:=eP x;have a2:=cA ai;have cO:=BR g ar;have aD:=QM g ar V.ea x ai;rw[aB] at cO;obtain⟨X,b3⟩:∃ X,X=aQ x:=⟨_,rfl⟩
 rw[<-b3] at eF a2 aD ⊢;unfold cn cV at cO aD;simp[cn,cV,a2,arX];refine aW cO (by simp[aZ,ad.closed,cJ,b6]) ?_;simp[a2,arX];refine aW aD (by simp[aZ,ad.closed,cJ,b6,eF]) ?_;by_cases hm:x∈g.ids.l
 ·obtain⟨i,ax⟩:=ar6.1 hm;obtain⟨o,aq,ds⟩:=bu (l:=g.ops.l) (k:=i) (by rw[<-V.len]; exact (arY.1 ax).1);rw[rA V ax aq,vU V.ea ax];have bG:cd (.au 11) (bM g.ops) (.int .i64 (i:Int))=some (.b0 (a1 o) 0) :=by simp[bM,aq]
  have bO:(a1 o).length=11:=rfl;have ix:=k5 o;have Tt:=aae o (ar.ops o ds);obtain⟨O,dn⟩:∃ O,O=a1 o:=⟨_,rfl⟩
  rw[<-dn] at bG bO ix Tt ⊢;have hs:bt [ad.int .u32 0,.aV,.int .u64 0,.int .u8 0,.str [],.int .u8 0,.int .i64 0,.int .u64 0,.str [],.int .u32 0,.int .u32 0] 0 O=O:=ek (by rw[bO]; rfl);simp[hm,bG,bO,arX];refine aW Tt (by simpa [aZ,ad.closed] using ix) ?_;simp[bO,hs,arX];exact aK rfl (by simpa [ad.closed,aZ] using ix)
 ·have qx:nU g x=(BX,6) :=by unfold nU; rw[if_neg hm]
  rw[qx];simp[hm];exact aK rfl rfl
def c7:ct:=⟨0,none,none,none⟩
abbrev hx (o:bq) (h:List B) :Bool:=!decide (h∈o.br.l)
def uG (s:ct) (o:bq) (x:List B) :List (List B) :=pR (s.cP.l.filter (hx o)++[x])
noncomputable def x7 (s:ct) (o:bq) (x:List B) (b:dM) :ct × Int:=
 if (gb s.set o b).2=0 then (if (iG s.dG o).2=0 then (⟨s.eU+1,(gb s.set o b).1,(iG s.dG o).1,some (uG s o x)⟩,0) else (c7,(iG s.dG o).2)) else (c7,(gb s.set o b).2)
noncomputable def jV (s:ct) (g:bc) (x:List B) :ct × Int:=
 if x∈g.ids.l then (if x∈s.cP.l then (c7,14) else if s.eU=60 then (c7,18) else x7 s (nU g x).1 x (dW (i0 g (ru g.ids.l x)))) else (c7,6)
theorem kJ (s:ct) (e:Int) :(ad.bJ [.aI (fr s),.int .i64 e]).closed=true:=by have:=xV s; simp[ad.closed,aZ,this]
abbrev zj (s:ct) (g:bc) (O X:List ad) (A:eO) (R:gp) (v:ad) :ap:=
 [.cells 4 [.int .i64 s.eU,dd s.set,c8 s.dG,aN s.cP],.cells 2 [aN g.ids,bM g.ops],.cells 32 X,.cells 4 [.int .i64 0,.aV,.aV,.aV],.cells 11 O,.cells 4 [.int .i64 (s.eU+1),dd A,c8 R,v]]
structure XN (s:ct) (g:bc) (o:bq) (O X:List ad) (A:eO) (R:gp) (k:Nat) (af:bi) (l:ap) :Prop where
 bf:af 5=.ptr 2 0 32
 bT:af 6=.ptr 3 0 4
 de:af 8=.ptr 4 0 11
 g2:af 12=.ptr 5 0 4
 Kl:af 70=aN s.cP
 Km:af 71=.int .i64 s.cP.l.length
 Kn:af 72=.int .i64 k
 ex:∃ v j rest,l=zj s g O X A R v++rest/\bB 32 l v j (((s.cP.l.take k).filter (hx o)).map aQ)/\(v=.aV\/6<=j)/\cx v=((s.cP.l.take k).filter (hx o)).isEmpty
set_option maxHeartbeats 8000000 in
theorem aaK (s:ct) (ak:sD s) (iP:0<=s.eU) (mq:s.eU<=60) (aH:s.cP.l.length<=60) (g:bc) (ar:ei g) (aB:dm g=0) (x:List B) (ai:x.length=32) :
  bx Tryz.prog GS 53 [.aI (fr s),cn g,.aI (aQ x)] (.bJ [.aI (fr (jV s g x).1),.int .i64 (jV s g x).2]) :=by
 refine bH Tryz.checked.mixed bD ?_;apply bm Tryz.func53 [];have aA:cK=140737488355328:=rfl;have V:=kX aB;have cJ:=eb g.ids;have b6:=jo g.ops;have eF:=eP x;have a2:=cA ai;have rH:=eb s.cP;have rM:=oz s.set;have jY:=qa s.dG;have ec:=Qj g ar aB x ai;have cZ:=ER s.cP ak.cP ak.DT x ai;by_cases hm:x∈g.ids.l
 ·obtain⟨i,ax⟩:=ar6.1 hm;obtain⟨o,aq,ds⟩:=bu (l:=g.ops.l) (k:=i) (by rw[<-V.len]; exact (arY.1 ax).1);have hZ:=ar.ops o ds;have s3:=Pn g ar V aB x i ax;have lL:jV s g x=if x∈s.cP.l then (c7,14) else if s.eU=60 then (c7,18) else x7 s o x (dW (i0 g i)) :=by
   unfold jV; rw[if_pos hm,rA V ax aq,vU V.ea ax]
  rw[rA V ax aq] at ec;obtain⟨b,ag⟩:∃ b,b=dW (i0 g i) :=⟨_,rfl⟩
  rw[lL,<-ag];have oH:fo b:=fun p aC=>by rw[ag,fM] at aC; exact ar.ids p (E8 aC)
  have eC:b.l.length<=1000000:=by rw[ag,fM]; have:=E7 g i; have:=ar.li; omega
  rw[<-ag] at s3;have wu:=eb b;have mU:=akK s.set o b ak.set ak.ls hZ oH eC;have uN:=akV s.dG o ak.dG ak.DW hZ;have bO:(a1 o).length=11:=rfl;have ix:=k5 o;have gC:∀ h,(a1 o)[1]'h=aN o.br:=fun _=>rfl
  obtain⟨X,b3⟩:∃ X,X=aQ x:=⟨_,rfl⟩
  obtain⟨O,dn⟩:∃ O,O=a1 o:=⟨_,rfl⟩
  rw[<-b3] at eF a2 ec cZ s3 ⊢;rw[<-dn] at ec bO ix mU uN gC;have hs:bt [ad.int .u32 0,.aV,.int .u64 0,.int .u8 0,.str [],.int .u8 0,.int .i64 0,.int .u64 0,.str [],.int .u32 0,.int .u32 0] 0 O=O:=ek (by rw[bO]; rfl);unfold cn cV at ec s3;simp[fr,cn,cV,a2,arX];refine aW ec (by simp[aZ,ad.closed,cJ,b6,eF]) ?_;simp[bO,hs,a2,arX];refine aW cZ (by simp[aZ,ad.closed,rH,eF]) ?_;by_cases h1:x∈s.cP.l
  ·simp[h1];exact aK rfl rfl
  ·by_cases ae:s.eU=60
   ·simp[h1,ae];exact aK rfl rfl
   ·have aR:IntKind.i64.wrap (s.eU+1)=s.eU+1:=by rw[IntKind.wrap_i64]; omega
    simp[h1,ae,a2,arX];refine aW s3 (by simp[aZ,ad.closed,cJ,b6,eF]) ?_;simp[aR,bO,bt,arX];obtain⟨A,cv⟩:∃ A,A=gb s.set o b:=⟨_,rfl⟩
    obtain⟨R,gu⟩:∃ R,R=iG s.dG o:=⟨_,rfl⟩
    have oI:x7 s o x b=if A.2=0 then (if R.2=0 then (⟨s.eU+1,A.1,R.1,some (uG s o x)⟩,0) else (c7,R.2)) else (c7,A.2) :=by unfold x7; rw[cv,gu]
    rw[if_neg h1,if_neg ae,oI];rw[<-cv] at mU;rw[<-gu] at uN;refine aW mU (by simp[aZ,ad.closed,rM,ix,wu]) ?_;have nm:=z1 A.1;have As:=vQ R.1;by_cases al:A.2=0
    ·simp[al,nm,bO,bt,arX];refine aW uN (by simp[aZ,ad.closed,jY,ix]) ?_;by_cases aE:R.2=0
     ·simp[aE,As,bO,bt,arX];have adC:cz (.au 32) (aN s.cP)=some (.int .i64 s.cP.l.length) :=by simp[aN]
      have CY:bt (rep 32 (ad.int .u8 0)) 0 X=X:=ek (by rw[a2]; rfl);simp[adC];refine cw s.cP.l.length (XN s g o O X A.1 R.1) ?_ ?_
      ·rintro k af l hk ⟨bf,bT,de,g2,Kl,Km,Kn,v,j,rest,rfl,e4,aj,gx⟩;obtain⟨af,rfl⟩:=EK bf bT de g2 Kl Km Kn;clear bf bT de g2 Kl Km Kn;simp;refine g8 (fun h=>?_) (fun h=>?_)
       ·simp only[decide_eq_true_eq] at h;obtain⟨y,ay,ch⟩:=bu (l:=s.cP.l) (k:=k) (by omega);have bE:IntKind.i64.wrap ((k:Int)+1)=((k+1:Nat) :Int) :=by rw[IntKind.wrap_i64]; omega
        have bG:cd (.au 32) (aN s.cP) (.int .i64 (k:Int))=some (.b0 (aQ y) 0) :=by simp[aN,ay]
        have wT:=ak.cP y ch;have b4:=cA wT;have hY:=eP y;have hr:=ER o.br hZ.ids hZ.len y wT;have K1:=eb o.br;have b1:s.cP.l.take (k+1)=s.cP.l.take k++[y] :=by rw[ash,ay]; rfl
        obtain⟨Y,dC⟩:∃ Y,Y=aQ y:=⟨_,rfl⟩
        rw[<-dC] at bG b4 hY hr;have Gj:bt (rep 32 (ad.int .u8 0)) 0 Y=Y:=ek (by rw[b4]; rfl);simp[bG,b4,Gj,bO,gC,arX];refine aW hr (by simp[aZ,ad.closed,K1,hY]) ?_;by_cases aU:y∈o.br.l
        ·simp[aU,bE];have aD:(s.cP.l.take (k+1)).filter (hx o)=(s.cP.l.take k).filter (hx o) :=by rw[b1,atl]; simp[aU]
         refine⟨h,by simp,by simp,by simp,by simp,by simp,by simp,by simp,v,j,rest++[.cells 32 Y],rfl,?_,aj,by rw[aD]; exact gx⟩;have dy:=e4.more [aY.cells 32 Y];rw[ass] at dy;rw[aD]; exact dy
        ·have aD:(s.cP.l.take (k+1)).filter (hx o)=(s.cP.l.take k).filter (hx o)++[y] :=by rw[b1,atl]; simp[aU]
         have eo:((s.cP.l.take k).filter (hx o)).length<=60:=ati (atc _ _) (by rw[asc]; omega);obtain⟨a8,bK,dI,aX,bg,a3,a4⟩:=sH (by_:=32) (pre:=zj s g O X A.1 R.1 v) (rest:=rest++[.cells 32 Y,.cells 32 Y]) (by rw[<-ass]; exact e4.more _) aj (x:=.au 32 (rest.length+1+1+1+1+1+1+1) 0 1 1 32) (xs:=[Y])
          (by simp[dA,b4,arX]) (by simp[b4]) (by omega) (by omega) (by rw[aA]; simp; omega)
         simp only[zj,as5,asO] at aX;have iC:=bg.cells;simp[aU,b4,Gj,arX,aX];refine dt.cy ?_;simp[iC,bt,bE];have fH:cx a8=false:=by rw[a4]; simp
         have Lj:6<=bK:=by
          rcases a3 with h | h
          ·rw[h] at fH; cases fH
          ·simpa using h
         refine⟨h,by simp,by simp,by simp,by simp,by simp,by simp,by simp,a8,bK,dI,rfl,?_,.inr Lj,by rw[aD,fH]; simp⟩;rw[aD,asv,ast,atQ,<-dC];refine bg.nT (.inr ?_);obtain⟨nw,rfl⟩:∃ nw,bK=nw+6:=⟨bK - 6,by omega⟩
         rfl
       ·have fR:k=s.cP.l.length:=by simp at h; omega
        rw[fR,asx] at e4 gx;have eo:(s.cP.l.filter (hx o)).length<=60:=ati (atc _ _) aH;obtain⟨a8,bK,dI,aX,bg,a3,a4⟩:=sH (by_:=32) (pre:=zj s g O X A.1 R.1 v) (rest:=rest++[.cells 32 X]) (by rw[<-ass]; exact e4.more _) aj (x:=.au 32 (rest.length+1+1+1+1+1+1) 0 1 1 32) (xs:=[X])
         (by simp[dA,a2,arX]) (by simp[a2]) (by omega) (by omega) (by rw[aA]; simp; omega)
        simp only[zj,as5,asO] at aX;have iC:=bg.cells;simp[h,a2,CY,arX,aX];refine dt.cy ?_;simp[iC,bt];have fH:cx a8=false:=by rw[a4]; simp
        have Lj:6<=bK:=by
         rcases a3 with h | h
         ·rw[h] at fH; cases fH
         ·simpa using h
        have a5:bB 32 (zj s g O X A.1 R.1 a8++dI) a8 bK ((s.cP.l.filter (hx o)++[x]).map aQ) :=by
         rw[asv,ast,atQ,<-b3];refine bg.nT (.inr ?_);obtain⟨nw,rfl⟩:∃ nw,bK=nw+6:=⟨bK - 6,by omega⟩
         rfl
        refine abk (xs:=s.cP.l.filter (hx o)++[x]) (fun z av=>?_) (by rw[asa]; simp; omega) (by simp) a5 (fun l' dx di gA=>?_)
        ·rcases asu.1 av with e | e
         ·exact ak.cP z (as6.1 e).1
         ·rw[asl.1 e]; exact ai
        have Ej:l'[5]? = some (.cells 4 [.int .i64 (s.eU+1),dd A.1,c8 R.1,a8]) :=by rw[di 5 (by omega)]; rfl
        have hn:l'[3]? = some (.cells 4 [.int .i64 0,.aV,.aV,.aV]) :=by rw[di 3 (by omega)]; rfl
        have qA:4<=l'.length:=by rw[dx]; simp
        have oV:∀ y:aY,(l'.set 3 y)[3]? = some y:=fun y=>ar9 (by omega)
        simp[Ej,hn,oV,bt];rw[if_pos al,if_pos aE];refine oT (.aI _ _ rfl fun m c c' ah gv=>?_) (aK rfl rfl);rcases m with _ | _ | _ | _ | m
        ·simp[fr] at ah gv; subst ah gv; exact .same _ rfl
        ·simp[fr] at ah gv; subst ah gv; exact .same _ (oz _)
        ·simp[fr] at ah gv; subst ah gv; exact .same _ (qa _)
        ·simp[fr] at ah gv; subst ah gv;have mI:bB 32 (l'.set 3 (.cells 4 [.int .i64 (s.eU+1),dd A.1,c8 R.1,a8])) a8 bK ((uG s o x).map aQ) :=gA.nT (.inr (ar7 (by omega)));exact mI.q.lZ eP (some (uG s o x)) fH rfl
        ·simp at ah
      ·refine⟨by simp,by simp,by simp,by simp,by simp,by simp,by simp,.aV,0,[],by simp[zj],.nil 0,.inl rfl,rfl⟩
     ·simp[aE,As,bO,bt,arX];exact aK (by rw[if_pos al]; rfl) (by rw[if_pos al]; exact kJ c7 _)
    ·simp[al,nm];exact aK rfl (kJ c7 _)
 ·have qx:nU g x=(BX,6) :=by unfold nU; rw[if_neg hm]
  have lL:jV s g x=(c7,6) :=by unfold jV; rw[if_neg hm]
  rw[qx] at ec;rw[lL];obtain⟨X,b3⟩:∃ X,X=aQ x:=⟨_,rfl⟩
  rw[<-b3] at eF a2 ec ⊢;unfold cn cV at ec;simp[fr,cn,cV,a2,arX];refine aW ec (by simp[aZ,ad.closed,cJ,b6,eF]) ?_;have av:a1 BX=[ad.int .u32 0,.aV,.int .u64 0,.int .u8 0,.str [],.int .u8 0,.int .i64 0,.int .u64 0,.str [],.int .u32 0,.int .u32 0] :=rfl;simp[av,bt];exact aK rfl rfl
structure X9 (a:dM) (o:bq) (X:List ad) (k:Nat) (af:bi) (l:ap) :Prop where
 cg:af 0=aN a
 bp:af 4=.ptr 0 0 11
 bf:af 5=.ptr 1 0 32
 de:af 8=.int .i64 k
 ex:∃ v j rest,l=.cells 11 (a1 o) ::.cells 32 X::rest/\af 7=v/\bB 32 l v j (((a.l.take k).filter (hx o)).map aQ)/\(v=.aV\/2<=j)/\cx v=((a.l.take k).filter (hx o)).isEmpty
def qt (l:List (List B)) (o:bq) (x:List B) :List (List B) :=xt (l.filter (hx o)++[x])
set_option maxHeartbeats 4000000 in
theorem ahE (a:dM) (az:fo a) (am:a.l.length<=60) (aF:a.l.Nodup) (o:bq) (aq:jO o) (x:List B) (ai:x.length=32) (kp:x∉a.l) :
  bx Tryz.prog GS 103 [aN a,.aI (a1 o),.aI (aQ x)] (aN (some (qt a.l o x))) :=by
 refine bH Tryz.checked.mixed bD ?_;apply bm Tryz.func103 [];have aA:cK=140737488355328:=rfl;have jx:cz (.au 32) (aN a)=some (.int .i64 a.l.length) :=by simp[aN]
 have a2:=cA ai;have bO:(a1 o).length=11:=rfl;have gC:∀ h,(a1 o)[1]'h=aN o.br:=fun _=>rfl
 have K1:=eb o.br;obtain⟨X,b3⟩:∃ X,X=aQ x:=⟨_,rfl⟩
 rw[<-b3] at a2 ⊢;have CY:bt (rep 32 (ad.int .u8 0)) 0 X=X:=ek (by rw[a2]; rfl);simp[a2,bO,arX];refine cw a.l.length (X9 a o X) ?_ ⟨by simp,by simp,by simp,by simp,.aV,0,[],by simp,by simp,.nil 0,.inl rfl,rfl⟩;rintro k af l hk ⟨cg,bp,bf,de,v,j,rest,rfl,dh,e4,aj,gx⟩;obtain⟨af,rfl⟩:=ky cg bp bf dh de;clear cg bp bf dh de;obtain⟨O,dn⟩:∃ O,O=a1 o:=⟨_,rfl⟩
 rw[<-dn] at bO gC e4 ⊢;simp[jx];refine g8 (fun h=>?_) (fun h=>?_)
 ·simp only[decide_eq_true_eq] at h;obtain⟨y,ay,ch⟩:=bu (l:=a.l) (k:=k) (by omega);have bE:IntKind.i64.wrap ((k:Int)+1)=((k+1:Nat) :Int) :=by rw[IntKind.wrap_i64]; omega
  have bG:cd (.au 32) (aN a) (.int .i64 (k:Int))=some (.b0 (aQ y) 0) :=by simp[aN,ay]
  have wT:=az y ch;have b4:=cA wT;have hY:=eP y;have hr:=zl o.br aq.ids aq.len y wT;have b1:a.l.take (k+1)=a.l.take k++[y] :=by rw[ash,ay]; rfl
  obtain⟨Y,dC⟩:∃ Y,Y=aQ y:=⟨_,rfl⟩
  rw[<-dC] at bG b4 hY hr;have Gj:bt (rep 32 (ad.int .u8 0)) 0 Y=Y:=ek (by rw[b4]; rfl);simp[bG,b4,bO,gC,arX];refine aW hr (by simp[aZ,ad.closed,K1,hY]) ?_;by_cases aU:y∈o.br.l
  ·simp[aU,bE];have aD:(a.l.take (k+1)).filter (hx o)=(a.l.take k).filter (hx o) :=by rw[b1,atl]; simp[aU]
   exact⟨h,by simp,by simp,by simp,by simp,v,j,rest,by rw[dn],by simp,by rw[aD]; exact e4,aj,by rw[aD]; exact gx⟩
  ·have aD:(a.l.take (k+1)).filter (hx o)=(a.l.take k).filter (hx o)++[y] :=by rw[b1,atl]; simp[aU]
   have eo:((a.l.take k).filter (hx o)).length<=60:=ati (atc _ _) (by rw[asc]; omega);obtain⟨a8,bK,dI,aX,bg,a3,a4⟩:=sH (by_:=32) (pre:=[.cells 11 O,.cells 32 X]) (rest:=rest++[.cells 32 Y]) (e4.more _) aj (x:=.au 32 (rest.length+1+1) 0 1 1 32) (xs:=[Y])
    (by simp[dA,b4,arX]) (by simp[b4]) (by omega) (by omega) (by rw[aA]; simp; omega)
   simp only[as5,asO] at aX;simp[aU,bG,b4,Gj,arX,aX];refine dt.cy ?_;simp[bE];have fH:cx a8=false:=by rw[a4]; simp
   refine⟨h,by simp,by simp,by simp,by simp,a8,bK,dI,by rw[dn],by simp,?_,by simpa using a3,by rw[aD,fH]; simp⟩;rw[aD,asv,ast,atQ,<-dC];exact bg
 ·have fR:k=a.l.length:=by simp at h; omega
  rw[fR,asx] at e4 gx;have eo:(a.l.filter (hx o)).length<=60:=ati (atc _ _) am;obtain⟨a8,bK,dI,aX,bg,a3,a4⟩:=sH (by_:=32) (pre:=[.cells 11 O,.cells 32 X]) (rest:=rest++[.cells 32 X]) (e4.more _) aj (x:=.au 32 (rest.length+1+1) 0 1 1 32) (xs:=[X])
   (by simp[dA,a2,arX]) (by simp[a2]) (by omega) (by omega) (by rw[aA]; simp; omega)
  simp only[as5,asO] at aX;have fH:cx a8=false:=by rw[a4]; simp
  have a5:bB 32 (aY.cells 11 O::.cells 32 X::dI) a8 bK ((a.l.filter (hx o)++[x]).map aQ) :=by
   rw[asv,ast,atQ,<-b3]; exact bg
  have wM:=ahW (some (a.l.filter (hx o)++[x])) (fun z av=>by
   rcases asu.1 av with e | e
   ·exact az z (as6.1 e).1
   ·rw[asl.1 e]; exact ai) (by simp; omega) (by
   show (a.l.filter (hx o)++[x]).Nodup;refine ath.2 ⟨aF.sublist atT,by simp,fun p aC q bd=>?_⟩;rw[asl.1 bd];exact fun e=>kp (by rw[<-e]; exact (as6.1 aC).1))
  have ao:ad.cq 32 ((a.l.filter (hx o)++[x]).map aQ)=aN (some (a.l.filter (hx o)++[x])) :=rfl;simp[h,a2,CY,arX,aX];refine dt.abj a5 fH ?_;rw[ao];simp;refine aW wM (by simp[aZ,eb]) ?_;simp;exact aK rfl (eb _)
noncomputable def v7 (s:ct) (o:bq) (x:List B) (b:dM) :ct × Int:=
 if (io s.set o b).2=0 then (if (hB s.dG o).2=0 then (⟨s.eU+1,(io s.set o b).1,(hB s.dG o).1,some (qt s.cP.l o x)⟩,0) else (c7,(hB s.dG o).2)) else (c7,(io s.set o b).2)
noncomputable def js (s:ct) (g:bc) (x:List B) :ct × Int:=
 if x∈g.ids.l then (if x∈s.cP.l then (c7,14) else if s.eU=60 then (c7,18) else v7 s (nU g x).1 x (dW (eu g (ru g.ids.l x)))) else (c7,6)
set_option maxHeartbeats 8000000 in
theorem ah5 (s:ct) (ak:sD s) (iP:0<=s.eU) (mq:s.eU<=60) (aH:s.cP.l.length<=60) (aF:s.cP.l.Nodup) (g:bc) (ar:ei g) (aB:dm g=0) (x:List B) (ai:x.length=32) :
  bx Tryz.prog GS 54 [.aI (fr s),cn g,.aI (aQ x)] (.bJ [.aI (fr (js s g x).1),.int .i64 (js s g x).2]) :=by
 refine bH Tryz.checked.mixed bD ?_;apply bm Tryz.func54 [[[0],[1],[2],[3],[4],[10],[5,10,2,1],[6,10],[7],[8],[9]],[[0],[1],[2],[3],[4],[5],[6],[7],[8],[9,4,3,1]]];have V:=kX aB;have cJ:=eb g.ids;have b6:=jo g.ops;have eF:=eP x;have a2:=cA ai;have rH:=eb s.cP;have rM:=oz s.set;have jY:=qa s.dG;have eB:=Im g.ids ar.ids ar.li x ai;have cZ:=zl s.cP ak.cP ak.DT x ai;by_cases hm:x∈g.ids.l
 ·obtain⟨i,ax⟩:=ar6.1 hm;obtain⟨o,aq,ds⟩:=bu (l:=g.ops.l) (k:=i) (by rw[<-V.len]; exact (arY.1 ax).1);have hZ:=ar.ops o ds;have fC:=Ny g ar (m3 V.ea) ax aq;obtain⟨qm,Gk⟩:=vE g ar V ax;have lL:js s g x=if x∈s.cP.l then (c7,14) else if s.eU=60 then (c7,18) else v7 s o x (dW (eu g i)) :=by
   unfold js; rw[if_pos hm,rA V ax aq,vU V.ea ax]
  have wA:¬ (hv x g.ids.l 0<0) :=by have:=(r2 x g.ids.l 0).2 hm; omega
  obtain⟨b,ag⟩:∃ b,b=dW (eu g i) :=⟨_,rfl⟩
  rw[lL,<-ag];have oH:fo b:=fun p aC=>by rw[ag,fM] at aC; exact ar.ids p (qm.sub p aC)
  have eC:b.l.length<=1000000:=by rw[ag,fM]; have:=qm.len; have:=ar.li; omega
  rw[<-ag] at Gk;have wu:=eb b;have mU:=ahv s.set o b ak.set ak.ls hZ oH eC;have uN:=ahO s.dG o ak.dG ak.DW hZ;have bO:(a1 o).length=11:=rfl;have ix:=k5 o;by_cases h1:x∈s.cP.l
  ·rw[if_pos h1];obtain⟨X,b3⟩:∃ X,X=aQ x:=⟨_,rfl⟩
   rw[<-b3] at eF a2 eB cZ ⊢;simp[fr,cn,cV,a2,arX];refine aW eB (by simp[aZ,ad.closed,cJ,eF]) ?_;simp[wA,a2,arX];refine aW cZ (by simp[aZ,ad.closed,rH,eF]) ?_;simp[h1];exact aK rfl (kJ c7 _)
  ·have wy:=ahE s.cP ak.cP aH aF o hZ x ai h1;obtain⟨X,b3⟩:∃ X,X=aQ x:=⟨_,rfl⟩
   obtain⟨O,dn⟩:∃ O,O=a1 o:=⟨_,rfl⟩
   rw[<-b3] at eF a2 eB cZ Gk fC wy ⊢;rw[<-dn] at bO ix mU uN fC wy;have hs:bt [ad.int .u32 0,.aV,.int .u64 0,.int .u8 0,.str [],.int .u8 0,.int .i64 0,.int .u64 0,.str [],.int .u32 0,.int .u32 0] 0 O=O:=ek (by rw[bO]; rfl);unfold cn cV at Gk fC;simp[fr,cn,cV,a2,arX];refine aW eB (by simp[aZ,ad.closed,cJ,eF]) ?_;simp[wA,a2,arX];refine aW cZ (by simp[aZ,ad.closed,rH,eF]) ?_;rw[if_neg h1];by_cases ae:s.eU=60
   ·simp[h1,ae];exact aK rfl (kJ c7 _)
   ·have aR:IntKind.i64.wrap (s.eU+1)=s.eU+1:=by rw[IntKind.wrap_i64]; omega
    rw[if_neg ae];simp[h1,ae,a2,arX];refine aW fC (by simp[aZ,ad.closed,cJ,b6,eF]) ?_;simp[bO,hs,a2,arX];refine aW Gk (by simp[aZ,ad.closed,cJ,b6,eF]) ?_;obtain⟨A,cv⟩:∃ A,A=io s.set o b:=⟨_,rfl⟩
    obtain⟨R,gu⟩:∃ R,R=hB s.dG o:=⟨_,rfl⟩
    have oI:v7 s o x b=if A.2=0 then (if R.2=0 then (⟨s.eU+1,A.1,R.1,some (qt s.cP.l o x)⟩,0) else (c7,R.2)) else (c7,A.2) :=by unfold v7; rw[cv,gu]
    rw[oI];rw[<-cv] at mU;rw[<-gu] at uN;have nm:=z1 A.1;have As:=vQ R.1;have anQ:=oz A.1;have anR:=qa R.1;have acC:=Cl (some (qt s.cP.l o x));simp[bO,a2,arX];refine aW mU (by simp[aZ,ad.closed,rM,ix,wu]) ?_;by_cases al:A.2=0
    ·rw[if_pos al];simp[al,nm,bO,a2,arX];refine aW uN (by simp[aZ,ad.closed,jY,ix]) ?_;by_cases aE:R.2=0
     ·rw[if_pos aE];simp[aE,nm,As,bO,a2,aR,arX];refine aW wy (by simp[aZ,ad.closed,rH,ix,eF]) ?_;simp[nm,As,acC,bt];exact aK rfl (kJ _ _)
     ·rw[if_neg aE];simp[aE,As];exact aK rfl (kJ c7 _)
    ·rw[if_neg al];simp[al,nm];exact aK rfl (kJ c7 _)
 ·have lL:js s g x=(c7,6) :=by unfold js; rw[if_neg hm]
  rw[lL];have wA:hv x g.ids.l 0<0:=Decidable.byContradiction fun h=>hm ((r2 x g.ids.l 0).1 (by omega))
  obtain⟨X,b3⟩:∃ X,X=aQ x:=⟨_,rfl⟩
  rw[<-b3] at eF a2 eB ⊢;simp[fr,cn,cV,a2,arX];refine aW eB (by simp[aZ,ad.closed,cJ,eF]) ?_;simp[wA];exact aK rfl (kJ c7 _)
noncomputable def anh (s:ct) (g:bc) (x:List B) :ct × Int:=if WD s=0 then (if dm g=0 then js s g x else (c7,dm g)) else (c7,WD s)
theorem ML (a:List B) :fK a a=false:=by
 cases h:fK a a with
 | false=>rfl
 | true=>rw[y9,pf] at h; omega
theorem DX (a b c:List B) (h1:fK a b=true) (ae:fK b c=true) :fK a c=true:=(y9 _ _).2 (uk a b c ((y9 _ _).1 h1) ((y9 _ _).1 ae))
theorem HN (a b:List B) (bU:a≠b) (h:fK a b=false) :fK b a=true:=by
 rw[y9,qb];rcases Cr a b with h1 | h1 | h1
 ·rw[(y9 a b).2 (by omega)] at h; cases h
 ·exact absurd (rs h1) bU
 ·omega
theorem ajb (l:List (List B)) :(pR l).Pairwise fun a b=>fK b a=false:=by
 unfold pR;have h:=avq (le:=fun x y:List B=>!fK y x) (fun a b c h1 ae=>by
  simp only[atp] at h1 ae ⊢;cases al:fK c a with
  | false=>rfl
  | true=>
   by_cases fu:a=b
   ·subst fu; rw[al] at ae; cases ae
   ·have aE:=HN b a (fun e=>fu e.symm) h1;have aU:=DX _ _ _ al aE;rw[aU] at ae; cases ae) (fun a b=>by
  cases h1:fK a b with
  | false=>simp
  | true=>
   cases ae:fK b a with
   | false=>simp
   | true=>have:=DX _ _ _ h1 ae; rw[ML] at this; cases this) l
 exact h.imp fun {a b} fu=>by simpa using fu
theorem Oc {l:List (List B)} (aF:l.Nodup) :pR l=xt l:=by
 have aC:(pR l).Perm l:=auY l _;have yI:(pR l).Nodup:=aC.nodup_iff.2 aF;have ak:(pR l).Pairwise fun a b=>fK a b=true:=by
  refine List.Pairwise.imp (R:=fun a b=>fK b a=false/\a≠b) (fun {a b} h=>HN b a (fun e=>h.2 e.symm) h.1) ?_;exact List.pairwise_and_iff.2 ⟨ajb l,yI⟩
 exact ID ML DX ak (Oa DX HN aF (ar0 _)) fun y=>by rw[ajc,zq (ar0 _),asx]
theorem Ps (s:eO) (o:bq) {b c:dM} (h:∀ p,p∈b.l<->p∈c.l) (ag:b.l.length<=60) (ah:c.l.length<=60) :gb s o b=gb s o c:=by
 have ak:jK o b=jK o c:=by
  funext t; unfold jK; rw[decide_eq_decide.2 (h t.id)]
 unfold gb;rw[if_neg (show ¬ 60<b.l.length by omega),if_neg (show ¬ 60<c.l.length by omega),ak]
theorem Pr (s:eO) (o:bq) (b:dM) :io (some s.l) o b=io s o b:=rfl
theorem VM (s:gp) (o:bq) :hB (some s.l) o=hB s o:=rfl
theorem ah4 (s:gp) (o:bq) (ak:hj s.l) (am:s.l.length<=100) (aq:jO o) :hj (iG s o).1.l/\(iG s o).1.l.length<=1000000:=by
 have aB:hj (dg.l (none:gp))/\(dg.l (none:gp)).length<=1000000:=⟨fun t aJ=>(by cases aJ),by simp⟩
 unfold iG;split
 ·split
  ·split
   ·exact aB
   ·rw[xl];unfold eS;split
    ·have:=N6 (x:=c6 o (cQ o)) ak ⟨Bb o,aq.val⟩;exact⟨this.1,by omega⟩
    ·exact⟨ak,by omega⟩
  ·exact aB
 ·exact aB
theorem D6:sD c7:=⟨fun t aJ=>(by cases aJ),fun t aJ=>(by cases aJ),fun t aJ=>(by cases aJ),by simp[c7],by simp[c7],by simp[c7]⟩
structure Ye (r:bP) :Prop where
 id:r.id.length=32
 my:-9223372036854775808<=r.val.num
 ny:r.val.num<9223372036854775808
structure alF (s:ct) :Prop where
 set:gW s.set.l
 dG:∀ r∈s.dG.l,Ye r
 cP:fo s.cP
theorem aiM (g:bc) :BE (IK g) g=true:=by
 unfold BE;rw[W2];simp only[show (IK g).ids.l=g.ids.l from rfl,decide_true,asi,asM,decide_eq_true_eq];intro k hk;obtain⟨o,aq,_⟩:=bu hk;rw[oR aq,oR (o:=BO o) (by rw[ar5,aq]; rfl)];unfold Iy;simp[BO,he,fk,ad.beq]
theorem Ug (a b:bP) (bU:a.key≠b.key) (h:j7 a b=false) :j7 b a=true:=by
 unfold j7 at h ⊢;rw[N3] at h;rw[tM];have ae:b.key<=a.key:=h;exact Decidable.byContradiction fun al=>bU (avn (show a.key<=b.key from al) ae)
theorem MM (a b c:bP) (h1:j7 a b=true) (ae:j7 b c=true) :j7 a c=true:=Ev h1 ae
theorem F0 (l:List bP) :l7 l=true<->(∀ t∈l,jJ t=true)/\l.Pairwise fun a b=>j7 a b=true:=by
 constructor
 ·intro h;refine⟨fun t aJ=>?_,atk.2 fun i j ax aj iy=>?_⟩
  ·obtain⟨k,hk⟩:=ar6.1 aJ;have h1:=(of_decide_eq_true h) k (arY.1 hk).1;unfold ql at h1;rw[nb hk,ar3] at h1;exact h1.1
  ·exact wd h (d:=j - i - 1) (ar1 ax) (by rw[show i+(j - i - 1)+1=j by omega]; exact ar1 aj)
 ·rintro⟨h1,ae⟩;refine Kq fun k hk=>?_
  unfold ql;have ay:=ar1 hk;rw[nb ay,h1 _ (auI hk),asM];by_cases rQ:k=0
  ·simp[rQ]
  ·have ai:=ar1 (l:=l) (i:=k - 1) (by omega);have:=(atk.1 ae) (k - 1) k (by omega) hk (by omega);unfold j7 at this;rw[nb ai,this]; simp
theorem Rs {l:List bP} {x:bP} (ar:l7 l=true) (ai:jJ x=true) :l7 (jd l x)=true:=by
 obtain⟨h1,ae⟩:=(F0 l).1 ar;unfold jd;cases aD:ju l x.key with
 | true=>
  rw[if_pos rfl];split
  ·unfold ju at aD;rw[ar3,decide_eq_true_eq,decide_eq_true_eq] at aD;obtain⟨ah,hk⟩:=aD;have ay:=ar1 ah;rw[nb ay] at hk;refine (F0 _).2 ⟨fun t aJ=>?_,atk.2 fun i j ax aj iy=>?_⟩
   ·rcases atf aJ with e | e
    ·exact h1 t e
    ·rw[e]; exact ai
   ·rw[auu] at ax aj;have al:=(atk.1 ae) i j ax aj iy;have AL:∀ (t:Nat) (aJ:t<l.length),((l.set (eV l x.key) x)[t]'(by rw[auu]; exact aJ)).key=(l[t]'aJ).key:=fun t aJ=>by
     rw[List.getElem_set];split
     ·rename_i e; subst e; exact hk.symm
     ·rfl
    unfold j7 at al ⊢;rw[AL i ax,AL j aj]; exact al
  ·exact ar
 | false=>
  rw[if_neg (by simp)];have aC:=Vg ar aD;rw[<-aC];refine (F0 _).2 ⟨fun t aJ=>?_,Mu MM ae fun y ay lg=>Ug x y (fun e=>?_) lg⟩
  ·rcases Be.1 aJ with e | e
   ·rw[e]; exact ai
   ·exact h1 t e
  ·rcases FT ar x.key with ⟨al,_⟩ | ⟨_,al⟩
   ·rw[al] at aD; cases aD
   ·exact al ((r2 x.key (l.map bP.key) 0).2 (by rw[e]; exact atG ay))
theorem V4 {g:bc} (V:kB g) {k:Nat} {o:bq} {x:List B} (aq:g.ops.l[k]? = some o) (ai:g.ids.l[k]? = some x) (c5:o.act.kind=4#8) :jJ (c6 o x)=true:=by
 have h1:=(V.oE k o x aq ai).1;have ae:fy o=0:=by
  unfold rf at h1;split at h1
  ·assumption
  ·rename_i h; exact absurd h1 h
 unfold fy at ae;split at ae
 ·cases ae
 ·split at ae
  ·split at ae
   ·rename_i _ _ al;unfold sV at al;simp only[ar3,decide_eq_true_eq] at al;obtain⟨_,aE,aU,_⟩:=al;unfold kE at aU;rw[c5] at aU;simp only[ar3] at aU;unfold jJ c6 BI;simp only[ar3,decide_eq_true_eq];simp at aU;exact⟨aU.1,aU.2,aE⟩
   ·cases ae
  ·cases ae
def hA (g:bc) :Nat->List bP
 | 0=>[]
 | k+1=>eS (hA g k) (iU g.ops.l k) (b2 g.ids.l k)
theorem Vu {g:bc} {k:Nat} {o:bq} {x:List B} (aq:g.ops.l[k]? = some o) (ai:g.ids.l[k]? = some x) :hA g (k+1)=eS (hA g k) o x:=by
 show eS (hA g k) (iU g.ops.l k) (b2 g.ids.l k)=_;rw[oR aq,fJ ai]
theorem Ei {g:bc} (ar:ei g) (V:kB g) :∀ {k:Nat},k<=g.ops.l.length->l7 (hA g k)=true/\hj (hA g k)/\(hA g k).length<=k
 | 0,_=>⟨rfl,fun t aJ=>(by cases aJ),ar0 _⟩
 | k+1,hk=>by
  obtain⟨h1,ae,al⟩:=Ei ar V (k:=k) (by omega);obtain⟨o,aq,ds⟩:=bu (l:=g.ops.l) (k:=k) (by omega);obtain⟨x,ai,cE⟩:=bu (l:=g.ids.l) (k:=k) (by rw[V.len]; omega);rw[Vu aq ai];unfold eS;by_cases c5:o.act.kind=4#8
  ·rw[if_pos c5];have:=N6 (x:=c6 o x) ae ⟨ar.ids x cE,(ar.ops o ds).val⟩;exact⟨Rs h1 (V4 V aq ai c5),this.1,by omega⟩
  ·rw[if_neg c5]; exact⟨h1,ae,by omega⟩
structure XS (g:bc) (k:Nat) (af:bi) (l:ap) :Prop where
 aL:af 1=.ptr 0 0 2
 aT:af 2=.ptr 1 0 1
 bf:af 5=.ptr 2 0 1
 sR:af 15=bM g.ops
 qi:af 16=.int .i64 g.ops.l.length
 oD:af 17=.int .i64 k
 dK:l[0]? = some (.cells 2 [aN g.ids,bM g.ops])
 q1:l[1]? = some (.cells 1 [.aV])
 ex:∃ v j,l[2]? = some (.cells 1 [v])/\jk l v j (hA g k)/\(v=.aV\/3<=j)/\cx v=(hA g k).isEmpty
def od (g:bc) :gp:=if dm g=0 then dW (hA g g.ops.l.length) else none
set_option maxHeartbeats 8000000 in
theorem akX (g:bc) (ar:ei g) :bx Tryz.prog GS 42 [cn g] (.bJ [.aI [c8 (od g)],.int .i64 (dm g)]) :=by
 refine bH Tryz.checked.mixed bD ?_;apply bm Tryz.func42 [];have cJ:=eb g.ids;have b6:=jo g.ops;have cO:=BR g ar;have Lu:=ar.c0;have dv:cz (.au 11) (bM g.ops)=some (.int .i64 g.ops.l.length) :=by simp[bM]
 unfold cn cV at cO;simp[cn,cV];refine aW cO (by simp[aZ,ad.closed,cJ,b6]) ?_;by_cases aB:dm g=0
 ·have V:=kX aB;simp[aB,dv];refine cw g.ops.l.length (XS g) ?_ ⟨by simp,by simp,by simp,by simp,by simp,by simp,by simp,by simp,.aV,0,by simp,jk.nil _ 0,.inl rfl,rfl⟩;rintro k af l hk ⟨aL,aT,bf,sR,qi,oD,dK,q1,v,j,dE,Ds,aj,gx⟩;obtain⟨af,rfl⟩:=vp aL aT bf sR qi oD;clear aL aT bf sR qi oD;simp;refine g8 (fun h=>?_) (fun h=>?_)
  ·simp only[decide_eq_true_eq] at h;obtain⟨o,aq,ds⟩:=bu (l:=g.ops.l) (k:=k) (by omega);obtain⟨x,ai,cE⟩:=bu (l:=g.ids.l) (k:=k) (by rw[V.len]; omega);have hZ:=ar.ops o ds;have iD:=ar.ids x cE;have bE:IntKind.i64.wrap ((k:Int)+1)=((k+1:Nat) :Int) :=by rw[IntKind.wrap_i64]; omega
   have bG:cd (.au 11) (bM g.ops) (.int .i64 (k:Int))=some (.b0 (a1 o) 0) :=by simp[bM,aq]
   have jw:cd (.au 32) (aN g.ids) (.int .i64 (k:Int))=some (.b0 (aQ x) 0) :=by simp[aN,ai]
   have bO:(a1 o).length=11:=rfl;have a2:=cA iD;obtain⟨ce,bI,cS⟩:=Ei ar V (k:=k) (by omega);have b1:hA g (k+1)=eS (hA g k) o x:=Vu aq ai;have pv:3<=l.length:=by have:=(arY.1 dE).1; omega
   have ad7:jk (l++[.cells 11 (a1 o)]) v j (hA g k) :=Ds.frame (by
    by_cases aw:v=.aV
    ·exact .inl aw
    ·obtain⟨_,ag⟩:=Ds.block aw;exact .inr (arZ (arY.1 ag).1))
   have iB:=fun (K:ad->ap->Prop)=>Vv o hZ.val x iD bI (by have:=ar.c0; omega) (Kp ce o.act.key) ad7 (K:=K)
   have sj:∀ c:aY,(l++[c])[2]? = some (.cells 1 [v]) :=fun c=>by rw[arZ (by omega)]; exact dE
   have fh:∀ c:aY,(l++[c])[0]? = some (.cells 2 [aN g.ids,bM g.ops]) :=fun c=>by rw[arZ (by omega)]; exact dK
   have lV:∀ c:aY,(l++[c])[1]? = some (.cells 1 [.aV]) :=fun c=>by rw[arZ (by omega)]; exact q1
   have Ie:∀ c:aY,(l++[c])[l.length]? = some c:=fun c=>aul
   obtain⟨O,dn⟩:∃ O,O=a1 o:=⟨_,rfl⟩
   obtain⟨X,b3⟩:∃ X,X=aQ x:=⟨_,rfl⟩
   rw[<-dn] at bG bO;rw[<-b3] at jw a2;simp only[<-dn,<-b3] at iB;have hs:bt [ad.int .u32 0,.aV,.int .u64 0,.int .u8 0,.str [],.int .u8 0,.int .i64 0,.int .u64 0,.str [],.int .u32 0,.int .u32 0] 0 O=O:=ek (by rw[bO]; rfl);have ag5:∀ (c:aY) (h:0<(l++[c]).length),(l++[c])[0]'h=.cells 2 [aN g.ids,bM g.ops] :=fun c h=>(arY.1 (fh c)).2
   simp[bG,jw,bO,a2,hs,fh,ag5,sj,Ie,arX];refine iB _ (fun a8 l' bK fz fp ku pO q3 tG=>?_);simp at ku;have k9:∀ b,b<3->v=.aV\/b≠j:=fun b ag=>aj.imp id fun h=>by omega
   have t0:l'[0]? = some (.cells 2 [aN g.ids,bM g.ops]) :=by rw[pO 0 (by simp) (k9 0 (by omega)),fh]
   have t1:l'[1]? = some (.cells 1 [.aV]) :=by rw[pO 1 (by simp; omega) (k9 1 (by omega)),lV]
   have t2:l'[2]? = some (.cells 1 [v]) :=by rw[pO 2 (by simp; omega) (k9 2 (by omega)),sj]
   have iC:=fz.o.cells;have ho:∀ y:aY,(l'.set 2 y)[2]? = some y:=fun y=>ar9 (by omega)
   have ep:a8=.aV\/3<=bK:=by
    rcases fp with h | h | h
    ·right; rw[h.2]; exact aj.resolve_left h.1
    ·right; simp at h; omega
    ·exact .inl h
   simp[t2,iC,bE];refine⟨h,by simp,by simp,by simp,by simp,by simp,by simp,by rw[ar7 (by omega)]; exact t0,by rw[ar7 (by omega)]; exact t1,a8,bK,ho _,?_,ep,?_⟩
   ·rw[b1];exact fz.frame (ep.imp id fun h=>ar7 (by omega))
   ·rw[b1];by_cases c5:o.act.kind=4#8
    ·have ev:cx a8=false:=by
      cases eQ:cx a8 with
      | false=>rfl
      | true=>exact absurd c5 (q3 eQ).2
     have mQ:(eS (hA g k) o x).isEmpty=false:=by
      cases eQ:(eS (hA g k) o x).isEmpty with
      | false=>rfl
      | true=>
       rw[auL] at eQ;exfalso;unfold eS at eQ;rw[if_pos c5] at eQ;unfold jd at eQ;split at eQ
       ·rename_i aD;unfold ju at aD;rw[ar3,decide_eq_true_eq] at aD;have rT:0<(hA g k).length:=by omega
        split at eQ
        ·have:=congrArg List.length eQ; rw[auu,asU] at this; omega
        ·rw[eQ] at rT; simp at rT
       ·have:=congrArg List.length eQ; rw[ti] at this; simp at this
     rw[ev,mQ]
    ·have uy:eS (hA g k) o x=hA g k:=by unfold eS; rw[if_neg c5]
     rw[tG c5,uy]; exact gx
  ·have fR:k=g.ops.l.length:=by simp at h; omega
   rw[fR] at Ds gx;have pv:3<=l.length:=by have:=(arY.1 dE).1; omega
   have fZ:∀ y:aY,(l.set 1 y)[1]? = some y:=fun y=>ar9 (by omega)
   have iC:=Ds.o.cells;simp[h,q1,dE,iC,fZ];refine oT (q4 ?_) (aK (by rw[aB]) rfl);have k8:bB 38 (l.set 1 (.cells 1 [v])) v j ((hA g g.ops.l.length).map bR) :=Ds.o.nT (aj.imp id fun h=>ar7 (by omega));exact k8.q.lZ (fun x=>mK x) (od g) (by unfold od; rw[if_pos aB,xv]; exact gx) (by unfold od; rw[if_pos aB,fM])
 ·have lL:od g=none:=by unfold od; rw[if_neg aB]
  rw[lL];simp[aB];exact aK rfl rfl
def iX (g:bc) (k:Nat) :bP:=c6 (iU g.ops.l k) (b2 g.ids.l k)
def zR (g:bc) (x:bP) (j:Nat) :Bool:=decide ((iU g.ops.l j).act.kind=4#8)&&(decide ((iU g.ops.l j).act.key=x.key)&&kW (iU g.ops.l j).cl (b2 g.ids.l j) x.cl x.id)
def m5 (g:bc) (x:bP) (m:Nat) :Bool:=decide (∀ j,j<m->zR g x j=false)
theorem afR (g:bc) (x:bP) (m:Nat) :m5 g x (m+1)=(m5 g x m&&!zR g x m) :=by
 unfold m5;rw[auc,ar3,decide_eq_true_eq,decide_eq_true_eq,atp];constructor
 ·intro h; exact⟨fun j aj=>h j (by omega),h m (by omega)⟩
 ·rintro⟨h1,ae⟩ j aj;by_cases e:j=m
  ·rw[e]; exact ae
  ·exact h1 j (by omega)
def hz (g:bc) :Nat->List bP
 | 0=>[]
 | k+1=>if (iU g.ops.l k).act.kind=4#8 then (if m5 g (iX g k) g.ops.l.length=true then lw (hz g k) (iX g k) else hz g k) else hz g k
theorem UV {g:bc} (ar:ei g) (V:kB g) :∀ {k:Nat},k<=g.ops.l.length->hj (hz g k)/\(hz g k).length<=k
 | 0,_=>⟨fun t aJ=>(by cases aJ),ar0 _⟩
 | k+1,hk=>by
  obtain⟨h1,ae⟩:=UV ar V (k:=k) (by omega);obtain⟨o,aq,ds⟩:=bu (l:=g.ops.l) (k:=k) (by omega);obtain⟨x,ai,cE⟩:=bu (l:=g.ids.l) (k:=k) (by rw[V.len]; omega);have aA:tX (iX g k) :=by unfold iX; rw[oR aq,fJ ai]; exact⟨ar.ids x cE,(ar.ops o ds).val⟩
  unfold hz;split
  ·split
   ·unfold lw;exact⟨Ht h1 aA,by rw[ti]; omega⟩
   ·exact⟨h1,by omega⟩
  ·exact⟨h1,by omega⟩
def u9 (g:bc) :gp:=if dm g=0 then dW (hz g g.ops.l.length) else none
abbrev Vl (g:bc) (c:ad) :ap:=[.cells 2 [aN g.ids,bM g.ops],.cells 1 [.aV],.cells 1 [c]]
set_option maxHeartbeats 8000000 in
theorem ahQ (g:bc) (ar:ei g) :bx Tryz.prog GS 66 [cn g] (.bJ [.aI [c8 (u9 g)],.int .i64 (dm g)]) :=by
 refine bH Tryz.checked.mixed bD ?_;apply bm Tryz.func66 [];have cJ:=eb g.ids;have b6:=jo g.ops;have cO:=In g ar;have Lu:=ar.c0;have dv:cz (.au 11) (bM g.ops)=some (.int .i64 g.ops.l.length) :=by simp[bM]
 unfold cn cV at cO;simp[cn,cV];refine aW cO (by simp[aZ,ad.closed,cJ,b6]) ?_;by_cases aB:dm g=0
 ·have V:=kX aB;simp[aB];refine cw g.ops.l.length (fun k af l=>af 1=.ptr 0 0 2/\af 2=.ptr 1 0 1/\af 4=.ptr 2 0 1/\af 5=.int .i64 k/\∃ rest,l=Vl g (c8 (dW (hz g k)))++rest) ?_ ⟨by simp,by simp,by simp,by simp,[],by simp[Vl,hz,dW,c8,cL]⟩;rintro k af l hk ⟨aL,aT,bp,bf,rest,rfl⟩;obtain⟨af,rfl⟩:=jh aL aT bp bf;clear aL aT bp bf;simp[dv];refine g8 (fun h=>?_) (fun h=>?_)
  ·simp only[decide_eq_true_eq] at h;obtain⟨o,aq,ds⟩:=bu (l:=g.ops.l) (k:=k) (by omega);obtain⟨x,ai,cE⟩:=bu (l:=g.ids.l) (k:=k) (by rw[V.len]; omega);have hZ:=ar.ops o ds;have iD:=ar.ids x cE;have bE:IntKind.i64.wrap ((k:Int)+1)=((k+1:Nat) :Int) :=by rw[IntKind.wrap_i64]; omega
   have bG:cd (.au 11) (bM g.ops) (.int .i64 (k:Int))=some (.b0 (a1 o) 0) :=by simp[bM,aq]
   have jw:cd (.au 32) (aN g.ids) (.int .i64 (k:Int))=some (.b0 (aQ x) 0) :=by simp[aN,ai]
   have bO:(a1 o).length=11:=rfl;have a2:=cA iD;have jv:∀ h,(a1 o)[3]'h=bA o.act.kind:=fun _=>rfl
   have mb:∀ h,(a1 o)[4]'h=.str o.act.key:=fun _=>rfl
   have uA:∀ h,(a1 o)[2]'h=cU o.cl:=fun _=>rfl
   have uB:((a1 o).drop 5).take 4=dJ o.act.val:=rfl;have wC:=Fz o;obtain⟨O,dn⟩:∃ O,O=a1 o:=⟨_,rfl⟩
   obtain⟨X,b3⟩:∃ X,X=aQ x:=⟨_,rfl⟩
   rw[<-dn] at bG bO jv mb uA uB;rw[<-b3] at jw a2;have hs:bt [ad.int .u32 0,.aV,.int .u64 0,.int .u8 0,.str [],.int .u8 0,.int .i64 0,.int .u64 0,.str [],.int .u32 0,.int .u32 0] 0 O=O:=ek (by rw[bO]; rfl);by_cases c5:o.act.kind=4#8
   ·have uZ:=wC.2 c5;have wm:bR (c6 o x)=.str o.act.key::bA o.act.val.kind::.int .i64 o.act.val.num::cU o.act.val.bits::.str o.act.val.text::cU o.cl::X:=by rw[b3]; rfl
    have yM:tX (c6 o x) :=⟨iD,hZ.val⟩
    have hL:=iu iD (r:=c6 o x);have rG:=mK (c6 o x);have uC:∀ h,(bR (c6 o x))[0]'h=.str o.act.key:=fun _=>rfl
    have pD:=BG hL;obtain⟨T,cM⟩:∃ T,T=bR (c6 o x) :=⟨_,rfl⟩
    rw[<-cM] at wm hL uC pD rG;have m0:bt (rep 32 (ad.int .u8 0)) 0 X=X:=ek (by rw[a2]; rfl);simp[bG,jw,bO,a2,hs,jv,uZ,mb,uA,uB,dJ,m0,<-wm,hL,pD,arX];obtain⟨c,ah⟩:∃ c,c=c8 (dW (hz g k)) :=⟨_,rfl⟩
    rw[<-ah];refine cw g.ops.l.length (fun m af l=>l=(aY.cells 2 [aN g.ids,bM g.ops] ::.cells 1 [.aV] ::.cells 1 [c] ::(rest++[.cells 11 O,.cells 38 T]))/\af 1=.ptr 0 0 2/\af 2=.ptr 1 0 1/\af 4=.ptr 2 0 1/\af 5=.int .i64 k/\af 7=.ptr (rest.length+1+1+1+1) 0 38/\af 8=.bool (m5 g (c6 o x) m)/\af 9=.int .i64 m) ?_ ⟨by simp,by simp,by simp,by simp,by simp,by simp,by simp[m5],by simp⟩;rintro m af l hm ⟨rfl,aL,aT,bp,bf,dh,de,fP⟩;obtain⟨af,rfl⟩:=EK aL aT bp bf dh de fP;clear aL aT bp bf dh de fP;simp[dv];refine g8 (fun ae=>?_) (fun ae=>?_)
    ·simp only[decide_eq_true_eq] at ae;obtain⟨gP,kQ,aok⟩:=bu (l:=g.ops.l) (k:=m) (by omega);obtain⟨gI,wS,aeO⟩:=bu (l:=g.ids.l) (k:=m) (by rw[V.len]; omega);have TC:=ar.ids gI aeO;have c4:IntKind.i64.wrap ((m:Int)+1)=((m+1:Nat) :Int) :=by rw[IntKind.wrap_i64]; omega
     have yz:cd (.au 11) (bM g.ops) (.int .i64 (m:Int))=some (.b0 (a1 gP) 0) :=by simp[bM,kQ]
     have AJ:cd (.au 32) (aN g.ids) (.int .i64 (m:Int))=some (.b0 (aQ gI) 0) :=by simp[aN,wS]
     have j0:(a1 gP).length=11:=rfl;have b4:=cA TC;have kq:=eP gI;have Ge:∀ h,(a1 gP)[3]'h=bA gP.act.kind:=fun _=>rfl
     have KI:∀ h,(a1 gP)[4]'h=.str gP.act.key:=fun _=>rfl
     have KH:∀ h,(a1 gP)[2]'h=cU gP.cl:=fun _=>rfl
     have Sz:=Fz gP;have jx:=VG gP.cl gI (c6 o x) TC iD;have gK:zR g (c6 o x) m=(decide (gP.act.kind=4#8)&&(decide (gP.act.key=o.act.key)&&kW gP.cl gI o.cl x)) :=by
      unfold zR; rw[oR kQ,fJ wS]; rfl
     have gl:=afR g (c6 o x) m;rw[gK] at gl;obtain⟨Q,KG⟩:∃ Q,Q=a1 gP:=⟨_,rfl⟩
     obtain⟨Y,dC⟩:∃ Y,Y=aQ gI:=⟨_,rfl⟩
     rw[<-KG] at yz j0 Ge KI KH;rw[<-dC] at AJ b4 kq jx;rw[<-cM] at jx;by_cases ja:gP.act.kind=4#8
     ·have pF:=Sz.2 ja;rw[decide_eq_true ja,asM] at gl;by_cases gm:gP.act.key=o.act.key
      ·rw[decide_eq_true gm,asM] at gl;simp[yz,AJ,j0,b4,Ge,KI,KH,pF,gm,uC,hL,arX];refine aW jx (by simp[aZ,ad.closed,kq,rG]) ?_;cases gM:kW gP.cl gI o.cl x with
       | true=>
        rw[gM] at gl;simp[c6,gM,c4];refine⟨ae,?_⟩;show m5 g (c6 o x) (m+1)=false;rw[gl]; simp
       | false=>
        rw[gM] at gl;simp[c6,gM,c4];refine⟨ae,?_⟩;show m5 g (c6 o x) m=m5 g (c6 o x) (m+1);rw[gl]; simp
      ·rw[decide_eq_false gm,asN] at gl;simp[yz,AJ,j0,b4,Ge,KI,KH,pF,gm,uC,hL,c4,arX];exact⟨ae,by rw[gl]; simp⟩
     ·rw[decide_eq_false ja,asN] at gl;have pF:¬ (u gP.act.kind:Int)=4:=fun e=>ja (Sz.1 e)
      simp[yz,AJ,j0,b4,Ge,pF,c4,arX];exact⟨ae,by rw[gl]; simp⟩
    ·have i6:m=g.ops.l.length:=by simp at ae; omega
     simp[ae];have ad4:=UV ar V (k:=k) (by omega);have i8:hz g (k+1)=if m5 g (c6 o x) m=true then lw (hz g k) (c6 o x) else hz g k:=by
      show (if _ then _ else _)=_;rw[oR aq,if_pos c5,i6];unfold iX;rw[oR aq,fJ ai]
     have Tx:=VL (dW (hz g k)) (by rw[fM]; exact ad4.1) (by rw[fM]; omega) (c6 o x) yM;rw[fM,<-cM] at Tx;have du:=qa (dW (hz g k));cases T0:m5 g (c6 o x) m with
     | true=>
      rw[T0,if_pos rfl] at i8;have bU:dW (lw (hz g k) (c6 o x))=some (lw (hz g k) (c6 o x)) :=by
       have gj:(lw (hz g k) (c6 o x)).length=(hz g k).length+1:=by unfold lw; rw[ti]
       cases ev:lw (hz g k) (c6 o x) with
       | nil=>rw[ev] at gj; simp at gj
       | cons a r=>rfl
      have K3:=vQ (some (lw (hz g k) (c6 o x)));rw[ah];simp[hL,arX];refine aW Tx (by simp[aZ,ad.closed,du,rG]) ?_;simp[K3,bt,bE];exact⟨h,by rw[i8,bU]⟩
     | false=>
      rw[T0,if_neg (by simp)] at i8;rw[ah];simp[bE];exact⟨h,by rw[i8]⟩
   ·have i8:hz g (k+1)=hz g k:=by show (if _ then _ else _)=_; rw[oR aq,if_neg c5]
    simp[bG,bO,hs,jv,wC,c5,bE,arX];exact⟨h,by rw[i8]⟩
  ·simp[h];have fR:k=g.ops.l.length:=by simp at h; omega
   exact aK (by unfold u9; rw[if_pos aB,aB,fR]) (by simp[ad.closed,aZ,qa])
 ·have lL:u9 g=none:=by unfold u9; rw[if_neg aB]
  rw[lL];simp[aB];refine aW cO (by simp[aZ,ad.closed,cJ,b6]) ?_;simp;exact aK rfl rfl
def jF (a b:bP) :Bool:=kW a.cl a.id b.cl b.id
theorem MN (a b:bP) :jF a b=true<->b.cl.toNat<a.cl.toNat\/(a.cl.toNat=b.cl.toNat/\cu b.id a.id<0) :=by
 unfold jF kW;rw[atZ,decide_eq_true_eq,ar3,decide_eq_true_eq,decide_eq_true_eq];have h1:a.cl=b.cl<->a.cl.toNat=b.cl.toNat:=⟨fun h=>by rw[h],asd⟩
 have ae:0<cu a.id b.id<->cu b.id a.id<0:=by rw[qb a.id b.id]; omega
 rw[h1,ae]
theorem Uh {a b c:bP} (h1:jF a b=true) (ae:jF b c=true) :jF a c=true:=by
 rw[MN] at h1 ae ⊢;rcases h1 with h1 | ⟨h1,al⟩<;>rcases ae with ae | ⟨ae,aE⟩
 ·left; omega
 ·left; omega
 ·left; omega
 ·right; exact⟨by omega,uk _ _ _ aE al⟩
theorem HO (a:bP) :jF a a=false:=by
 cases h:jF a a with
 | false=>rfl
 | true=>rw[MN,pf] at h; omega
theorem MO {a b:bP} (bU:a.id≠b.id) (h:jF a b=false) :jF b a=true:=by
 have h1:¬ jF a b=true:=by rw[h]; simp
 rw[MN] at h1 ⊢;by_cases ae:a.cl.toNat<b.cl.toNat
 ·exact .inl ae
 ·right;have al:¬ b.cl.toNat<a.cl.toNat:=fun e=>h1 (.inl e)
  refine⟨by omega,?_⟩;have aE:¬ cu b.id a.id<0:=fun e=>h1 (.inr ⟨by omega,e⟩)
  have aU:=qb b.id a.id;have bz:cu b.id a.id≠0:=fun e=>bU (rs e).symm
  omega
def q8 (g:bc) (j:Nat) :Prop:=(iU g.ops.l j).act.kind=4#8
def xL (g:bc) (k:Nat) (r:bP) :Prop:=∃ j,j<k/\q8 g j/\r=iX g j/\∀ m,m<k->q8 g m->(iX g m).key=r.key->jF (iX g m) r=false
theorem V3 {g:bc} (V:kB g) {i j:Nat} (ax:i<g.ops.l.length) (aj:j<g.ops.l.length) (h:(iX g i).id=(iX g j).id) :i=j:=by
 obtain⟨x,ai,_⟩:=bu (l:=g.ids.l) (k:=i) (by rw[V.len]; omega);obtain⟨y,ay,_⟩:=bu (l:=g.ids.l) (k:=j) (by rw[V.len]; omega);unfold iX c6 at h;rw[fJ ai,fJ ay] at h;have ae:x=y:=h;subst ae;exact m3 V.ea i j x ai ay
theorem aho {g:bc} {k:Nat} (h:q8 g k) :hA g (k+1)=jd (hA g k) (iX g k) :=by
 show eS (hA g k) (iU g.ops.l k) (b2 g.ids.l k)=_;unfold eS;exact if_pos h
theorem ahm {g:bc} {k:Nat} (h:¬ q8 g k) :hA g (k+1)=hA g k:=by
 show eS (hA g k) (iU g.ops.l k) (b2 g.ids.l k)=_;unfold eS;exact if_neg h
theorem Am {l:List bP} (h:l7 l=true) {a b:bP} (az:a∈l) (ag:b∈l) (hk:a.key=b.key) :a=b:=by
 obtain⟨i,ax⟩:=ar6.1 az;obtain⟨j,aj⟩:=ar6.1 ag;rcases atq i j with h1 | h1 | h1
 ·have:=wd h (d:=j - i - 1) ax (by rw[show i+(j - i - 1)+1=j by omega]; exact aj);rw[hk,vi] at this; cases this
 ·subst h1; rw[ax] at aj; exact Option.some.inj aj
 ·have:=wd h (d:=i - j - 1) aj (by rw[show j+(i - j - 1)+1=i by omega]; exact ax);rw[hk,vi] at this; cases this
theorem Wq {l:List bP} (ar:l7 l=true) (x r:bP) :
  (∀ y∈l,y.key=x.key->jF x y=true->(r∈jd l x<->r=x\/(r∈l/\r.key≠x.key))) ∧
  (∀ y∈l,y.key=x.key->jF x y=false->jd l x=l) ∧
  ((∀ y∈l,y.key≠x.key)->(r∈jd l x<->r=x\/r∈l)) :=by
 have oI:∀ y∈l,y.key=x.key->ju l x.key=true/\l0 l (eV l x.key)=y/\l[eV l x.key]? = some y:=fun y ay hk=>by
  rcases FT ar x.key with ⟨h1,_⟩ | ⟨_,h1⟩
  ·refine⟨h1,?_⟩;unfold ju at h1;rw[ar3,decide_eq_true_eq,decide_eq_true_eq] at h1;obtain⟨z,av,tf⟩:=bu h1.1;have al:=nb av;rw[al] at h1;have:=Am ar tf ay (by rw[h1.2,hk]);subst this;exact⟨al,av⟩
  ·exact absurd ((r2 x.key (l.map bP.key) 0).2 (by rw[<-hk]; exact atG ay)) h1
 refine⟨fun y ay hk am=>?_,fun y ay hk am=>?_,fun dY=>?_⟩
 ·obtain⟨h1,ae,al⟩:=oI y ay hk;unfold jd;rw[if_pos h1,ae,if_pos (show kW x.cl x.id y.cl y.id=true from am)];have aM:=(arY.1 al).1;constructor
  ·intro h;obtain⟨i,ax⟩:=ar6.1 h;by_cases e:eV l x.key=i
   ·rw[<-e,ar9 aM] at ax; exact .inl (Option.some.inj ax).symm
   ·rw[ar7 e] at ax;refine .inr ⟨ar4 ax,fun h2=>e ?_⟩;have:=Am ar (ar4 ax) ay (by rw[h2,hk]);subst this;rcases atq (eV l x.key) i with q | q | q
    ·have:=wd ar (d:=i - eV l x.key - 1) al (by rw[show eV l x.key+(i - eV l x.key - 1)+1=i by omega]; exact ax);rw[vi] at this; cases this
    ·exact q
    ·have:=wd ar (d:=eV l x.key - i - 1) ax (by rw[show i+(eV l x.key - i - 1)+1=eV l x.key by omega]; exact al);rw[vi] at this; cases this
  ·rintro (rfl | ⟨h,h2⟩)
   ·exact ar6.2 ⟨_,ar9 aM⟩
   ·obtain⟨i,ax⟩:=ar6.1 h;refine ar6.2 ⟨i,?_⟩;rw[ar7 (fun e=>by subst e; rw[al] at ax; obtain rfl:=Option.some.inj ax; exact h2 hk)];exact ax
 ·obtain⟨h1,ae,al⟩:=oI y ay hk;have aE:¬ kW x.cl x.id y.cl y.id=true:=by unfold jF at am; rw[am]; simp
  unfold jd;rw[if_pos h1,ae,if_neg aE]
 ·have h1:ju l x.key=false:=by
   cases ae:ju l x.key with
   | false=>rfl
   | true=>
    unfold ju at ae;rw[ar3,decide_eq_true_eq,decide_eq_true_eq] at ae;obtain⟨z,av,tf⟩:=bu ae.1;rw[nb av] at ae;exact absurd ae.2 (dY z tf)
  unfold jd;rw[if_neg (by rw[h1]; simp),Be]
theorem Vt {g:bc} (ar:ei g) (V:kB g) :∀ {k:Nat},k<=g.ops.l.length->(∀ r,r∈hA g k<->xL g k r)/\(∀ m,m<k->q8 g m->∃ r∈hA g k,r.key=(iX g m).key)
 | 0,_=>⟨fun r=>⟨fun h=>(by cases h),fun ⟨j,aj,_⟩=>by omega⟩,fun m hm=>by omega⟩
 | k+1,hk=>by
  obtain⟨dq,ic⟩:=Vt ar V (k:=k) (by omega);have lM:=(Ei ar V (k:=k) (by omega)).1;by_cases ak:q8 g k
  ·rw[aho ak];obtain⟨x,ai⟩:∃ x,x=iX g k:=⟨_,rfl⟩
   rw[<-ai];have gD:=fun r=>Wq lM x r
   have yq:∀ {r},xL g k r->(iX g k).key≠r.key\/jF (iX g k) r=false->xL g (k+1) r:=fun {r} ⟨j,aj,h1,ae,al⟩ h=>⟨j,by omega,h1,ae,fun m hm kP bd=>by
    by_cases e:m=k
    ·rw[e] at bd ⊢; exact h.resolve_left fun aF=>aF bd
    ·exact al m (by omega) kP bd⟩
   have yZ:∀ {r},xL g (k+1) r->r=x\/xL g k r:=fun {r} ⟨j,aj,h1,ae,al⟩=>by
    by_cases e:j=k
    ·subst e; left; rw[ae,ai]
    ·exact .inr ⟨j,by omega,h1,ae,fun m hm kP hk=>al m (by omega) kP hk⟩
   have jy:∀ {r},xL g (k+1) r->x.key=r.key->jF x r=false:=fun {r} ⟨j,aj,h1,ae,al⟩ hk=>by rw[ai]; exact al k (by omega) ak (by rw[<-ai]; exact hk)
   by_cases qw:∃ y∈hA g k,y.key=x.key
   ·obtain⟨y,ay,iR⟩:=qw;have b4:=(dq y).1 ay;cases am:jF x y with
    | true=>
     refine⟨fun r=>?_,fun m hm kP=>?_⟩
     ·rw[(gD r).1 y ay iR am];constructor
      ·rintro (rfl | ⟨h,h2⟩)
       ·refine⟨k,by omega,ak,ai,fun m hm kP hk=>?_⟩;by_cases e:m=k
        ·subst e; rw[<-ai]; exact HO _
        ·cases ev:jF (iX g m) r with
         | false=>rfl
         | true=>
          obtain⟨j,aj,h1,ae,al⟩:=b4;have:=al m (by omega) kP (by rw[hk,iR]);rw[Uh ev am] at this; cases this
       ·exact yq ((dq r).1 h) (.inl (by rw[<-ai]; exact fun e=>h2 e.symm))
      ·intro h;rcases yZ h with e | e
       ·exact .inl e
       ·refine .inr ⟨(dq r).2 e,fun h2=>?_⟩;have h1:=jy h h2.symm;rw[Am lM ((dq r).2 e) ay (by rw[h2,iR]),am] at h1; cases h1
     ·by_cases e:(iX g m).key=x.key
      ·exact⟨x,((gD x).1 y ay iR am).2 (.inl rfl),e.symm⟩
      ·obtain⟨r,aA,h2⟩:=ic m (atW (by omega) fun q=>e (by rw[q,ai])) kP;exact⟨r,((gD r).1 y ay iR am).2 (.inr ⟨aA,by rw[h2]; exact e⟩),h2⟩
    | false=>
     rw[(gD x).2.1 y ay iR am];refine⟨fun r=>⟨fun h=>yq ((dq r).1 h) ?_,fun h=>?_⟩,fun m hm kP=>?_⟩
     ·by_cases h2:r.key=x.key
      ·right;rw[Am lM h ay (by rw[h2,iR]),<-ai]; exact am
      ·exact .inl (by rw[<-ai]; exact fun e=>h2 e.symm)
     ·rcases yZ h with e | e
      ·exfalso;subst e;obtain⟨j,aj,h1,ae,al⟩:=b4;obtain⟨bK,_,_,_,aE⟩:=h;have aU:=aE j (by omega) h1 (by rw[<-ae]; exact iR);rw[<-ae] at aU;by_cases fv:y.id=r.id
       ·rw[ae,ai] at fv;have:=V3 V (by omega) (by omega) fv;omega
       ·have:=MO fv aU;rw[am] at this; cases this
      ·exact (dq r).2 e
     ·by_cases e:m=k
      ·subst e; exact⟨y,ay,by rw[<-ai]; exact iR⟩
      ·exact ic m (by omega) kP
   ·have dY:∀ y∈hA g k,y.key≠x.key:=fun y ay e=>qw ⟨y,ay,e⟩
    refine⟨fun r=>?_,fun m hm kP=>?_⟩
    ·rw[(gD r).2.2 dY];constructor
     ·rintro (rfl | h)
      ·refine⟨k,by omega,ak,ai,fun m hm kP hk=>?_⟩;by_cases e:m=k
       ·subst e; rw[<-ai]; exact HO _
       ·obtain⟨q,bd,uM⟩:=ic m (by omega) kP;exact absurd (by rw[uM,hk]) (dY q bd)
      ·exact yq ((dq r).1 h) (.inl (by rw[<-ai]; exact fun e=>dY r h e.symm))
     ·intro h;rcases yZ h with e | e
      ·exact .inl e
      ·exact .inr ((dq r).2 e)
    ·by_cases e:m=k
     ·subst e; exact⟨x,((gD x).2.2 dY).2 (.inl rfl),by rw[ai]⟩
     ·obtain⟨r,aA,h2⟩:=ic m (by omega) kP;exact⟨r,((gD r).2.2 dY).2 (.inr aA),h2⟩
  ·rw[ahm ak];refine⟨fun r=>?_,fun m hm kP=>ic m (atW (by omega) fun e=>ak (by rw[<-e]; exact kP)) kP⟩;rw[dq];constructor
   ·rintro⟨j,aj,h1,ae,al⟩;exact⟨j,by omega,h1,ae,fun m hm kP hk=>al m (atW (by omega) fun e=>ak (by rw[<-e]; exact kP)) kP hk⟩
   ·rintro⟨j,aj,h1,ae,al⟩;exact⟨j,atW (by omega) fun e=>ak (by rw[<-e]; exact h1),h1,ae,fun m hm kP hk=>al m (by omega) kP hk⟩
theorem HH (g:bc) (r:bP) (n:Nat) :m5 g r n=true<->∀ m,m<n->q8 g m->(iX g m).key=r.key->jF (iX g m) r=false:=by
 unfold m5;rw[decide_eq_true_eq];constructor
 ·intro h m hm ak hk;have h1:=h m hm;unfold zR at h1;rw[decide_eq_true (show (iU g.ops.l m).act.kind=4#8 from ak),decide_eq_true (show (iU g.ops.l m).act.key=r.key from hk),asM,asM] at h1;exact h1
 ·intro h m hm;unfold zR;by_cases ak:(iU g.ops.l m).act.kind=4#8
  ·by_cases hk:(iU g.ops.l m).act.key=r.key
   ·have:=h m hm ak hk;rw[decide_eq_true ak,decide_eq_true hk,asM,asM]; exact this
   ·rw[decide_eq_false hk,asN,Bool.and_false]
  ·rw[decide_eq_false ak,asN]
theorem UW {g:bc} {k:Nat} (h:q8 g k) :hz g (k+1)=if m5 g (iX g k) g.ops.l.length=true then lw (hz g k) (iX g k) else hz g k:=if_pos h
theorem UU {g:bc} {k:Nat} (h:¬ q8 g k) :hz g (k+1)=hz g k:=if_neg h
theorem Na (g:bc) (r:bP) :∀ k,r∈hz g k<->∃ j,j<k/\q8 g j/\r=iX g j/\m5 g r g.ops.l.length=true
 | 0=>⟨fun h=>(by cases h),fun ⟨j,aj,_⟩=>by omega⟩
 | k+1=>by
  have aO:=Na g r k;by_cases ak:q8 g k
  ·rw[UW ak];by_cases am:m5 g (iX g k) g.ops.l.length=true
   ·rw[if_pos am];unfold lw;rw[Be,aO];constructor
    ·rintro (h | ⟨j,aj,h⟩)
     ·exact⟨k,by omega,ak,h,by rw[h]; exact am⟩
     ·exact⟨j,by omega,h⟩
    ·rintro⟨j,aj,h1,ae,al⟩;by_cases e:j=k
     ·left; rw[ae,e]
     ·exact .inr ⟨j,by omega,h1,ae,al⟩
   ·rw[if_neg am,aO];constructor
    ·rintro⟨j,aj,h⟩; exact⟨j,by omega,h⟩
    ·rintro⟨j,aj,h1,ae,al⟩;exact⟨j,atW (by omega) fun e=>am (by rw[<-e,<-ae]; exact al),h1,ae,al⟩
  ·rw[UU ak,aO];constructor
   ·rintro⟨j,aj,h⟩; exact⟨j,by omega,h⟩
   ·rintro⟨j,aj,h1,ae⟩;exact⟨j,atW (by omega) fun e=>ak (by rw[<-e]; exact h1),h1,ae⟩
theorem UX {g:bc} (V:kB g) :∀ {k:Nat},k<=g.ops.l.length->(hz g k).Pairwise fun a b=>j7 a b=true
 | 0,_=>List.Pairwise.nil
 | k+1,hk=>by
  have aO:=UX V (k:=k) (by omega);by_cases ak:q8 g k
  ·rw[UW ak];by_cases am:m5 g (iX g k) g.ops.l.length=true
   ·rw[if_pos am];unfold lw;refine Mu MM aO fun y ay lg=>Ug _ y (fun e=>?_) lg
    obtain⟨j,aj,h1,ae,al⟩:=(Na g y k).1 ay;have q1:=(HH g y _).1 al k (by omega) ak e;have dE:=(HH g _ _).1 am j (by omega) h1 (by rw[<-ae]; exact e.symm);rw[<-ae] at dE;by_cases fv:y.id=(iX g k).id
    ·rw[ae] at fv;have:=V3 V (by omega) (by omega) fv;omega
    ·have:=MO fv dE;rw[q1] at this; cases this
   ·rw[if_neg am]; exact aO
  ·rw[UU ak]; exact aO
theorem ahn {g:bc} (ar:ei g) (V:kB g) :hA g g.ops.l.length=hz g g.ops.l.length:=by
 have h1:=(Vt ar V (ar0 _)).1;have ae:=((F0 _).1 (Ei ar V (ar0 _)).1).2;refine ID (lt:=j7) (fun a=>vi a.key) MM ae (UX V (ar0 _)) fun y=>?_
 rw[h1,Na];unfold xL;constructor
 ·rintro⟨j,aj,al,aE,aU⟩; exact⟨j,aj,al,aE,(HH g y _).2 aU⟩
 ·rintro⟨j,aj,al,aE,aU⟩; exact⟨j,aj,al,aE,(HH g y _).1 aU⟩
theorem agN {g:bc} (ar:ei g) :(od g).l=(u9 g).l:=by
 unfold od u9;by_cases aB:dm g=0
 ·rw[if_pos aB,if_pos aB,fM,fM,ahn ar (kX aB)]
 ·rw[if_neg aB,if_neg aB]
end Op

end Go.cf

/-
  Feeds: Publish.
-/
import Derived.Test.YtidejmkknleijaaGreatDoorHm
set_option linter.unusedVariables false
set_option linter.unusedSimpArgs false
set_option linter.unnecessarySimpa false
namespace Go.bV
open Go Go.Proofs
set_option maxRecDepth 100000
namespace Fd
def j7 (cap a3:Int) (x:Id) (q:b9) :b9:=
 if q.cO=true\/q.dy=true\/a3<q.next then q else if (q.ids.l.length:Int)=cap then { q with dy:=true } else { q with ids:=some (q.ids.l++[x]) }
def l2 (cap:Int) :Int->List b9->List Id->List b9
 | _,qs,[]=>qs
 | a3,qs,x::r=>l2 cap (a3+1) (qs.map (j7 cap a3 x)) r
def pq (f:dB) (ids:List Id) :dB × Int:=
 if dK f≠0 then (jN,dK f) else if 60<(ids.length:Int)\/1000000000<f.a3+ids.length then (jN,4)
 else ({ f with a3:=f.a3+ids.length,cf:=f.cf.map fun qs=>l2 f.cap f.a3 qs ids },0)
def lu (f:b9->b9) (k:Nat) (qs:List b9) :List b9:=(qs.take k).map f++qs.drop k
theorem ak6 (f:b9->b9) (k:Nat) (qs:List b9) :(lu f k qs).length=qs.length:=by
 simp[lu]; omega
theorem ak3 (f:b9->b9) (qs:List b9) :lu f 0 qs=qs:=by simp[lu]
theorem ak4 {f:b9->b9} {k:Nat} {qs:List b9} (h:qs.length<=k) :lu f k qs=qs.map f:=by
 simp[lu,awR h,ayl h]
theorem ak5 {f:b9->b9} {k:Nat} {qs:List b9} {q:b9} (h:qs[k]? = some q) :(lu f k qs)[k]? = some q:=by
 have:=sB h;unfold lu;rw[aw6 (by simp; omega),axv,<-h];congr 1;simp; omega
theorem ak7 {f:b9->b9} {k:Nat} {qs:List b9} {q:b9} (h:qs[k]? = some q) :(lu f k qs).set k (f q)=lu f (k+1) qs:=by
 have ar:=sB h;unfold lu;rw[axS _ _ (by simp; omega),axe,h];have:qs.drop k=q::qs.drop (k+1) :=by rw[axC ar]; congr 1; exact (awQ.1 h).2
 rw[this];have aJ:k - (List.map f (List.take k qs)).length=0:=by simp; omega
 rw[aJ];simp
theorem Pm (cap:Int) :∀ (ids:List Id) (a3:Int) (qs:List b9),(l2 cap a3 qs ids).length=qs.length
 | [],_,_=>rfl
 | _::r,a3,qs=>by rw[l2,Pm cap r]; simp
theorem Pl {cap a3:Int} {x:Id} {q:b9} (h:q.cO=true\/q.dy=true\/a3<q.next) :j7 cap a3 x q=q:=by unfold j7; rw[if_pos h]
theorem Pk {cap a3:Int} {x:Id} {q:b9} (h:¬(q.cO=true\/q.dy=true\/a3<q.next)) (ae:(q.ids.l.length:Int)=cap) :j7 cap a3 x q={ q with dy:=true }:=by unfold j7; rw[if_neg h,if_pos ae]
theorem Pj {cap a3:Int} {x:Id} {q:b9} (h:¬(q.cO=true\/q.dy=true\/a3<q.next)) (ae:(q.ids.l.length:Int)≠cap) :j7 cap a3 x q={ q with ids:=some (q.ids.l++[x]) }:=by unfold j7; rw[if_neg h,if_neg ae]
def alQ (m:Nat) (qs:List b9) :Prop:=∀ q∈qs,ds q.ids/\q.ids.l.length<=1000000+m
theorem amC {cap a3:Int} {x:Id} {q:b9} {m:Nat} (ag:x.length=32) (h:ds q.ids/\q.ids.l.length<=1000000+m) :ds (j7 cap a3 x q).ids/\(j7 cap a3 x q).ids.l.length<=1000000+(m+1) :=by
 unfold j7;split
 ·exact⟨h.1,by omega⟩
 split
 ·exact⟨h.1,by simp; omega⟩
 ·refine⟨fun y aI=>?_,by simp; omega⟩;simp at aI;rcases aI with aI | rfl
  ·exact h.1 y aI
  ·exact ag
theorem aki {c:Nat} {r:ap} {v:U} {s:b8 Id} (h:qa c r v s) :cp (.aq 32) v=some (.int .i64 s.l.length) :=by
 cases s with
 | none=>rw[h]; rfl
 | some xs=>
  rcases h with h | ⟨b,rfl,af⟩
  ·rw[h]; exact lV _
  ·rfl
theorem O6 {vs:List U} {k:Nat} {v:U} (h:∀ w∈vs,vK w) (ao:vK v) :∀ w∈vs.set k v,vK w:=fun w aP=>by
 rcases ays aP with ad | ad
 ·exact h w ad
 ·rw[ad]; exact ao
set_option maxHeartbeats 8000000 in
theorem amD (f:dB) (ids:b8 Id) (aF:okF f) (ay:ds ids) (ec:ids.l.length<=1000000) :bw Tryz.prog GS 35 [fj f,aA ids] (.bq [fj (pq f ids.l).1,.int .i64 (pq f ids.l).2]) :=by
 refine bQ Tryz.checked.mixed bj ?_;apply bn Tryz.func35 []
 try simp only[qg]
 simp[fj];refine a7 (LB f aF.2) (show a4 [fj f]=true by simp[a4,pD]) ?_;have aw:∀ l,eK l (.aH [.int .i64 0,.int .i64 0,.aG]) (fj jN) :=fun l=>.same _ (pD jN)
 have bA:cp (.aq 32) (aA ids)=some (.int .i64 ids.l.length) :=lV _;simp;by_cases ad:dK f=0
 ·have WP:0<=f.a3/\f.a3<=1000000000:=by
   unfold dK at ad
   repeat' split at ad
   all_goals first | omega | cases ad
  have vF:IntKind.i64.wrap (1000000000 - (ids.l.length:Int))=1000000000 - (ids.l.length:Int) :=wrap_i64 (by omega) (by omega);have hK:(60<(ids.l.length:Int)\/1000000000<f.a3+ids.l.length)->pq f ids.l=(jN,4) :=fun h=>by
   unfold pq; rw[if_neg (by simp[ad]),if_pos h]
  by_cases ae:60<(ids.l.length:Int)
  ·simp[ad,bA,vF,ae];rw[hK (.inl ae)];exact v5 (aw _) (.same _ rfl)
  by_cases aj:1000000000 - (ids.l.length:Int)<f.a3
  ·simp[ad,bA,vF,ae,aj];rw[hK (.inr (by omega))];exact v5 (aw _) (.same _ rfl)
  have jj:pq f ids.l=({ f with a3:=f.a3+ids.l.length,cf:=f.cf.map fun qs=>l2 f.cap f.a3 qs ids.l },0) :=by
   unfold pq; rw[if_neg (by simp[ad]),if_neg (by omega)]
  simp[ad,bA,vF,ae,aj];refine api f aF (fun ak x y=>?_) (fun qs ak ox s KC rL Nj=>?_)
  ·simp[bA];refine cl ids.l.length (fun j σ l=>σ 4=.ptr 1 0 3/\σ 7=.ptr 4 0 3/\σ 32=aA ids/\σ 33=.int .i64 ids.l.length/\σ 34=.int .i64 j ∧
    ∃ i5 jM sY rest,l=i5::.cells 3 [.int .i64 0,.int .i64 0,.aG] ::jM::sY::.cells 3 [.int .i64 f.cap,.int .i64 (f.a3+j),.aG] ::rest) ?_ (by simp)
   rintro j σ l ai ⟨bi,ei,o0,jT,jU,i5,jM,sY,rest,rfl⟩;obtain⟨σ,rfl⟩:=k1 bi ei o0 jT jU;clear bi ei o0 jT jU
   try simp only[qg]
   simp;by_cases h:j<ids.l.length
   ·obtain⟨x,ag,c3⟩:=bJ h;have e7:x.length=32:=ay x c3;have bT:cN (.aq 32) (aA ids) (.int .i64 j)=some (.bM (dV x) 0) :=by
     cases aT:ids with
     | none=>rw[aT] at ag; simp at ag
     | some xs=>rw[aT] at ag; simp at ag; simp[aA,p2,ag]
    have sm:=gw (cs:=dV s3) (vs:=dV x) (by rw[jB e7]; rfl);rw[QJ] at sm;have NS:IntKind.i64.wrap ((j:Int)+1)=j+1:=wrap_i64 (by omega) (by omega);have zI:IntKind.i64.wrap (f.a3+(j:Int)+1)=f.a3+j+1:=wrap_i64 (by omega) (by omega);simp[h,bT,jB e7,awR,sm];refine cl 0 (fun k σ l=>σ 4=.ptr 1 0 3/\σ 7=.ptr 4 0 3/\σ 32=aA ids/\σ 33=.int .i64 ids.l.length/\σ 34=.int .i64 j/\σ 40=.int .i64 0/\σ 41=.int .i64 k ∧
     ∃ rest,l=i5::.cells 3 [.int .i64 0,.int .i64 0,.aG] ::jM::sY::.cells 3 [.int .i64 f.cap,.int .i64 (f.a3+j),.aG] ::rest) ?_ (by simp)
    rintro k σ l ar ⟨bi,ei,o0,jT,jU,u2,u3,avV,rfl⟩;obtain⟨σ,rfl⟩:=Qr bi ei o0 jT jU u2 u3;clear bi ei o0 jT jU u2 u3;obtain rfl:k=0:=by omega
    try simp only[qg]
    simp[h,NS,zI];omega
   ·simp[h];have et:j=ids.l.length:=by omega
    rw[jj,et,ak];have o2:=CF (l:=i5::aV.cells 3 [.int .i64 f.cap,.int .i64 (f.a3+ids.l.length),.aG] ::jM::sY::aV.cells 3 [.int .i64 f.cap,.int .i64 (f.a3+ids.l.length),.aG] ::rest) (f:={ f with a3:=f.a3+ids.l.length,cf:=none }) (v:=.aG) (.same _ rfl);exact v5 o2 (.same _ rfl)
  ·replace rL:i7 2 ox [] s KC qs:=rL
   have q0:f.cf.l=qs:=by rw[ak]; rfl
   obtain⟨t,aX⟩:∃ t,t=ox.length:=⟨_,rfl⟩
   obtain⟨n,aC⟩:∃ n,n=qs.length:=⟨_,rfl⟩
   have pS:n<=1000000:=by rw[aC,<-q0]; exact aF.2
   simp[bA];rw[<-aX,<-aC];refine cl ids.l.length (fun j σ l=>σ 4=.ptr 1 0 3/\σ 7=.ptr (t+2) 0 3/\σ 32=aA ids/\σ 33=.int .i64 ids.l.length/\σ 34=.int .i64 j ∧
    ∃ i5 rest vs rr,l=i5::.cells 3 [.int .i64 0,.int .i64 0,.aG] ::rest/\rest[t]? = some (.cells 3 [.int .i64 f.cap,.int .i64 (f.a3+j),.aq 4 (s+2) 0 n n (n*4)]) ∧
     i7 2 rest [t] s vs rr/\(∀ v∈vs,vK v)/\rr.length=n/\alQ j rr/\l2 f.cap (f.a3+j) rr (ids.l.drop j)=l2 f.cap f.a3 qs ids.l) ?_ ?_
   ·rintro j σ l ai ⟨bi,ei,o0,jT,jU,i5,rest,vs,rr,rfl,ax,N,gC,IM,cM,au⟩;obtain⟨σ,rfl⟩:=k1 bi ei o0 jT jU;clear bi ei o0 jT jU
    try simp only[qg]
    simp;by_cases h:j<ids.l.length
    ·obtain⟨x,ag,c3⟩:=bJ h;have e7:x.length=32:=ay x c3;have bT:cN (.aq 32) (aA ids) (.int .i64 j)=some (.bM (dV x) 0) :=by
      cases aT:ids with
      | none=>rw[aT] at ag; simp at ag
      | some xs=>rw[aT] at ag; simp at ag; simp[aA,p2,ag]
     have sm:=gw (cs:=dV s3) (vs:=dV x) (by rw[jB e7]; rfl);rw[QJ] at sm;have ln:=cd ax;have Iy:∀ X:aV,(rest++[X])[t]? = some (.cells 3 [.int .i64 f.cap,.int .i64 (f.a3+j),.aq 4 (s+2) 0 n n (n*4)]) :=fun X=>by rw[awS ln]; exact ax
     obtain⟨p,fv⟩:∃ p,p=rest.length:=⟨_,rfl⟩
     have pV:t≠p:=by omega
     simp[h,bT,jB e7,awR,sm,Iy];rw[<-fv];refine cl n (fun k σ l=>σ 4=.ptr 1 0 3/\σ 7=.ptr (t+2) 0 3/\σ 9=.ptr (p+2) 0 32/\σ 32=aA ids/\σ 33=.int .i64 ids.l.length/\σ 34=.int .i64 j/\σ 40=.int .i64 n/\σ 41=.int .i64 k ∧
      ∃ r vs,l=i5::.cells 3 [.int .i64 0,.int .i64 0,.aG] ::r/\r[t]? = some (.cells 3 [.int .i64 f.cap,.int .i64 (f.a3+j),.aq 4 (s+2) 0 n n (n*4)]) ∧
       r[p]? = some (.cells 32 (dV x))/\i7 2 r [t,p] s vs (lu (j7 f.cap (f.a3+j) x) k rr)/\∀ v∈vs,vK v) ?_ ?_
     ·rintro k σ l ar ⟨bi,ei,g4,o0,jT,jU,u2,u3,r,qn,rfl,hX,pc,oP,pU⟩;obtain⟨σ,rfl⟩:=Kz bi ei g4 o0 jT jU u2 u3;clear bi ei g4 o0 jT jU u2 u3
      try simp only[qg]
      simp;by_cases h' : k<n
      ·obtain⟨q,gN,sj⟩:=bJ (show k<rr.length by omega);have aN:=ak5 (f:=j7 f.cap (f.a3+j) x) gN;have IV:=ak7 (f:=j7 f.cap (f.a3+j) x) gN;have n4:(lu (j7 f.cap (f.a3+j) x) k rr).length=n:=by rw[ak6,IM]
       obtain⟨Q,jf⟩:∃ Q,Q=lu (j7 f.cap (f.a3+j) x) k rr:=⟨_,rfl⟩
       rw[<-jf] at aN IV oP n4;obtain⟨v,ao⟩:∃ v,qn[k]? = some v:=⟨qn[k]'(by rw[oP.len,n4]; exact h'),awT _⟩
       have vv:=pU v (awY ao);have Wp:=oP.own k v q ao aN;have og:=aki Wp;have vx:=cM q sj;obtain⟨d0,d1,d2,d3,_⟩:=ZQ ao aN;have b0:=oP.row;rw[n4] at b0;have dD:IntKind.i64.wrap ((k:Int)+1)=k+1:=wrap_i64 (by omega) (by omega);have cT:k*4+1+1<=n*4:=by omega
       have dw:k*4+2+1<=n*4:=by omega
       have xn:(q.cO=true\/q.dy=true\/f.a3+j<q.next)->lu (j7 f.cap (f.a3+j) x) (k+1) rr=Q:=fun h=>by
        rw[<-IV,Pl h,Z8 aN]
       have ol:t≠s:=fun h=>oP.ts (by simp[h])
       have vw:p≠s:=fun h=>oP.ts (by simp[h])
       cases am:q.cO
       case true=>
        rw[am] at d3;simp[h',hX,b0,d0,d2,d3,dD];exact⟨pc,qn,by rw[xn (.inl am)]; exact oP,pU⟩
       case false=>
       rw[am] at d3;cases al:q.dy
       case true=>
        rw[al] at d2;simp[h',hX,b0,d0,d2,d3,dD];exact⟨pc,qn,by rw[xn (.inr (.inl al))]; exact oP,pU⟩
       case false=>
       rw[al] at d2;by_cases hw:f.a3+j<q.next
       ·simp[h',hX,b0,d0,d2,d3,dD,hw];exact⟨pc,qn,by rw[xn (.inr (.inr hw))]; exact oP,pU⟩
       have ig:¬(q.cO=true\/q.dy=true\/f.a3+j<q.next) :=by simp[am,al]; omega
       by_cases cZ:(q.ids.l.length:Int)=f.cap
       ·simp[h',hX,b0,d0,d1,d2,d3,dD,hw,og,cZ,dw];rw[Gg ao aN 2 [.bool true] v { q with dy:=true } (by simp) (by simp[nK])];have bE:∀ (X:aV) (b:Nat),b≠s->(r.set s X)[b]? = r[b]?:=fun X b af=>by rw[aw4,if_neg (fun h=>af h.symm)]
        refine⟨by rw[bE _ _ ol]; exact hX,by rw[bE _ _ vw]; exact pc,qn.set k v,?_,O6 pU vv⟩;rw[<-IV,Pk ig cZ];exact oP.oL ao aN (by rw[n4,aw4,if_pos rfl,if_pos (cd b0)]) (fun b _ af _=>bE _ b af) (Wp.b1 fun b af=>bE _ _ fun h=>(oP.pG k v _ ao af).1 (by rw[h])) (fun b af=>.inl af)
       simp[h',hX,pc,b0,d0,d1,d2,d3,dD,hw,og,cZ,cT,jB e7,awR,sm];have Wt:lu (j7 f.cap (f.a3+j) x) (k+1) rr=Q.set k { q with ids:=some (q.ids.l++[x]) }:=by rw[<-IV,Pj ig cZ]
       have yG:=oP.b1 (r':=r++[.cells 32 (dV x)]) (fun b af _=>awS af);have EF:(r++[aV.cells 32 (dV x)])[t]? = some (.cells 3 [.int .i64 f.cap,.int .i64 (f.a3+j),.aq 4 (s+2) 0 n n (n*4)]) :=by rw[awS (cd hX)]; exact hX
       have E2:(r++[aV.cells 32 (dV x)])[p]? = some (.cells 32 (dV x)) :=by rw[awS (cd pc)]; exact pc
       have M6:(r++[aV.cells 32 (dV x)])[r.length]? = some (.cells 32 (dV x)) :=by simp
       obtain⟨dj,mm⟩:∃ dj,dj=r++[aV.cells 32 (dV x)] :=⟨_,rfl⟩
       have ra:dj.length=r.length+1:=by rw[mm]; simp
       rw[<-mm] at yG EF E2 M6 ⊢;have vA:=yG.row;rw[n4] at vA;have I0:=yG.own k v q ao aN;have hx:List.take 32 (dV x)=dV x:=awR (by rw[jB e7]; omega);have bW:=cd vA;cases kO:q.ids with
       | none=>
        rw[kO] at I0;obtain rfl:v=.aG:=I0;rw[Re (xs:=[dV x]) (by simp[de,M6,hx]) (by omega) (by omega) (by simp) (by simp[ci])];simp;refine cU.b1 ?_;have NB:∀ X:aV,(dj++[X])[s]? = some (.cells (n*4) (h3 qn Q).flatten) :=fun X=>by rw[awS bW]; exact vA
        simp[h',NB,cT,dD];rw[Gg ao aN 1 [_] (.aq 32 (dj.length+1+1) 0 1 1 32) { q with ids:=some [x] } (by simp) (by simp[nK])];have bE:∀ (X Y:aV) (b:Nat),b<dj.length->b≠s->((dj++[Y]).set s X)[b]? = dj[b]?:=fun X Y b af ld=>by rw[aw4,if_neg (fun h=>ld h.symm),awS af]
        refine⟨by rw[bE _ _ _ (cd EF) ol]; exact EF,by rw[bE _ _ _ (cd E2) vw]; exact E2,qn.set k (.aq 32 (dj.length+1+1) 0 1 1 32),?_,O6 pU trivial⟩;rw[Wt,kO];refine yG.oL ao aN (by rw[n4,aw4,if_pos rfl,if_pos (by simp; omega)]; rfl) (fun b af ld _=>bE _ _ b af ld) (.inr ⟨dj.length,rfl,?_⟩) (fun b af=>.inr ?_)
        ·rw[aw4,if_neg (by omega)]; simp
        ·cases af;refine⟨by omega,by omega,fun u aM=>?_⟩;have ad:=cd EF;have ae:=cd E2;simp at aM;omega
       | some bK=>
        rw[kO] at I0;rcases I0 with h | ⟨b,rfl,af⟩
        ·rw[h] at vv; exact vv.elim
        rw[kO] at vx;have fI:bK.length<=1000000+j:=vx.2;rw[Dk (es:=bK.map dV) (xs:=[dV x]) (m:=1) (by simpa using af) (by simp[de,M6,hx]) (by simp) rfl (by simp) (fun e am=>by
         obtain⟨y,aI,rfl⟩:=axi.1 am; exact jB (vx.1 y aI)) (by omega) (by omega) (by simp[ci]; omega)]
        simp;refine cU.b1 ?_;have ld:b≠s:=fun h=>(yG.pG k _ _ ao rfl).1 (by rw[h])
        have NB:∀ X:aV,(dj.set b X)[s]? = some (.cells (n*4) (h3 qn Q).flatten) :=fun X=>by rw[aw4,if_neg ld]; exact vA
        simp[h',NB,cT,dD];rw[Gg ao aN 1 [_] (.aq 32 (b+2) 0 (bK.length+1) (bK.length+1) ((bK.length+1)*32)) { q with ids:=some (bK++[x]) } (by simp) (by simp[nK])];have bE:∀ (X Y:aV) (aZ:Nat),aZ≠b->aZ≠s->((dj.set b Y).set s X)[aZ]? = dj[aZ]?:=fun X Y aZ af ld=>by rw[aw4,if_neg (fun h=>ld h.symm),aw4,if_neg (fun h=>af h.symm)]
        have Vp:=(yG.pG k _ _ ao rfl).2;have Eu:t≠b:=fun h=>Vp t (by simp) (by rw[h])
        have BB:p≠b:=fun h=>Vp p (by simp) (by rw[h])
        refine⟨by rw[bE _ _ _ Eu ol]; exact EF,by rw[bE _ _ _ BB vw]; exact E2,qn.set k (.aq 32 (b+2) 0 (bK.length+1) (bK.length+1) ((bK.length+1)*32)),?_,O6 pU trivial⟩;rw[Wt,kO];refine yG.oL ao aN (by rw[n4,aw4,if_pos rfl,if_pos (by simp; omega)]; rfl) (fun aZ bN ld bY=>bE _ _ aZ (fun h=>bY (by rw[h]; rfl)) ld) (.inr ⟨b,by simp,?_⟩) (fun aZ bN=>.inl (by cases bN; rfl));rw[aw4,if_neg (fun h=>ld h.symm),aw4,if_pos rfl,if_pos (cd af)];simp
      ·have NS:IntKind.i64.wrap ((j:Int)+1)=j+1:=wrap_i64 (by omega) (by omega);have zI:IntKind.i64.wrap (f.a3+(j:Int)+1)=f.a3+j+1:=wrap_i64 (by omega) (by omega);simp[h',hX,NS,zI];have e6:k=n:=by omega
       rw[ak4 (by omega)] at oP;have bE:∀ (X:aV) (b:Nat),b∉[t,p]->(r.set t X)[b]? = r[b]?:=fun X b af=>by rw[aw4,if_neg (by simp at af; omega)]
       refine⟨h,_,_,⟨rfl,rfl⟩,by rw[aw4,if_pos rfl,if_pos (cd hX),Int.add_assoc],qn,_,(oP.b1 fun b _ af=>bE _ b af).to (fun u aM=>.inl (by simp at aM ⊢; exact .inl aM)),pU,by simp[IM],fun q aN=>?_,?_⟩
       ·obtain⟨q',gN,rfl⟩:=axi.1 aN;exact amC e7 (cM q' gN)
       ·rw[<-au,axC h,(awQ.1 ag).2,l2,Int.add_assoc]
     ·simp;refine⟨Iy _,by rw[fv]; simp,vs,?_,gC⟩;rw[ak3];exact (N.to (T':=[t,p]) (fun b af=>by simp at af ⊢; omega)).b1 (fun b af _=>awS af)
    ·simp[h,ax];have et:j=ids.l.length:=by omega
     rw[jj];rw[et,List.drop_length] at au;have mS:rr=l2 f.cap f.a3 qs ids.l:=au;rw[et];have az:=N.rd (L:=[i5,aV.cells 3 [.int .i64 f.cap,.int .i64 (f.a3+ids.l.length),.aq 4 (s+2) 0 n n (n*4)]]) rfl (fun q aN=>(cM q aN).1) n (n*4) (by rw[IM]);rw[IM,mS] at az;have o2:=CF (f:={ f with a3:=f.a3+ids.l.length,cf:=some (l2 f.cap f.a3 qs ids.l) }) az;rw[ak];exact v5 o2 (.same _ rfl)
   ·simp;refine⟨_,_,⟨rfl,rfl⟩,by rw[aX]; simp,KC,qs,?_,Nj,aC.symm,fun q aN=>?_,rfl⟩
    ·exact (rL.to (T':=[t]) (fun b af=>by simp at af ⊢; omega)).b1 (fun b af _=>awS af)
    ·exact aF.1 q (by rw[q0]; exact aN)
 ·simp[ad];unfold pq;rw[if_pos ad];exact v5 (aw _) (.same _ rfl)
theorem i7.one {c:Nat} {r:ap} {s:Nat} {v:U} {q:b9} (b0:r[s]? = some (.cells 4 (nK v q))) (gC:qa c r v q.ids) (af:∀ b,qD v=some b->b≠s+c) :i7 c r [] s [v] [q] :=by
 refine⟨rfl,by simpa [h3] using b0,fun i w p aP au=>?_,fun i w b aP jh=>?_,fun i j w w' b hf aP rc _=>?_,by simp⟩
 ·cases i with
  | zero=>simp at aP au; subst aP au; exact gC
  | succ i=>simp at aP
 ·cases i with
  | zero=>simp at aP; subst aP; exact⟨af b jh,fun t aX=>by cases aX⟩
  | succ i=>simp at aP
 ·have ad:=sB aP;have ae:=sB rc;simp at ad ae;omega
theorem i7.push {c:Nat} {r r' : ap} {T:List Nat} {s:Nat} {vs:List U} {qs:List b9} (N:i7 c r T s vs qs) {v:U} {q:b9} (b0:r'[s]? = some (.cells ((qs.length+1)*4) (h3 (vs++[v]) (qs++[q])).flatten))
  (ar:∀ b,b<r.length->b≠s->r'[b]? = r[b]?) (gC:qa c r' v q.ids) (af:∀ b,qD v=some b->r.length+c<=b/\b≠s+c/\∀ t∈T,b≠t+c) :i7 c r' T s (vs++[v]) (qs++[q]) :=by
 have key:∀ i w,(vs++[v])[i]? = some w->vs[i]? = some w\/(i=vs.length/\w=v) :=fun i w h=>by
  by_cases ay:i<vs.length
  ·rw[awS ay] at h; exact .inl h
  ·have:=sB h;simp at this;obtain rfl:i=vs.length:=by omega
   simp at h;exact .inr ⟨rfl,h.symm⟩
 have old:∀ i w b,vs[i]? = some w->qD w=some b->b<r.length+c:=fun i w b aP jh=>by
  obtain⟨p,au⟩:∃ p,qs[i]? = some p:=⟨qs[i]'(by rw[<-N.len]; exact sB aP),awT _⟩
  obtain⟨aZ,ae,aj⟩:=(N.own i w p aP au).blk jh;omega
 refine⟨by simp[N.len],by simpa using b0,fun i w p aP au=>?_,fun i w b aP jh=>?_,fun i j w w' b hf aP rc jh=>?_,N.ts⟩
 ·rcases key i w aP with ad | ⟨rfl,rfl⟩
  ·have ay:=sB ad;rw[awS (by rw[<-N.len]; exact ay)] at au;have av:=N.own i w p ad au;refine av.b1 fun b jh=>?_
   obtain⟨aZ,ae,aj⟩:=av.blk jh;obtain rfl:aZ=b:=by omega
   exact ar aZ aj fun h=>(N.pG i w _ ad jh).1 (by rw[h])
  ·rw[N.len] at au;simp at au;subst au;exact gC
 ·rcases key i w aP with ad | ⟨rfl,rfl⟩
  ·exact N.pG i w b ad jh
  ·exact (af b jh).2
 ·rcases key i w aP with ad | ⟨rfl,rfl⟩<;>rcases key j w' rc with ae | ⟨rfl,rfl⟩
  ·exact N.apart i j w w' b hf ad ae jh
  ·intro h;have aj:=old i w b ad jh;have aD:=(af b h).1;omega
  ·intro h;have aj:=old j w' b ae h;have aD:=(af b jh).1;omega
  ·exact absurd rfl hf
def JM (m:Nat) (q:b9) :Prop:=ds q.ids/\q.ids.l.length<=m
def FS (m:Nat) (f:dB) :Prop:=(∀ q∈f.cf.l,JM m q)/\f.cf.l.length<=m
theorem JM.mono {m n:Nat} {q:b9} (h:JM m q) (hm:m<=n) :JM n q:=⟨h.1,axy h.2 hm⟩
theorem FS.mono {m n:Nat} {f:dB} (h:FS m f) (hm:m<=n) :FS n f:=⟨fun q aN=>(h.1 q aN).mono hm,axy h.2 hm⟩
theorem FS.ok {m:Nat} {f:dB} (h:FS m f) (hm:m<=1000000) :okF f:=
 ⟨fun q aN=>⟨(h.1 q aN).1,axy (h.1 q aN).2 hm⟩,axy h.2 hm⟩
theorem aaY (r:List U) (h:dv Tryz.prog [61] r) :∃ x:Id,r=dV x/\x.length=32:=by
 have ad:=Qm (e:=5) (n:=32) (by kernel_rfl) h;obtain⟨x,cs',rfl,ag,ae⟩:=aaZ (k:=.u8) (by kernel_rfl) 32 ad;rw[As ae,axr];exact⟨x,rfl,ag⟩
theorem Ar {ts:List TypeId} {cs:List U} (h:dv Tryz.prog (23::ts) cs) :∃ (s:b8 Id) (cs' : List U),cs=aA s::cs'/\s.l.length<=maxLen/\ds s/\dv Tryz.prog ts cs':=
 Gy (e:=61) (by kernel_rfl) (by kernel_rfl) aaY h
theorem apk {ts:List TypeId} {cs:List U} (h:js Tryz.prog (23::ts) cs) :∃ (s:b8 Id) (cs' : List U),cs=aA s::cs'/\s.l.length<=maxLen/\ds s/\js Tryz.prog ts cs':=by
 obtain⟨c,cs',rfl,ad,ae⟩:=CX h;obtain⟨s,qI,ak,al,ay,aj⟩:=Ar (Gx (by kernel_rfl) ad);cases ak;exact⟨s,cs',rfl,al,ay,ae⟩
theorem Ql {ts:List TypeId} {cs:List U} (h:js Tryz.prog (3::ts) cs) :∃ (n:Int) (cs' : List U),cs=.int .i64 n::cs'/\IntKind.i64.min<=n/\n<=IntKind.i64.max/\js Tryz.prog ts cs':=by
 obtain⟨c,cs',rfl,ad,ae⟩:=CX h;obtain⟨n,qI,ak,al,ay,aj⟩:=uw (k:=.i64) (by kernel_rfl) (Gx (by kernel_rfl) ad);cases ak;exact⟨n,cs',rfl,al,ay,ae⟩
def lF (cap a3:Int) (q:b9) :Prop:=
 0<=q.next/\q.next<=1000000000/\(q.ids.l.length:Int)<=cap ∧
 (q.cO=true->q.ids.l=[]/\q.dy=false)/\(q.cO=false->q.dy=true->q.next+q.ids.l.length<=a3) ∧
 (q.cO=false->q.dy=false->q.next+q.ids.l.length=a3\/(q.ids.l=[]/\a3<q.next))
theorem Yr (f:dB) (q:b9) :lx f q=true<->lF f.cap f.a3 q:=by
 unfold lx lF;by_cases ad:q.next<0
 ·simp[ad]; omega
 by_cases ae:1000000000<q.next
 ·simp[ad,ae]; omega
 by_cases aj:f.cap<(q.ids.l.length:Int)
 ·simp[ad,ae,aj]; omega
 by_cases aC:q.ids.l=[]
 ·rw[aC] at aj ⊢;have k9:¬f.cap<0:=by simpa using aj
  cases aD:q.cO<;>cases a2:q.dy<;>simp[ad,ae,k9]<;>omega
 ·cases aD:q.cO<;>cases a2:q.dy<;>simp[ad,ae,aj,aC]<;>omega
structure ace (f:dB) :Prop where
 bS:1<=f.cap
 Lx:f.cap<=8
 v0:0<=f.a3
 v9:f.a3<=1000000000
 len:f.cf.l.length<=60
 live:f.live<=4
 qs:∀ q∈f.cf.l,lF f.cap f.a3 q
theorem uQ (f:dB) :dK f=0<->ace f:=by
 unfold dK;constructor
 ·intro h;have dE:rp f=true:=by
   repeat' split at h
   all_goals first | assumption | (exfalso; omega)
  have aN:∀ q∈f.cf.l,lF f.cap f.a3 q:=fun q aN=>by
   unfold rp at dE;rw[axx] at dE;exact (Yr f q).1 (dE q aN)
  repeat' split at h
  all_goals first | (exfalso; omega) | skip
  exact⟨by omega,by omega,by omega,by omega,by omega,by omega,aN⟩
 ·rintro⟨a,b,c,d,e,g,aN⟩;have dE:rp f=true:=by
   unfold rp;rw[axx];exact fun q h=>(Yr f q).2 (aN q h)
  rw[if_neg (by omega),if_neg (by omega),if_neg (by omega),if_neg (by omega),if_neg (by omega),if_neg (by omega),if_pos dE]
theorem lF.amA {cap a3:Int} {q:b9} (h:lF cap a3 q) (ah:1<=cap) (x:Id) :lF cap (a3+1) (j7 cap a3 x q) :=by
 obtain⟨ad,ae,aj,aD,a2,bv⟩:=h;by_cases ak:q.cO=true\/q.dy=true\/a3<q.next
 ·rw[Pl ak];refine⟨ad,ae,aj,aD,fun a b=>by have:=a2 a b; omega,fun a b=>?_⟩;rcases bv a b with h | h
  ·rcases ak with e | e | e
   ·rw[a] at e; cases e
   ·rw[b] at e; cases e
   ·omega
  ·rcases Int.lt_or_le (a3+1) q.next with e | e
   ·exact .inr ⟨h.1,e⟩
   ·refine .inl ?_;have:q.ids.l.length=0:=by rw[h.1]; rfl
    omega
 ·have nt:q.cO=false:=by cases am:q.cO<;>simp_all
  have EQ:q.dy=false:=by cases am:q.dy<;>simp_all
  have hw:¬a3<q.next:=fun e=>ak (.inr (.inr e))
  have heq:q.next+q.ids.l.length=a3:=by
   rcases bv nt EQ with e | e
   ·exact e
   ·exact absurd e.2 hw
  by_cases cZ:(q.ids.l.length:Int)=cap
  ·rw[Pk ak cZ];refine⟨ad,ae,aj,fun a=>?_,fun _ _=>?_,fun _ a=>by cases a⟩
   ·rw[nt] at a; cases a
   ·show q.next+(q.ids.l.length:Int)<=a3+1
    omega
  ·rw[Pj ak cZ];refine⟨ad,ae,?_,fun a=>?_,fun _ a=>?_,fun _ _=>.inl ?_⟩
   ·show ((q.ids.l++[x]).length:Int)<=cap;simp; omega
   ·rw[nt] at a; cases a
   ·rw[EQ] at a; cases a
   ·show q.next+((q.ids.l++[x]).length:Int)=a3+1
    simp; omega
theorem amB (cap a3:Int) (x:Id) (q:b9) :(j7 cap a3 x q).cO=q.cO:=by
 unfold j7
 repeat' split
 all_goals rfl
theorem akl {g:b9->b9} (ax:∀ q,(g q).cO=q.cO) (qs:List b9) :ks (qs.map g)=ks qs:=by
 unfold ks;rw[List.filter_map,aw1];congr 2;funext q;simp[ax]
theorem Y8 (cap:Int) (ah:1<=cap) :∀ (ids:List Id) (a3:Int) (qs:List b9),(∀ q∈qs,lF cap a3 q)->(∀ q∈l2 cap a3 qs ids,lF cap (a3+ids.length) q)/\ks (l2 cap a3 qs ids)=ks qs
 | [],a3,qs,h=>⟨by simpa [l2] using h,rfl⟩
 | x::r,a3,qs,h=>by
  have:=Y8 cap ah r (a3+1) (qs.map (j7 cap a3 x)) (fun q aN=>by
   obtain⟨p,au,rfl⟩:=axi.1 aN;exact (h p au).amA ah x)
  refine⟨fun q aN=>?_,?_⟩
  ·have ad:=this.1 q aN;rw[show a3+((x::r).length:Int)=a3+1+r.length by simp; omega];exact ad
  ·rw[l2,this.2,akl (amB cap a3 x)]
end Fd

end Go.bV
/-
 Feeds: validity is kept.
-/
namespace Go.bV
open Go Go.Proofs
set_option maxRecDepth 100000
namespace Fd
theorem Y7 {f:dB} (h:dK f=0) {ids:List Id} (ad:ids.length<=60) (ae:f.a3+ids.length<=1000000000) :
  pq f ids=({ f with a3:=f.a3+ids.length,cf:=f.cf.map fun qs=>l2 f.cap f.a3 qs ids },0) :=by
 unfold pq; rw[if_neg (by simp[h]),if_neg (by omega)]
theorem J1 (f:dB) (v:Int) (ids:List Id) :({ f with a3:=v,cf:=f.cf.map fun qs=>l2 f.cap f.a3 qs ids }:dB).cf.l=l2 f.cap f.a3 f.cf.l ids:=by
 cases ak:f.cf with
 | none=>
  show ([] :List b9)=l2 f.cap f.a3 [] ids;exact (axF.1 (by rw[Pm]; rfl)).symm
 | some qs=>rfl
theorem apS {f:dB} (h:dK f=0) {ids:List Id} (ad:ids.length<=60) (ae:f.a3+ids.length<=1000000000) :dK (pq f ids).1=0:=by
 rw[Y7 h ad ae];have V:=(uQ f).1 h;obtain⟨iA,i0⟩:=Y8 f.cap V.bS ids f.a3 f.cf.l V.qs;have ao:=V.live;refine (uQ _).2 ⟨V.bS,V.Lx,?_,ae,?_,?_,?_⟩
 ·have:=V.v0;show 0<=f.a3+(ids.length:Int)
  omega
 ·rw[J1,Pm]; exact V.len
 ·unfold dB.live;rw[J1,i0]; exact ao
 ·rw[J1]; exact iA
theorem akm {qs:List b9} {k:Nat} {q p:b9} (aN:qs[k]? = some q) (h:q.cO=true->p.cO=true) :ks (qs.set k p)<=ks qs:=by
 induction qs generalizing k with
 | nil=>simp at aN
 | cons a l aR=>
  cases k with
  | zero=>
   simp at aN;subst aN;simp only[ayA,ks,List.filter_cons];cases aE:a.cO<;>cases au:p.cO<;>simp_all
  | succ k=>
   simp at aN;have:=aR aN;simp only[azb,ks,List.filter_cons] at this ⊢;split<;>simp<;>omega
theorem abb {f:dB} (h:dK f=0) {k:Nat} {q p:b9} (aN:f.cf.l[k]? = some q) (am:q.cO=true->p.cO=true) (au:lF f.cap f.a3 p) :dK (Aj f k p)=0:=by
 have V:=(uQ f).1 h;refine (uQ _).2 ⟨V.bS,V.Lx,V.v0,V.v9,?_,?_,fun r az=>?_⟩
 ·show (f.cf.l.set k p).length<=60;rw[azR]; exact V.len
 ·show ks (f.cf.l.set k p)<=4;exact axy (akm aN am) V.live
 ·rcases ays (show r∈f.cf.l.set k p from az) with ad | ad
  ·exact V.qs r ad
  ·rw[ad]; exact au
theorem lF.mE {cap a3:Int} {q:b9} {x:Id} {r:List Id} (h:lF cap a3 q) (ao:a3<=1000000000) (ay:q.ids.l=x::r) (am:q.cO=false) :lF cap a3 { q with next:=q.next+1,ids:=some r }:=by
 obtain⟨ad,ae,aj,aD,a2,bv⟩:=h;rw[ay] at aj a2 bv;simp at aj a2 bv;have af:q.next+1+(r.length:Int)<=a3:=by
  cases al:q.dy
  ·have:=bv am al; omega
  ·have:=a2 am al; omega
 refine⟨?_,?_,?_,fun a=>?_,fun _ a=>?_,fun _ a=>.inl ?_⟩
 ·show 0<=q.next+1; omega
 ·show q.next+1<=1000000000; omega
 ·show (r.length:Int)<=cap; omega
 ·rw[am] at a; cases a
 ·show q.next+1+(r.length:Int)<=a3; omega
 ·show q.next+1+(r.length:Int)=a3
  have:=bv am a; omega
theorem lF.Oy {cap a3:Int} {q:b9} (h:lF cap a3 q) (ay:q.ids.l=[]) :lF cap a3 { q with dy:=false,cO:=true }:=by
 obtain⟨ad,ae,aj,_⟩:=h;exact⟨ad,ae,aj,fun _=>⟨ay,rfl⟩,fun a=>(by cases a),fun a=>(by cases a)⟩
theorem lF.sG {cap a3:Int} {q:b9} (h:lF cap a3 q) (ah:1<=cap) :lF cap a3 (aeq q) :=by
 obtain⟨ad,ae,aj,_⟩:=h;exact⟨ad,ae,by show ((0:Nat) :Int)<=cap; omega,fun _=>⟨rfl,rfl⟩,fun a=>(by cases a),fun a=>(by cases a)⟩
theorem apT {f:dB} (h:dK f=0) {n:Int} (aC:(sub f n).2.2=0) :dK (sub f n).1=0:=by
 have V:=(uQ f).1 h;unfold sub at aC ⊢
 repeat' split at aC
 all_goals first | (exfalso; revert aC; simp; done) | skip
 all_goals first | (exfalso; simp_all; done) | skip
 rename_i a8 bh b6 eW gn;rw[if_neg a8,if_neg bh,if_neg b6,if_neg eW,if_neg gn];have al:ks (f.cf.l++[pn n])=ks f.cf.l+1:=by simp[ks,ax9,pn]
 have cu:=V.len;have b4:=V.live;have fo:=V.v0;have gV:=V.bS;unfold dB.live at gn b4;refine (uQ _).2 ⟨V.bS,V.Lx,V.v0,V.v9,?_,?_,fun r az=>?_⟩
 ·show (f.cf.l++[pn n]).length<=60;simp; omega
 ·show ks (f.cf.l++[pn n])<=4;omega
 ·rcases axN.1 (show r∈f.cf.l++[pn n] from az) with ad | ad
  ·exact V.qs r ad
  ·simp at ad; subst ad;refine⟨?_,?_,?_,fun a=>(by cases a),fun _ a=>(by cases a),fun _ _=>?_⟩
   ·show 0<=n; omega
   ·show n<=1000000000; omega
   ·show ((0:Nat) :Int)<=f.cap; omega
   ·show n+((0:Nat) :Int)=f.a3\/(([] :List Id)=[]/\f.a3<n)
    rcases Int.lt_or_le f.a3 n with e | e
    ·exact .inr ⟨rfl,e⟩
    ·exact .inl (by omega)
structure m6 where
 w:List Id
 dy:Bool
 cO:Bool
 a9:Nat
 out:List Id
def gl (cap:Int) (order:List Id) (s:m6) (take:Bool) :m6:=
 match take with
 | true=>match s.w with
  | x::r=>{ s with w:=r,out:=s.out++[x] }
  | []=>if s.dy=true then { s with dy:=false,cO:=true } else s
 | false=>match order[s.a9]? with
  | none=>s
  | some x=>if s.dy=true\/s.cO=true then { s with a9:=s.a9+1 } else if (s.w.length:Int)<cap then { s with w:=s.w++[x],a9:=s.a9+1 } else { s with dy:=true,a9:=s.a9+1 }
def sP:m6:=⟨[],false,false,0,[]⟩
def jF (cap:Int) (order:List Id) (di:List Bool) (k:Nat) :m6:=(di.take k).foldl (gl cap order) sP
theorem O7 (cap:Int) (order:List Id) (di:List Bool) (k:Nat) (t:Bool) (h:di[k]? = some t) :jF cap order di (k+1)=gl cap order (jF cap order di k) t:=by
 unfold jF;rw[axe,h]; simp[ayE]
theorem JT (cap:Int) (order:List Id) (di:List Bool) (k:Nat) (h:di.length<=k) :jF cap order di k=jF cap order di di.length:=by
 unfold jF;rw[awR h,axo]
structure uH (cap:Int) (order:List Id) (s:m6) :Prop where
 c:(s.w.length:Int)<=cap
 le:s.out.length+s.w.length<=s.a9
 a9:s.a9<=order.length
 w:∀ x∈s.w,x.length=32
 o:∀ x∈s.out,x.length=32
 e:s.cO=true->s.w=[]/\s.dy=false
theorem amu (cap:Int) (order:List Id) (ah:1<=cap) :uH cap order sP:=⟨by show ((0:Nat) :Int)<=cap; omega,awU _,ax2 _,by simp[sP],by simp[sP],by simp[sP]⟩
theorem amv {cap:Int} {order:List Id} (av:∀ x∈order,x.length=32) {s:m6} (h:uH cap order s) (t:Bool) :uH cap order (gl cap order s t) :=by
 obtain⟨ad,ae,aj,aD,a2,bv⟩:=h;cases t with
 | true=>
  unfold gl;cases aP:s.w with
  | cons x r=>
   rw[aP] at ad ae aD bv;simp only;refine⟨?_,?_,aj,fun y aI=>aD y (by simp[aI]),fun y aI=>?_,fun am=>by cases (bv am).1⟩
   ·simp at ad ⊢; omega
   ·simp at ae ⊢; omega
   ·simp at aI;rcases aI with aI | rfl
    ·exact a2 y aI
    ·exact aD _ (by simp)
  | nil=>
   simp only;split
   ·exact⟨by rw[aP] at ad; exact ad,by rw[aP] at ae; exact ae,aj,by simp,a2,fun _=>⟨rfl,rfl⟩⟩
   ·exact⟨ad,ae,aj,aD,a2,bv⟩
 | false=>
  unfold gl;cases ag:order[s.a9]? with
  | none=>exact⟨ad,ae,aj,aD,a2,bv⟩
  | some x=>
   have aL:=(awQ.1 ag).1;simp only;split
   ·exact⟨ad,by show s.out.length+s.w.length<=s.a9+1; omega,aL,aD,a2,bv⟩
   ·rename_i aC;split
    ·rename_i ah;refine⟨?_,?_,aL,fun y aI=>?_,a2,fun am=>absurd (.inr am) aC⟩
     ·simp; omega
     ·simp; omega
     ·simp at aI;rcases aI with aI | rfl
      ·exact aD y aI
      ·exact av _ (awY ag)
    ·exact⟨ad,by show s.out.length+s.w.length<=s.a9+1; omega,aL,aD,a2,fun am=>absurd (.inr am) aC⟩
theorem J0 {cap:Int} {order:List Id} (ah:1<=cap) (av:∀ x∈order,x.length=32) (di:List Bool) :∀ k,uH cap order (jF cap order di k)
 | 0=>amu cap order ah
 | k+1=>by
  cases hm:di[k]? with
  | none=>
   have ar:=ayq.1 hm;rw[JT _ _ _ _ (by omega),<-JT _ _ _ k ar];exact J0 ah av di k
  | some t=>
   rw[O7 _ _ _ _ t hm];exact amv av (J0 ah av di k) t
structure rN (cap from_:Int) (s:m6) (f:dB) :Prop where
 ok:dK f=0
 cap:f.cap=cap
 a3:f.a3=from_+s.a9
 q:∃ q,f.cf.l=[q]/\q.next=from_+s.out.length/\q.ids.l=s.w/\q.dy=s.dy/\q.cO=s.cO
theorem rN.okF {cap from_:Int} {s:m6} {f:dB} {order:List Id} (P:rN cap from_ s f) (ak:uH cap order s) (ah:cap<=8) :okF f:=by
 obtain⟨q,aN,_,ae,_⟩:=P.q;refine⟨fun q' gN=>?_,by rw[aN]; simp⟩;rw[aN] at gN;simp at gN;subst gN;have:=ak.c;exact⟨fun x ag=>ak.w x (by rw[<-ae]; exact ag),by rw[ae]; omega⟩
theorem rN.num {cap from_:Int} {s:m6} {f:dB} (P:rN cap from_ s f) :num f 0=if s.cO then 34 else 0:=by
 obtain⟨q,aN,_,_,_,aD⟩:=P.q;unfold Fd.num;rw[if_neg (by simp[P.ok]),if_neg (by omega),if_neg (by rw[aN]; simp)];have:f.cf.l[0]? = some q:=by rw[aN]; rfl
 simp[this,aD]
theorem amE (cap a3:Int) (qs:List b9) (x:Id) :l2 cap a3 qs [x]=qs.map (j7 cap a3 x) :=rfl
theorem amk {cap from_:Int} {order:List Id} {s:m6} {f:dB} {x:Id} (P:rN cap from_ s f) (ak:uH cap order s) (ag:order[s.a9]? = some x) (aC:s.a9<=1000) (o1:from_<=60) :
  (pq f [x]).2=0/\rN cap from_ (gl cap order s false) (pq f [x]).1:=by
 obtain⟨q,aN,aS,bt,er,kG⟩:=P.q;have V:=(uQ f).1 P.ok;have WP:=P.a3;have au:=Y7 P.ok (ids:=[x]) (by simp) (by simp; omega);have aiF:=apS P.ok (ids:=[x]) (by simp) (by simp; omega);have zG:(pq f [x]).1.cf.l=[j7 f.cap f.a3 x q] :=by rw[au,J1,amE,aN]; rfl
 have dN:=ak.le;have kn:gl cap order s false=if s.dy=true\/s.cO=true then { s with a9:=s.a9+1 } else if (s.w.length:Int)<cap then { s with w:=s.w++[x],a9:=s.a9+1 } else { s with dy:=true,a9:=s.a9+1 }:=by
  unfold gl; rw[ag]
 have Nh:¬ f.a3<q.next:=by omega
 have cZ:=ak.c;have hw:(gl cap order s false).a9=s.a9+1:=by rw[kn]; split<;>(try split)<;>rfl
 refine⟨by rw[au],aiF,by rw[au]; exact P.cap,by rw[au,hw]; show f.a3+1=_; omega,_,zG,?_⟩;rw[kn];by_cases ad:s.dy=true\/s.cO=true
 ·rw[if_pos ad,Pl (by rw[er,kG]; rcases ad with h | h<;>simp[h])];exact⟨aS,bt,er,kG⟩
 ·have cR:¬(q.cO=true\/q.dy=true\/f.a3<q.next) :=by
   rw[er,kG];rintro (h | h | h)
   ·exact ad (.inr h)
   ·exact ad (.inl h)
   ·exact Nh h
  rw[if_neg ad];by_cases ae:(s.w.length:Int)<cap
  ·rw[if_pos ae,Pj cR (by rw[bt,P.cap]; omega)];exact⟨aS,by show q.ids.l++[x]=s.w++[x]; rw[bt],er,kG⟩
  ·rw[if_neg ae,Pk cR (by rw[bt,P.cap]; omega)];exact⟨aS,bt,rfl,kG⟩
theorem amm {cap from_:Int} {order:List Id} {s:m6} {f:dB} (P:rN cap from_ s f) (ak:uH cap order s) (aC:s.a9<=1000) (o1:from_<=60) :
  ((take f 0).e=0/\(take f 0).kind=1/\(∃ r,s.w=(take f 0).id::r)/\rN cap from_ (gl cap order s true) (take f 0).f) ∨
  ((take f 0).e=0/\(take f 0).kind=2/\s.w=[]/\s.dy=true/\rN cap from_ (gl cap order s true) (take f 0).f) ∨
  (((take f 0).e=38\/(take f 0).e=34)/\s.w=[]/\s.dy=false/\gl cap order s true=s) :=by
 have oj:=P.num;obtain⟨q,aN,aS,bt,er,kG⟩:=P.q;have V:=(uQ f).1 P.ok;have WP:=P.a3;have ax:f.cf.l[0]? = some q:=by rw[aN]; rfl
 have cM:=V.qs q (by rw[aN]; simp);cases nt:s.cO with
 | true=>
  obtain⟨ad,ae⟩:=ak.e nt;rw[nt] at oj;right; right;rw[aaJ (by rw[oj]; simp)];refine⟨.inr (by rw[oj]; rfl),ad,ae,?_⟩;unfold gl; rw[ad]; simp[ae]
 | false=>
  rw[nt] at oj kG;have Ng:num f (0:Nat)=0:=by simpa using oj
  cases aP:s.w with
  | cons x r=>
   left;rw[aP] at bt;have aX:=aaL Ng ax bt;have fH:=abb P.ok ax (fun a=>by exact a) (cM.mE V.v9 bt kG);rw[show ((0:Nat) :Int)=0 from rfl] at aX;rw[aX];have bE:gl cap order s true={ s with w:=r,out:=s.out++[x] }:=by unfold gl; rw[aP]
   rw[bE];refine⟨rfl,rfl,⟨r,rfl⟩,fH,P.cap,P.a3,{ q with next:=q.next+1,ids:=some r },(by show f.cf.l.set 0 _=_; rw[aN]; rfl),?_,rfl,er,by rw[nt]; exact kG⟩;show q.next+1=from_+((s.out++[x]).length:Int)
   simp; omega
  | nil=>
   right;rw[aP] at bt;cases al:s.dy with
   | true=>
    left;have aX:=aaN Ng ax bt (by rw[er]; exact al);have fH:=abb P.ok ax (fun a=>(by rfl)) (cM.Oy bt);rw[show ((0:Nat) :Int)=0 from rfl] at aX;rw[aX];have bE:gl cap order s true={ s with dy:=false,cO:=true }:=by unfold gl; rw[aP]; simp[al]
    rw[bE];exact⟨rfl,rfl,rfl,rfl,fH,P.cap,P.a3,{ q with dy:=false,cO:=true },(by show f.cf.l.set 0 _=_; rw[aN]; rfl),aS,by show q.ids.l=s.w; rw[bt,aP],rfl,rfl⟩
   | false=>
    right;have aX:=aaK Ng ax bt (by rw[er]; exact al);rw[show ((0:Nat) :Int)=0 from rfl] at aX;rw[aX];refine⟨.inl rfl,rfl,rfl,?_⟩;unfold gl; rw[aP]; simp[al]
theorem aml {cap from_:Int} (mf:1<=cap) (agr:cap<=8) (aJ:0<=from_) (o1:from_<=60) :(sub ⟨cap,from_,none⟩ from_).2=(0,0)/\rN cap from_ sP (sub ⟨cap,from_,none⟩ from_).1:=by
 have n5:dK ⟨cap,from_,none⟩=0:=(uQ _).2 ⟨mf,agr,aJ,by show from_<=1000000000; omega,by show 0<=60; omega,by show (0:Nat)<=4; omega,fun q aN=>by cases aN⟩;have ak:sub ⟨cap,from_,none⟩ from_=(⟨cap,from_,some [pn from_]⟩,0,0) :=by
  unfold sub;rw[if_neg (by simp[n5]),if_neg (by show ¬ from_<from_; omega),if_neg (by omega),if_neg (by show ¬((0:Nat) :Int)=60; omega),if_neg (by show ¬((0:Nat) :Int)=4; omega)];rfl
 have ao:=apT n5 (n:=from_) (by rw[ak]);rw[ak] at ao ⊢;exact⟨rfl,ao,rfl,by show from_=from_+((0:Nat) :Int); omega,_,rfl,by show from_=from_+((0:Nat) :Int); omega,rfl,rfl,rfl⟩
def sM (cap from_:Int) (order:List Id) (di:List Bool) :Int × List Id × Bool × Int:=
 if from_<0\/60<from_\/cap<1\/8<cap then (0,[],false,2) else if 60<(order.length:Int)\/200<(di.length:Int) then (0,[],false,4)
 else (from_,(jF cap order di di.length).out,(jF cap order di di.length).cO,0)
def Gk (l:List Id) :b8 Id:=match l with | []=>none | x::r=>some (x::r)
theorem an6 (l:List Id) :(Gk l).l=l:=by cases l<;>rfl
theorem an7 (l:List Id) :(Gk l).isNone=l.isEmpty:=by cases l<;>rfl
def w3 (n:Int) (s:b8 Id) (b:Bool) :U:=.aH [.int .i64 n,aA s,.bool b]
def DN (p:Int × List Id × Bool × Int) :U:=.bq [w3 p.1 (Gk p.2.1) p.2.2.1,.int .i64 p.2.2.2]
def tp (s:b8 Bool) :U:=cc 1 (fun b=>[.bool b]) s
def hI (f:dB) :List U:=[.int .i64 f.cap,.int .i64 f.a3,k8 f.cf]
theorem DM (f:dB) :fj f=.aH (hI f) :=rfl
theorem tl (f:dB) :(hI f).length=3:=rfl
theorem Gs (f g:dB) :bf (hI f) 0 (hI g)=hI g:=rfl
theorem Kx (f:dB) :(hI f).take 3=hI f:=rfl
theorem TA (f:dB) :a4 (hI f)=true:=by have:=pD f; simpa [fj,U.closed,hI] using this
theorem CG {l:ap} {e fr:Int} (h:e=fr) :eK l (.bq [.aH [.int .i64 0,.aG,.bool false],.int .i64 e]) (DN (0,[],false,fr)) :=by subst h; exact .same _ rfl
theorem aaM (f:dB) (n:Int) (h:∀ q∈f.cf.l,Ys q) :(take f n).id.length=32:=by
 unfold take;split
 ·rfl
 ·split
  ·rfl
  ·rename_i q aN;split
   ·rename_i x r ag;exact (h q (awY aN)).1 x (by rw[ag]; simp)
   ·split<;>rfl
def QS (cap from_:Int) (order:List Id) (di:List Bool) (k:Nat) (o:U) (l:ap) :Prop:=
 ∃ (s:m6) (f:dB) (os:b8 Id) (v:U) (j:Nat) (rest:ap),s=jF cap order di k/\rN cap from_ s f/\o=aA os/\os.l=order.drop s.a9/\bL 32 l v j (s.out.map dV)/\(v=.aG\/3<=j)/\cz v=s.out.isEmpty ∧
   l=.cells 3 [.int .i64 0,.aG,.bool false] ::.cells 3 (hI f) ::.cells 3 [.int .i64 from_,v,.bool s.cO] ::rest
set_option maxHeartbeats 16000000 in
theorem YS (cap from_:Int) (order:b8 Id) (di:b8 Bool) (av:ds order) (dP:order.l.length<=1000000) (kP:di.l.length<=1000000) :
  bw Tryz.prog GS 27 [.int .i64 cap,.int .i64 from_,aA order,tp di] (DN (sM cap from_ order.l di.l)) :=by
 have jZ:ci=140737488355328:=rfl;refine bQ Tryz.checked.mixed bj ?_;apply bn Tryz.func27 []
 try simp only[qg]
 have cG:cp (.aq 32) (aA order)=some (.int .i64 order.l.length) :=lV _;have vp:cp (.aq 1) (tp di)=some (.int .i64 di.l.length) :=lV _;have ae:∀ p:from_<0\/60<from_\/cap<1\/8<cap,sM cap from_ order.l di.l=(0,[],false,2) :=fun p=>by unfold sM; rw[if_pos p]
 by_cases vj:from_<0
 ·simp[vj];rw[ae (.inl vj)];exact CG rfl
 by_cases ED:60<from_
 ·simp[vj,ED];rw[ae (.inr (.inl ED))];exact CG rfl
 have pT:=OT cap;by_cases ah:cap<1\/8<cap
 ·have aC:rk cap=(jN,2) :=by
   unfold rk;by_cases ad:cap<1
   ·rw[if_pos ad]
   ·rw[if_neg ad,if_pos (by omega)]
  rw[aC] at pT;simp[vj,ED];refine a7 pT rfl ?_;simp[fj];rw[ae (by omega)];exact CG rfl
 have aC:rk cap=(⟨cap,0,none⟩,0) :=by unfold rk; rw[if_neg (by omega),if_neg (by omega)]
 rw[aC] at pT;by_cases aD:60<(order.l.length:Int)\/200<(di.l.length:Int)
 ·have au:sM cap from_ order.l di.l=(0,[],false,4) :=by unfold sM; rw[if_neg (by omega),if_pos aD]
  simp[vj,ED];refine a7 pT rfl ?_;rcases aD with aD | aD
  ·simp[fj,cG,aD];rw[au]; exact CG rfl
  ·by_cases a2:60<(order.l.length:Int)
   ·simp[fj,cG,a2];rw[au]; exact CG rfl
   ·simp[fj,cG,a2,vp,aD];rw[au]; exact CG rfl
 have au:sM cap from_ order.l di.l=(from_,(jF cap order.l di.l di.l.length).out,(jF cap order.l di.l di.l.length).cO,0) :=by unfold sM; rw[if_neg (by omega),if_neg aD]
 rw[au];have afr:¬ 60<(order.l.length:Int) :=fun h=>aD (.inl h)
 have afs:¬ 200<(di.l.length:Int) :=fun h=>aD (.inr h)
 obtain⟨vB,vC⟩:=aml (cap:=cap) (from_:=from_) (by omega) (by omega) (by omega) (by omega);have zG:=aoW ⟨cap,from_,none⟩ from_ ⟨fun q aN=>(by cases aN),by show 0<=1000000; omega⟩;rw[show (sub ⟨cap,from_,none⟩ from_).2.1=0 by rw[vB],show (sub ⟨cap,from_,none⟩ from_).2.2=0 by rw[vB]] at zG;simp[vj,ED];refine a7 pT rfl ?_;simp[fj,cG,afr,vp,afs,k8,cc];refine a7 zG (by simp[a4,pD,U.closed]) ?_;obtain⟨KR,UW⟩:∃ KR,KR=(sub ⟨cap,from_,none⟩ from_).1:=⟨_,rfl⟩
 rw[<-UW] at vC;rw[<-UW];simp[DM,tl,vp];refine cl di.l.length (fun k σ l=>σ 8=.ptr 0 0 3/\σ 10=.ptr 1 0 3/\σ 12=.int .i64 0/\σ 13=.ptr 2 0 3/\σ 61=tp di/\σ 62=.int .i64 di.l.length/\σ 63=.int .i64 k ∧
  QS cap from_ order.l di.l k (σ 2) l) ?_ ?_
 ·rintro k σ l ar ⟨fT,gg,kL,kM,UH,UI,UJ,ID⟩;obtain⟨s,f,os,v,j,rest,ak,P,aW,jX,gC,ai,gM,rfl⟩:=ID;obtain⟨σ,rfl⟩:=Kz aW fT gg kL kM UH UI UJ;clear aW fT gg kL kM UH UI UJ
  try simp only[qg]
  have j0:uH cap order.l s:=by rw[ak]; exact J0 (by omega) av _ _
  by_cases iS:k<di.l.length
  ·obtain⟨t,aX,_⟩:=bJ iS;have nz:=O7 cap order.l di.l k t aX;rw[<-ak] at nz;have bT:cN (.aq 1) (tp di) (.int .i64 k)=some (.bM [.bool t] 0) :=by unfold tp; rw[p2]; simp[aX]
   have dD:IntKind.i64.wrap ((k:Int)+1)=(k+1:Nat) :=wrap_i64 (by omega) (by omega);have V9:cp (.aq 32) (aA os)=some (.int .i64 os.l.length) :=lV _;cases t with
   | false=>
    by_cases tz:s.a9<order.l.length
    ·obtain⟨x,ag,c3⟩:=bJ tz;have bg:order.l.drop s.a9=x::order.l.drop (s.a9+1) :=by
      rw[axC tz]; congr 1; exact (awQ.1 ag).2
     rw[bg] at jX;obtain⟨avH,rfl⟩:∃ l',os=some l':=by
      cases os with
      | none=>cases jX
      | some l'=>exact⟨l',rfl⟩
     rw[b8.xG] at jX;subst jX;obtain⟨mS,s9⟩:=amk P j0 ag (by omega) (by omega);have I3:=amD f (some [x]) (P.okF j0 (by omega)) (fun y aI=>by simp at aI; rw[aI]; exact av _ c3) (by simp);rw[b8.xG,mS] at I3;obtain⟨y0,VH⟩:∃ y0,y0=(pq f [x]).1:=⟨_,rfl⟩
     rw[<-VH] at I3 s9;have bE:fm (.aq 32) (aA (some (x::order.l.drop (s.a9+1)))) none (some (.int .i64 1)) none=some (aA (some [x])) :=by
      unfold aA; rw[P3 (by omega) (by simp; omega)]; rfl
     have sm:fm (.aq 32) (aA (some (x::order.l.drop (s.a9+1)))) (some (.int .i64 1)) none none=some (aA (some (order.l.drop (s.a9+1)))) :=by
      unfold aA; rw[Kp (by omega) (by simp; omega)]; rfl
     have Wa:cp (.aq 32) (aA (some (x::order.l.drop (s.a9+1))))=some (.int .i64 ((order.l.drop (s.a9+1)).length+1:Nat)) :=lV _;have ny:(0:Int)<((order.l.drop (s.a9+1)).length+1:Nat) :=by omega
     have eb:a4 [U.aH (hI f),aA (some [x])]=true:=by simp[a4,U.closed,TA,dd]
     rw[DM,DM] at I3;have Ja:(gl cap order.l s false).a9=s.a9+1/\(gl cap order.l s false).out=s.out/\(gl cap order.l s false).cO=s.cO:=by
      unfold gl; rw[ag]; simp only; split<;>(try split)<;>exact⟨rfl,rfl,rfl⟩
     have zy:=gC.jS (l':=aV.cells 3 [U.int IntKind.i64 0,U.aG,U.bool false] ::aV.cells 3 (hI y0) ::aV.cells 3 [U.int IntKind.i64 from_,v,U.bool s.cO] ::rest) (by
      rcases ai with h | h
      ·exact .inl h
      ·right;obtain⟨gD,rfl⟩:∃ gD,j=gD+3:=⟨j - 3,by omega⟩
       rfl)
     obtain⟨jn,pS⟩:∃ jn,jn=(order.l.drop (s.a9+1)).length+1:=⟨_,rfl⟩
     rw[<-pS] at Wa ny;have ah7:0<jn:=by omega
     simp[iS,bT,Wa,ny,ah7,bE,tl,awR];refine a7 I3 eb ?_;simp[tl,Gs,sm,iS,dD];exact⟨gl cap order.l s false,y0,some (order.l.drop (s.a9+1)),v,j,rest,nz.symm,s9,rfl,by rw[Ja.1]; rfl,by rw[Ja.2.1]; exact zy,ai,by rw[Ja.2.1]; exact gM,by rw[Ja.2.2]⟩
    ·have ag:order.l[s.a9]? = none:=aw5 (by omega);have bE:gl cap order.l s false=s:=by unfold gl; rw[ag]
     rw[bE] at nz;have bg:order.l.drop s.a9=[] :=ayl (by omega);rw[bg] at jX;rw[jX] at V9;simp[iS,bT,V9,dD];exact⟨s,f,os,v,j,rest,nz.symm,P,rfl,by rw[jX,bg],gC,ai,gM,rfl⟩
   | true=>
    have hx:=ao2 f 0 (P.okF j0 (by omega));have eb:a4 [U.aH (hI f),.int .i64 0]=true:=by simp[a4,U.closed,TA]
    rw[DM] at hx;have pV:=amm P j0 (by have:=j0.a9; omega) (by omega);have zy:∀ (bS:List U) (x:ap),bL 32 (aV.cells 3 [U.int IntKind.i64 0,U.aG,U.bool false] ::aV.cells 3 bS::aV.cells 3 [U.int IntKind.i64 from_,v,U.bool s.cO] ::(rest++x)) v j (s.out.map dV) :=fun bS x=>(gC.more x).jS (by
     rcases ai with h | h
     ·exact .inl h
     ·right;obtain⟨gD,rfl⟩:∃ gD,j=gD+3:=⟨j - 3,by omega⟩
      rfl)
    obtain⟨T,ew⟩:∃ T,T=take f 0:=⟨_,rfl⟩
    rw[<-ew] at hx pV;unfold De.enc at hx;rw[DM] at hx;have ii:∀ c:U,(rep 32 c).length=32:=fun c=>rfl
    rcases pV with ⟨qj,mE,⟨r,aP⟩,s9⟩ | ⟨qj,mE,aP,EQ,s9⟩ | ⟨qj,aP,EQ,pd⟩
    ·have q3:T.id.length=32:=j0.w _ (by rw[aP]; simp);have bE:gl cap order.l s true={ s with w:=r,out:=s.out++[T.id] }:=by unfold gl; rw[aP]
     have sl:(gl cap order.l s true).out=s.out++[T.id] :=by rw[bE]
     have ate:s.out.length<=60:=by have:=j0.le; have:=j0.a9; omega
     obtain⟨v',cg,r',ad,e5,aj,pI⟩:=wz (by_:=32) (pre:=[aV.cells 3 [U.int IntKind.i64 0,U.aG,U.bool false],aV.cells 3 (hI T.f),aV.cells 3 [U.int IntKind.i64 from_,v,U.bool s.cO]]) (rest:=rest++[aV.cells 3 (hI T.f),aV.cells 32 (dV T.id),aV.cells 32 (dV T.id)]) (zy _ _) ai (x:=.aq 32 (rest.length+2+1+1+1) 0 1 1 32) (xs:=[dV T.id]) (by simp[de,jB q3,awR]) (by simp[jB q3]) (by omega) (by omega) (by rw[jZ]; simp; omega);rw[qj,mE] at hx;simp[iS,bT,tl,awR];refine a7 hx eb ?_;have B0:∀ c:List U,c.length=32->bf [U.int IntKind.u8 0,.int .u8 0,.int .u8 0,.int .u8 0,.int .u8 0,.int .u8 0,.int .u8 0,.int .u8 0,.int .u8 0,.int .u8 0,.int .u8 0,.int .u8 0,.int .u8 0,.int .u8 0,.int .u8 0,.int .u8 0,.int .u8 0,.int .u8 0,.int .u8 0,.int .u8 0,.int .u8 0,.int .u8 0,.int .u8 0,.int .u8 0,.int .u8 0,.int .u8 0,.int .u8 0,.int .u8 0,.int .u8 0,.int .u8 0,.int .u8 0,.int .u8 0] 0 c=c:=fun c ah=>gw (by rw[ah]; rfl)
     have B1:bf [U.int IntKind.i64 0,.int .i64 0,.aG] 0 (hI T.f)=hI T.f:=rfl;have p0:=e5.cells;simp only[axK,axT] at ad;simp[tl,Gs,Kx,B1,B0 _ (jB q3),jB q3,awR,ad];refine cU.b1 ?_;simp[p0,iS,dD];have zz:bL 32 (aV.cells 3 [U.int IntKind.i64 0,U.aG,U.bool false] ::aV.cells 3 (hI T.f) ::aV.cells 3 [U.int IntKind.i64 from_,v',U.bool s.cO] ::r') v' cg ((s.out++[T.id]).map dV) :=by
      rw[axc];refine e5.jS ?_;rcases aj with h | h
      ·exact .inl h
      ·right;obtain⟨gD,rfl⟩:∃ gD,cg=gD+3:=⟨cg - 3,by simp at h; omega⟩
       rfl
     exact⟨gl cap order.l s true,T.f,os,v',cg,r',nz.symm,s9,rfl,by rw[bE]; exact jX,by rw[sl]; exact zz,aj,by rw[pI,sl]; cases cz v<;>cases s.out<;>rfl,by rw[bE]⟩
    ·have bE:gl cap order.l s true={ s with dy:=false,cO:=true }:=by unfold gl; rw[aP]; simp[EQ]
     rw[qj,mE] at hx;have q3:T.id.length=32:=by rw[ew]; exact aaM f 0 (P.okF j0 (by omega)).1
     simp[iS,bT,tl,awR];refine a7 hx eb ?_;have B0:∀ c:List U,c.length=32->bf [U.int IntKind.u8 0,.int .u8 0,.int .u8 0,.int .u8 0,.int .u8 0,.int .u8 0,.int .u8 0,.int .u8 0,.int .u8 0,.int .u8 0,.int .u8 0,.int .u8 0,.int .u8 0,.int .u8 0,.int .u8 0,.int .u8 0,.int .u8 0,.int .u8 0,.int .u8 0,.int .u8 0,.int .u8 0,.int .u8 0,.int .u8 0,.int .u8 0,.int .u8 0,.int .u8 0,.int .u8 0,.int .u8 0,.int .u8 0,.int .u8 0,.int .u8 0,.int .u8 0] 0 c=c:=fun c ah=>gw (by rw[ah]; rfl)
     have B1:bf [U.int IntKind.i64 0,.int .i64 0,.aG] 0 (hI T.f)=hI T.f:=rfl;have zz:bL 32 (aV.cells 3 [U.int IntKind.i64 0,U.aG,U.bool false] ::aV.cells 3 (hI T.f) ::aV.cells 3 [U.int IntKind.i64 from_,v,U.bool true] ::(rest++[aV.cells 3 (hI T.f),aV.cells 32 (dV T.id)])) v j (s.out.map dV) :=by
      refine (zy (hI T.f) [aV.cells 3 (hI T.f),aV.cells 32 (dV T.id)]).jS ?_;rcases ai with h | h
      ·exact .inl h
      ·right;obtain⟨gD,rfl⟩:∃ gD,j=gD+3:=⟨j - 3,by omega⟩
       rfl
     simp[tl,Gs,Kx,B1,B0 _ (jB q3),jB q3,awR,iS,dD];exact⟨gl cap order.l s true,T.f,os,v,j,_,nz.symm,s9,rfl,by rw[bE]; exact jX,by rw[bE]; exact zz,ai,by rw[bE]; exact gM,by rw[bE]⟩
    ·rw[pd] at nz;have q3:T.id.length=32:=by rw[ew]; exact aaM f 0 (P.okF j0 (by omega)).1
     simp[iS,bT,tl,awR];refine a7 hx eb ?_;have zz:=zy (hI f) [aV.cells 3 (hI T.f),aV.cells 32 (dV T.id)];have B0:∀ c:List U,c.length=32->bf [U.int IntKind.u8 0,.int .u8 0,.int .u8 0,.int .u8 0,.int .u8 0,.int .u8 0,.int .u8 0,.int .u8 0,.int .u8 0,.int .u8 0,.int .u8 0,.int .u8 0,.int .u8 0,.int .u8 0,.int .u8 0,.int .u8 0,.int .u8 0,.int .u8 0,.int .u8 0,.int .u8 0,.int .u8 0,.int .u8 0,.int .u8 0,.int .u8 0,.int .u8 0,.int .u8 0,.int .u8 0,.int .u8 0,.int .u8 0,.int .u8 0,.int .u8 0,.int .u8 0] 0 c=c:=fun c ah=>gw (by rw[ah]; rfl)
     have B1:bf [U.int IntKind.i64 0,.int .i64 0,.aG] 0 (hI T.f)=hI T.f:=rfl;have xe:QS cap from_ order.l di.l (k+1) (aA os) (aV.cells 3 [U.int IntKind.i64 0,U.aG,U.bool false] ::aV.cells 3 (hI f) ::aV.cells 3 [U.int IntKind.i64 from_,v,U.bool s.cO] ::(rest++[aV.cells 3 (hI T.f),aV.cells 32 (dV T.id)])) :=
      ⟨s,f,os,v,j,_,nz.symm,P,rfl,jX,zz,ai,gM,rfl⟩
     rcases qj with qj | qj
     ·rw[qj];simp[tl,Gs,Kx,B1,B0 _ (jB q3),jB q3,awR,iS,dD];exact xe
     ·rw[qj];simp[tl,Gs,Kx,B1,B0 _ (jB q3),jB q3,awR,iS,dD];exact xe
  ·have lg:k=di.l.length:=by omega
   subst lg;rw[<-ak];unfold DN w3;simp[awR];have zz:=gC.jS (l':=aV.cells 3 [U.int IntKind.i64 from_,v,U.bool s.cO] ::aV.cells 3 (hI f) ::aV.cells 3 [U.int IntKind.i64 from_,v,U.bool s.cO] ::rest) (by
    rcases ai with h | h
    ·exact .inl h
    ·right;obtain⟨gD,rfl⟩:∃ gD,j=gD+3:=⟨j - 3,by omega⟩
     rfl)
   have mn:=zz.q.Ac (fun x=>LC .u8 x) (Gk s.out) (by rw[gM,an7]) (an6 _);exact v5 (anu (.same _ rfl) mn (.same _ rfl)) (.same _ rfl)
 ·simp;exact⟨sP,KR,order,.aG,0,[],rfl,vC,rfl,rfl,.nil 0,.inl rfl,rfl,rfl⟩
structure aqG (cap from_:Int) (order:List Id) (di:List Bool) (k:Nat) (w a9 Oy:U) (l:ap) :Prop where
 ex:∃ (s:m6) (fE:Nat) (GH:U) (zP:Nat) (rest:ap),s=jF cap order di k/\a9=.int .i64 s.a9/\Oy=.bool (s.dy||s.cO)/\gm 32 l w fE (s.w.map dV)/\gm 32 l GH zP (s.out.map dV)/\(w=.aG\/2<=fE)/\(GH=.aG\/2<=zP) ∧
  (w=.aG\/GH=.aG\/fE≠zP)/\cz GH=s.out.isEmpty/\l=.cells 3 [.int .i64 0,.aG,.bool false] ::.cells 3 [.int .i64 from_,GH,.bool s.cO] ::rest
set_option maxHeartbeats 1000000 in
theorem aod (a b:b8 Id) (aE:ds a) (af:ds b) (al:a.l.length<=1000000) :bw Tryz.prog GS 21 [aA a,aA b] (.bool (decide (a.l=b.l))) :=by
 refine bQ Tryz.checked.mixed bj ?_;apply bn Tryz.func21 [];simp[aA];by_cases ad:a.l.length=b.l.length
 ·have dX:((a.l.length:Int)=b.l.length) :=by omega
  simp[ad];refine cl a.l.length (fun k σ l=>σ 0=cc 32 dV a/\σ 1=cc 32 dV b/\σ 5=.int .i64 k/\∀ j,j<k->a.l[j]? = b.l[j]?) ?_ (by simp[aA]);rintro k σ l ar ⟨ck,aK,bm,ak⟩;obtain⟨s,rfl⟩:=lC ck aK bm;clear ck aK bm;simp;refine nE (fun h=>?_) (fun h=>?_)
  ·simp only[decide_eq_true_eq] at h;obtain⟨x,ag,c3⟩:=bJ h;obtain⟨y,aI,en⟩:=bJ (l:=b.l) (k:=k) (by omega);simp[ag,aI,jB (aE x c3),jB (af y en),awR,aiX (aE x c3) (af y en)];by_cases am:x=y
   ·simp (disch:=omega) [am,wrap_i64,h];intro j ai;by_cases fu:j=k
    ·subst fu; rw[ag,aI,am]
    ·exact ak j (by omega)
   ·simp[am];refine oz (decide_eq_false fun gA=>am ?_).symm;rw[gA,aI] at ag; exact (Option.some.inj ag).symm
  ·simp[h];have:k=a.l.length:=by simp at h; omega
   subst this;refine oz (decide_eq_true ?_).symm;apply axE;intro j;by_cases ai:j<a.l.length
   ·exact ak j ai
   ·rw[aw5 (by omega),aw5 (by omega)]
 ·have dX:¬ ((a.l.length:Int)=b.l.length) :=by omega
  simp[ad,dX];exact oz (decide_eq_false fun gA=>ad (by rw[gA])).symm
def Kk (n:Int) (s:b8 Id) (b:Bool) (fY:Int) (ff:b8 Id) (aZ:Bool) :Bool:=decide (n=fY)&&(b == aZ)&&decide (s.l=ff.l)
set_option maxHeartbeats 4000000 in
theorem aoc (n:Int) (s:b8 Id) (b:Bool) (fY:Int) (ff:b8 Id) (aZ:Bool) (ak:ds s) (pX:ds ff) (al:s.l.length<=1000000) :bw Tryz.prog GS 28 [w3 n s b,w3 fY ff aZ] (.bool (Kk n s b fY ff aZ)) :=by
 refine bQ Tryz.checked.mixed bj ?_;apply bn Tryz.func28 [];unfold Kk;simp[w3];by_cases ad:n=fY
 ·simp[ad,acS];by_cases ae:b=aZ
  ·simp[ae];refine a7 (aod s ff ak pX al) (show a4 [aA s,aA ff]=true by simp[a4,dd]) ?_;simp[ad,ae];exact oz (by simp[ad,ae])
  ·have e5:(b == aZ)=false:=by simpa using ae
   simp[ae,e5];exact oz (by simp[ad,ae])
 ·simp[ad];exact oz (by simp[ad])
theorem apu (r:List U) (h:dv Tryz.prog [4] r) :∃ b:Bool,r=[.bool b]/\True:=by
 obtain⟨b,_,rfl,ad⟩:=apr (by kernel_rfl) h;rw[As ad];exact⟨b,rfl,trivial⟩
theorem apl {ts:List TypeId} {cs:List U} (h:js Tryz.prog (64::ts) cs) :∃ (s:b8 Bool) (cs' : List U),cs=tp s::cs'/\s.l.length<=maxLen/\js Tryz.prog ts cs':=by
 obtain⟨c,cs',rfl,ad,ae⟩:=CX h;obtain⟨s,qI,ak,al,ay,aj⟩:=Gy (enc:=fun b:Bool=>[.bool b]) (e:=4) (z:=1) (by kernel_rfl) (by kernel_rfl) apu (Gx (by kernel_rfl) ad);cases ak;exact⟨s,cs',rfl,al,ae⟩
structure G4 (order:List Id) (s:m6) :Prop where
 pre:s.out++s.w=order.take (s.out.length+s.w.length)
 eq:s.dy=false->s.cO=false->s.a9=s.out.length+s.w.length
 lt:s.dy=true\/s.cO=true->s.out.length+s.w.length<s.a9
theorem amx {cap:Int} {order:List Id} {s:m6} (h:G4 order s) (t:Bool) :G4 order (gl cap order s t) :=by
 obtain⟨ad,ae,aj⟩:=h;cases t with
 | true=>
  unfold gl;cases aP:s.w with
  | cons x r=>
   rw[aP] at ad ae aj;simp only;have e:s.out.length+(x::r).length=(s.out++[x]).length+r.length:=by simp; omega
   exact⟨by rw[<-e,<-ad]; simp,fun a b=>by rw[<-e]; exact ae a b,fun a=>by rw[<-e]; exact aj a⟩
  | nil=>
   simp only;split
   ·rename_i al;exact⟨by rw[aP] at ad; simpa using ad,fun _ b=>(by cases b),fun _=>by have:=aj (.inl al); rw[aP] at this; exact this⟩
   ·exact⟨ad,ae,aj⟩
 | false=>
  unfold gl;cases ag:order[s.a9]? with
  | none=>exact⟨ad,ae,aj⟩
  | some x=>
   simp only;split
   ·rename_i al;exact⟨ad,fun a b=>by rcases al with q | q<;>simp_all,fun a=>Nat.lt_succ_of_lt (aj a)⟩
   ·rename_i al;have zp:s.dy=false:=by cases h:s.dy<;>simp_all
    have nt:s.cO=false:=by cases h:s.cO<;>simp_all
    have hw:=ae zp nt;split
    ·refine⟨?_,fun _ _=>by simp; omega,fun a=>by rcases a with q | q<;>simp_all⟩;rw[hw] at ag;simp only[awW,List.length_singleton,<-axH,ad,<-aym];rw[axe,ag]; rfl
    ·exact⟨ad,fun a _=>(by cases a),fun _=>by show s.out.length+s.w.length<s.a9+1; omega⟩
theorem Ph (cap:Int) (order:List Id) (di:List Bool) :∀ k,G4 order (jF cap order di k)
 | 0=>⟨by simp[jF,sP],by simp[jF,sP],by simp[jF,sP]⟩
 | k+1=>by
  cases hm:di[k]? with
  | none=>
   have ar:=ayq.1 hm;rw[JT _ _ _ _ (by omega),<-JT _ _ _ k ar];exact Ph cap order di k
  | some t=>
   rw[O7 _ _ _ _ t hm];exact amx (Ph cap order di k) t
theorem amw {cap:Int} {order:List Id} {s:m6} (h:G4 order s) (av:uH cap order s) :s.out=order.take s.out.length/\(s.cO=true->s.out.length<order.length) :=by
 constructor
 ·have:=congrArg (List.take s.out.length) h.pre;rw[axs (awU _),axo,ayx,ayh (by omega)] at this;exact this
 ·intro am;have ad:=h.lt (.inr am);have ae:=(av.e am).1;have aj:=av.a9;rw[ae] at ad;simp at ad; omega
end Fd

end Go.bV

namespace Go.bV
open Go Go.Proofs
set_option maxRecDepth 100000
namespace Op
open hp
def kr (x:List B) :List Int:=x.map fun b=>(b.toNat:Int)
theorem aiW (x:List B) :Fd.dV (kr x)=a5 x:=by
 unfold Fd.dV kr a5;rw[ayv]; rfl
theorem W3 (x:List B) :(kr x).length=x.length:=by unfold kr; rw[aw1]
def uq (s:dk) :b8 (List Int) :=match s with | none=>none | some l=>some (l.map kr)
theorem Ao (s:dk) :(uq s).l=s.l.map kr:=by cases s<;>rfl
theorem CR (s:dk) :Fd.aA (uq s)=aA s:=by
 cases s with
 | none=>rfl
 | some l=>
  show U.a1 32 ((l.map kr).map Fd.dV)=U.a1 32 (l.map a5);rw[ayv,show Fd.dV ∘ kr=a5 from funext aiW]
def pr (l:List (List B)) :dk:=match l with | []=>none | x::r=>some (x::r)
theorem yi (l:List (List B)) :(pr l).l=l:=by cases l<;>rfl
theorem Z5 (l:List (List B)) :Fd.Gk (l.map kr)=uq (pr l) :=by cases l<;>rfl
theorem JN {s:dk} (h:ds s) :Fd.ds (uq s) :=fun x ag=>by
 rw[Ao] at ag;obtain⟨y,aI,rfl⟩:=axi.1 ag;rw[W3]; exact h y aI
theorem amp (cap:Int) (ah:1<=cap) (o:List (List B)) (av:∀ x∈o,x.length=32) (m:List Bool) :∃ n:Nat,n<=o.length/\(Fd.jF cap (o.map kr) m m.length).out=(o.take n).map kr/\((Fd.jF cap (o.map kr) m m.length).cO=true->n<o.length) :=by
 have ad:=Fd.Ph cap (o.map kr) m m.length;have ae:=Fd.J0 (cap:=cap) (order:=o.map kr) ah (fun x ag=>by obtain⟨y,aI,rfl⟩:=axi.1 ag; rw[W3]; exact av y aI) m m.length;obtain⟨aj,aD⟩:=Fd.amw ad ae;have a2:=ae.le;have bv:=ae.a9;rw[aw1] at aD bv;exact⟨_,by omega,by rw[ay1]; exact aj,aD⟩
def mC:Nat->List Bool
 | 0=>[]
 | k+1=>mC k++[false,true]
theorem aao:∀ k,(mC k).length=2*k
 | 0=>rfl
 | k+1=>by show (mC k++[false,true]).length=_; rw[awW,aao k]; simp; omega
theorem aap {cap:Int} (ah:1<=cap) (o:List (List Int)) :∀ k,k<=o.length->(mC k).foldl (Fd.gl cap o) Fd.sP=⟨[],false,false,k,o.take k⟩
 | 0,_=>rfl
 | k+1,h=>by
  show (mC k++[false,true]).foldl _ _=_;rw[ayE,aap ah o k (by omega)];have ag:o[k]? = some (o[k]'(by omega)) :=awT (by omega);have aJ:(0:Int)<cap:=by omega
  rw[axe,ag];show Fd.gl cap o (Fd.gl cap o ⟨[],false,false,k,o.take k⟩ false) true=_;simp[Fd.gl,ag,aJ]
theorem aoP {cap:Int} (ah:1<=cap) (o:List (List Int)) :Fd.jF cap o (mC o.length) (mC o.length).length=⟨[],false,false,o.length,o⟩:=by
 unfold Fd.jF;rw[axo,aap ah o _ (awU _),axo]
theorem aeJ {s:gd} (aJ:g8 s=0) {F n:Nat} (o2:F<=s.order.l.length) (aC:n<=s.order.l.length - F) {b:Bool} (af:b=true->n<s.order.l.length - F) :
  k5 s ⟨F,pr ((s.order.l.drop F).take n),b⟩=0/\mG s ⟨F,pr ((s.order.l.drop F).take n),b⟩=-1:=by
 have al:((s.order.l.drop F).take n).length=n:=by rw[axd,axP]; omega
 have eN:s.order.l.length<=40:=by
  unfold g8 at aJ;split at aJ
  ·rename_i h; omega
  ·cases aJ
 constructor
 ·unfold k5;rw[if_pos aJ];unfold wZ;rw[if_neg (by show ¬((F:Int)<0\/60<(F:Int)); omega),if_neg (by show ¬ 60<(pr _).l.length; rw[yi,al]; omega)]
 ·rw[QC (Uu fun j ai=>?_)]
  ·unfold Az;rw[if_neg];show ¬((s.order.l.length:Int)<(F:Int)+((pr _).l.length:Int)\/(b=true/\(F:Int)+((pr _).l.length:Int)=(s.order.l.length:Int)));rw[yi,al];rintro (h | ⟨ad,ae⟩)
   ·omega
   ·have:=af ad; omega
  ·have fl:j<n:=by rw[show (⟨F,pr ((s.order.l.drop F).take n),b⟩:i6).ids.l=_ from yi _,al] at ai; exact ai
   unfold ti;rw[Bool.not_eq_false',decide_eq_true_eq];show s.order.l[((F:Nat) :Int).toNat+j]? = some (b2 (pr _).l j);rw[yi,axq];obtain⟨x,ag,_⟩:=bJ (l:=s.order.l) (k:=F+j) (by omega);rw[gu (x:=x) (by rw[axm fl,axv]; exact ag),ag]
end Op

end Go.bV

namespace Go.bV
open Go Go.Proofs Go.RowKit
set_option maxRecDepth 100000
namespace Op
open hp
theorem al7 {α:Type} {z:Nat} {enc:α->List U} {l:ap} {v:U} {j:Nat} {xs:List α} (GC:List U) (s:b8 α) (h:bL z l v j (xs.map enc)) (aC:cz v=s.isNone) (ak:s.l=xs) {f:FuncId} {K:U->ap->Prop}
  (ah:∀ br,c5 Tryz.prog GS f (GC++[cc z enc s]) br (c:=⟨K⟩)) :c5 Tryz.prog GS f (GC++[v]) l (c:=⟨K⟩) :=by
 obtain⟨l1,bO,da,aS,f1⟩:=F1 s h aC ak;refine Dx Tryz.checked.mixed bj (args2:=GC++[cc z enc s]) bO (by omega) (by simp) (fun j c b7 ad ae=>?_) (ah l1);rcases ax1 j GC.length with aL | vk
 ·rw[awS aL] at ad ae;rw[ad] at ae;obtain rfl:=Option.some.inj ae;exact .same _
 ·have ai:=(awQ.1 ad).1;have e:j=GC.length:=by simp at ai; omega
  subst e;rw[ayB] at ad ae;obtain rfl:=Option.some.inj ad;obtain rfl:=Option.some.inj ae;exact da
set_option maxHeartbeats 16000000 in
theorem adZ (ic:bw Tryz.prog GS 29 [] (.bool true)) (s:gd) (ts:K0 s) (cap from_:Int) (di:b8 Bool) :c5 Tryz.prog GS 5 [.aH (dL s),.int .i64 cap,.int .i64 from_,Fd.tp di] [] (c:=⟨fun r _=>r=.bool true⟩) :=by
 apply bn Tryz.func5 [];have az:ci=140737488355328:=rfl;have bW:(dL s).length=5:=rfl;have iI:(dL s).take 5=dL s:=rfl;have ib:=yS s;have la:∀ h,(dL s)[4]'h=aA s.order:=fun _=>rfl
 have pN:(dL s)[4]? = some (aA s.order) :=rfl;have cG:cp (.aq 32) (aA s.order)=some (.int .i64 s.order.l.length) :=by simp[aA]
 have vp:cp (.aq 1) (Fd.tp di)=some (.int .i64 di.l.length) :=lV _;have Mo:(Fd.tp di).closed=true:=by simp[Fd.tp,uT,a4,U.closed]
 have BJ:=amX s;simp;refine a7 ic rfl ?_;simp[bW,iI];refine a7 BJ (by simp[a4,U.closed,ib]) ?_;cases aJ:D5 s with
 | true=>simp
 | false=>
  have ak:=alS ts aJ;have cR:=ak.no;have bE:=anh s ak;simp[bW,iI];refine a7 bE (by simp[a4,U.closed,ib]) ?_;by_cases ae:g8 s=0
  ·by_cases bS:cap<1
   ·simp[ae,bS]
   by_cases b7:8<cap
   ·simp[ae,bS,b7]
   by_cases hR:from_<0
   ·simp[ae,bS,b7,hR]
   obtain⟨F,rfl⟩:=axY (show 0<=from_ by omega);have Lv:¬ (F:Int)<0:=by omega
   by_cases go:s.order.l.length<F
   ·have Hr:(s.order.l.length:Int)<F:=by omega
    simp[ae,bS,b7,Lv,bW,pN,la,cG,go,Hr]
   have Hr:¬ (s.order.l.length:Int)<F:=by omega
   by_cases Du:100<di.l.length
   ·have Lw:100<(di.l.length:Int) :=by omega
    simp[ae,bS,b7,Lv,bW,pN,la,cG,go,Hr,vp,Du,Lw]
   have Lw:¬ 100<(di.l.length:Int) :=by omega
   have eN:s.order.l.length<=40:=by
    have e5:=ae;unfold g8 at e5;split at e5
    ·rename_i h; omega
    ·cases e5
   have WF:=an8 s ak ae F (by omega);obtain⟨Q,jf⟩:∃ Q,Q=m3 s.order F:=⟨_,rfl⟩
   rw[<-jf] at WF;have n4:Q.l=s.order.l.drop F:=by rw[jf,yj]
   have asE:Q.l.length=s.order.l.length - F:=by rw[n4,axP]
   have Bv:ds Q:=fun x ag=>by rw[n4] at ag; exact ak.order x (ayu ag)
   have Mr:=dd Q;have V3:cp (.aq 32) (aA Q)=some (.int .i64 Q.l.length) :=by simp[aA]
   have fv:=Fd.YS cap F (uq Q) di (JN Bv) (by rw[Ao,aw1]; omega) (by omega);rw[CR,Ao] at fv;have au:Fd.sM cap F (Q.l.map kr) di.l=((F:Int),(Fd.jF cap (Q.l.map kr) di.l di.l.length).out,(Fd.jF cap (Q.l.map kr) di.l di.l.length).cO,0) :=by
    unfold Fd.sM;rw[if_neg (by omega),if_neg (by rw[aw1]; omega)]
   obtain⟨n,aC,jY,nt⟩:=amp cap (by omega) Q.l Bv di.l;obtain⟨b,af⟩:∃ b,b=(Fd.jF cap (Q.l.map kr) di.l di.l.length).cO:=⟨_,rfl⟩
   rw[jY,<-af] at au;rw[<-af] at nt;rw[au] at fv;unfold Fd.DN Fd.w3 at fv;simp only at fv;rw[Z5,CR] at fv;obtain⟨I,lN⟩:∃ I,I=pr (Q.l.take n) :=⟨_,rfl⟩
   rw[<-lN] at fv;have w8:I.l=Q.l.take n:=by rw[lN,yi]
   obtain⟨a8,bh⟩:=aeJ (s:=s) ae (F:=F) (n:=n) (b:=b) (by omega) (by omega) (fun h=>by have:=nt h; omega);rw[<-n4,<-lN] at a8 bh;have MU:=ajA s ak ⟨F,I,b⟩ ⟨fun x ag=>by rw[show (⟨F,I,b⟩:i6).ids=I from rfl,w8] at ag; exact Bv x (axp ag),by show I.l.length<=1000; rw[w8,axd]; omega⟩ a8 bh;unfold hs at MU;simp only at MU;have afL:=dd I;have akF:=nf Q;have akE:=nf I;simp[ae,bS,b7,Lv,bW,iI,pN,la,cG,go,Hr,vp,Du,Lw];refine a7 WF (by simp[a4,U.closed,ib]) ?_;simp;refine a7 fv (by simp[a4,U.closed,Mr,Mo]) ?_;simp[bW,iI,akE,bf];refine a7 MU (by simp[a4,U.closed,ib,afL]) ?_;simp;refine cl Q.l.length (fun k σ l=>σ 1=.int .i64 cap/\σ 2=.int .i64 F/\σ 9=.bool true/\σ 10=aA Q/\σ 15=.int .i64 k/\∃ j,bL 1 l (σ 14) j ((mC k).map fun b=>[U.bool b])/\cz (σ 14)=(mC k).isEmpty) ?_ ⟨by simp,by simp,by simp,by simp,by simp,0,by simp; exact .nil 0,by simp; rfl⟩;rintro k σ l ar ⟨aK,aW,g4,gg,qP,j,gC,gM⟩;obtain⟨v,uX⟩:∃ v,σ 14=v:=⟨_,rfl⟩
   rw[uX] at gC gM;obtain⟨σ,rfl⟩:=we aK aW g4 gg uX qP;clear aK aW g4 gg uX qP;have dD:IntKind.i64.wrap ((k:Int)+1)=((k+1:Nat) :Int) :=by rw[IntKind.wrap_i64]; omega
   have gO:=aao k;by_cases iS:k<Q.l.length
   ·obtain⟨v',cg,l',cT,dw,ke,qB,yP,Hg⟩:=oS (by_:=1) (x:=.aq 1 l.length 0 2 2 2) (xs:=[[U.bool false],[U.bool true]]) (gC.more [aV.cells 2 [.bool false,.bool true]]) (by simp[de]) (by simp) (by omega) (by omega) (by simp[gO,az]; omega);have rW:=vJ Hg;have wB:=dw.cells;have th:bL 1 l' v' cg ((mC (k+1)).map fun b=>[U.bool b]) :=by
     show bL 1 l' v' cg ((mC k++[false,true]).map fun b=>[U.bool b]);rw[axc]; exact dw
    have acx:cz v'=(mC (k+1)).isEmpty:=by
     rw[rW];show _=(mC k++[false,true]).isEmpty;cases cz v<;>cases mC k<;>rfl
    simp[V3,iS,hU,dH,cT];refine cU.b1 ?_;simp[wB,dD];exact⟨iS,⟨cg,th⟩,acx⟩
   ·have lg:k=Q.l.length:=by omega
    subst lg;obtain⟨S,g5⟩:∃ S:b8 Bool,S.l=mC Q.l.length/\S.isNone=(mC Q.l.length).isEmpty:=by
     cases h:mC Q.l.length with
     | nil=>exact⟨none,rfl,rfl⟩
     | cons x r=>exact⟨some (x::r),rfl,rfl⟩
    have tI:=Fd.YS cap F (uq Q) S (JN Bv) (by rw[Ao,aw1]; omega) (by rw[g5.1,gO]; omega);rw[CR,Ao,g5.1] at tI;have ET:(Q.l.map kr).length=Q.l.length:=aw1 ..;have mS:Fd.sM cap F (Q.l.map kr) (mC Q.l.length)=((F:Int),Q.l.map kr,false,0) :=by
     unfold Fd.sM;rw[if_neg (by omega),if_neg (by rw[ET,gO]; omega)];have:=aoP (cap:=cap) (by omega) (Q.l.map kr);rw[ET] at this;rw[this]
    rw[mS] at tI;have ar:=Fd.aoc F (uq (pr Q.l)) false F (uq Q) false (JN fun x ag=>by rw[yi] at ag; exact Bv x ag) (JN Bv) (by rw[Ao,yi,ET]; omega);have tL:Fd.Kk F (uq (pr Q.l)) false F (uq Q) false=true:=by simp[Fd.Kk,Ao,yi]
    rw[tL] at ar;unfold Fd.DN Fd.w3 at tI;unfold Fd.w3 at ar;simp only at tI;rw[Z5,CR] at tI;rw[CR,CR] at ar;have akD:=nf (pr Q.l);have adb:=dd (pr Q.l);simp[V3];refine al7 (enc:=fun b=>[U.bool b]) [.int .i64 cap,.int .i64 F,aA Q] S gC (by rw[gM,g5.2]) g5.1 fun br=>?_
    refine a7 tI (by simp[a4,U.closed,Mr,uT]) ?_;simp[akD,akF,bf];refine a7 ar (by simp[a4,U.closed,adb,Mr]) ?_;simp
  ·simp[ae]
end Op

end Go.bV

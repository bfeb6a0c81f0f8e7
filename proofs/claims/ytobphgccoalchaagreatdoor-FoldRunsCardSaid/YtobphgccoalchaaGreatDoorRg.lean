/-
  SHA-256, walked: the words of a block.
-/
import Derived.Test.YtobphgccoalchaaGreatDoorRf
import Derived.LaidMore
import Derived.MakeChecks
import Derived.Lib.DecodeN
set_option linter.unusedVariables false
set_option linter.unusedSimpArgs false
set_option linter.unnecessarySimpa false
namespace Go.cf
open Go Go.Proofs
set_option maxRecDepth 100000
namespace gZ
def ci (x:B) :List ad:=[bA x]
abbrev fi:=dg B
abbrev cN (s:fi) :ad:=cL 1 ci s
theorem nj (s:fi) :(cN s).closed=true:=xW (fun _=>rfl) s
def pX (b:List B) (k:Nat) :List W:=((List.range 16).map fun t=>pW (((b.take k).drop (4*t)).take 4))++List.replicate 48 0#32
theorem Xq (b:List B) (k:Nat) :(pX b k).length=64:=by simp[pX]
theorem alj (b:List B) :pX b 0=List.replicate 64 0#32:=by simp[pX,pW]; rfl
theorem OQ (b:List B) (k t:Nat) (aJ:t<16) :(pX b k)[t]? = some (pW (((b.take k).drop (4*t)).take 4)) :=by
 unfold pX;rw[arZ (by simpa using aJ),ar5,asI aJ];rfl
theorem ali (b:List B) (k:Nat) (hk:k<64) (ag:k<b.length) (x:B) (ai:b[k]? = some x) :
  (pX b k).set (k / 4) ((pW (((b.take k).drop (4*(k / 4))).take 4) <<< 8) ||| x.setWidth 32)=pX b (k+1) :=by
 apply asY;intro t;rw[atD,Xq];have DD:b.take (k+1)=b.take k++[x] :=by rw[ash,ai]; rfl
 have bn:(b.take k).length=k:=by simp; omega
 by_cases aJ:t<16
 ·rw[OQ b _ t aJ,OQ b _ t aJ];by_cases h:k / 4=t
  ·rw[if_pos h,if_pos (by omega),<-ak6,DD,h];congr 2;rw[asL (by omega)];obtain⟨A,cv⟩:∃ A,A=List.drop (4*t) (List.take k b) :=⟨_,rfl⟩
   have hK:A.length<4:=by rw[cv]; simp; omega
   rw[<-cv,arX (by omega),arX (by simp; omega)]
  ·rw[if_neg h,DD];congr 2;rcases as3 k (4*t) with h1 | h1
   ·rw[asV (by omega),asV (by simp; omega)]
   ·rw[asL (by omega),asm (by simp; omega)]
 ·rw[if_neg (by omega)];unfold pX;rw[ar8 (by simp; omega),ar8 (by simp; omega)];simp
theorem alh (b:List B) (ag:64<=b.length) :pX b 64=fN b++List.replicate 48 0#32:=by
 unfold pX fN;congr 1;apply atF;intro t aJ;have:=asJ.1 aJ;congr 1;rw[auh,aty,asR (by omega)]
def q7 (b:List B) (k:Nat) :List W:=i3 k (fN b)++List.replicate (48 - k) 0#32
theorem aiR (b:List B) (k:Nat) (hk:k<=48) :(q7 b k).length=64:=by simp[q7,x6,fN]; omega
theorem Iz (b:List B) (k i:Nat) (ax:i<16+k) :(q7 b k)[i]? = some ((i3 k (fN b)).getD i 0#32) :=by
 unfold q7;have am:(i3 k (fN b)).length=16+k:=by simp[x6,fN]
 rw[arZ (by omega),asq,ar1 (by omega)];rfl
theorem aiS (b:List B) (k:Nat) (hk:k<48) :(q7 b k).set (16+k) (ext (i3 k (fN b)))=q7 b (k+1) :=by
 have am:(i3 k (fN b)).length=16+k:=by simp[x6,fN]
 unfold q7;rw[asy _ _ (by omega),am,aui,show 48 - k=(48 - (k+1))+1 by omega,atd,at9,J6];simp
set_option maxHeartbeats 4000000 in
theorem aiU (b:List B) (ag:64<=b.length) :bx Tryz.prog GS 265 [cN (some b)] (.aI ((fU b).map bC)) :=by
 refine bH Tryz.checked.mixed bD ?_;apply bm Tryz.func265 [];have db:gS (.au 1) (cN (some b)) none (some (.int .i64 64)) none=some (cN (some (b.take 64))) :=by
  unfold cN; rw[Wu (by omega) (by omega)]; rfl
 have px:min 64 b.length=64:=by omega
 simp[db,px];refine cw 64 (fun k af l=>af 2=.ptr 0 0 64/\af 11=cN (some (b.take 64))/\af 12=.int .i64 64/\af 13=.int .i64 k/\l=[.cells 64 ((pX b k).map bC)]) ?_ ?_
 ·rintro k af l hk ⟨aT,hJ,g2,mO,rfl⟩;obtain⟨af,rfl⟩:=jh aT hJ g2 mO;clear aT hJ g2 mO;simp;by_cases h:(k:Int)<64
  ·obtain⟨x,ai⟩:∃ x,b[k]? = some x:=⟨_,ar1 (by omega)⟩
   have wS:(b.take 64)[k]? = some x:=by rw[asf (by omega)]; exact ai
   have bG:cd (.au 1) (cN (some (b.take 64))) (.int .i64 k)=some (.b0 (ci x) 0) :=by simp[cN,th,wS]
   obtain⟨q,AX⟩:∃ q,q=k / 4:=⟨_,rfl⟩
   have bd:cB .quo .i64 (k:Int) .i64 4=some (.int .i64 (q:Int)) :=by rw[AX]; exact JA k 4 (by omega) (by omega)
   have fw:IntKind.i64.wrap ((k:Int)+1)=k+1:=wrap_i64 (by omega) (by omega);have aM:(q:Int)<64:=by omega
   have ar:=OQ b k q (by omega);have ak:=oW bC (pX b k) q (((pW (((b.take k).drop (4*q)).take 4) <<< 8) ||| x.setWidth 32)) (by rw[Xq]; omega);rw[AX,ali b k (by omega) (by omega) x ai,<-AX] at ak;have dT:q+1<=64:=by omega
   simp[h,bG,ci,bd,aM,ar,dT,fw,ak];omega
  ·have yA:k=64:=by omega
   subst yA;simp;refine cw 48 (fun j af l=>af 2=.ptr 0 0 64/\af 5=.int .i64 (16+j:Nat)/\l=[.cells 64 ((q7 b j).map bC)]) ?_ ?_
   ·rintro j af l aj ⟨aT,bf,rfl⟩;obtain⟨af,rfl⟩:=nE aT bf;clear aT bf;obtain⟨t,aJ⟩:∃ t,t=16+j:=⟨_,rfl⟩
    rw[<-aJ];simp;by_cases h:(t:Int)<64
    ·have ko:IntKind.i64.wrap ((t:Int)+1)=(t+1:Nat) :=wrap_i64 (by omega) (by omega);have IR:IntKind.i64.wrap ((t:Int) - 15)=(t - 15:Nat) :=by rw[wrap_i64 (by omega) (by omega)]; omega
     have w2:IntKind.i64.wrap ((t:Int) - 2)=(t - 2:Nat) :=by rw[wrap_i64 (by omega) (by omega)]; omega
     have IU:IntKind.i64.wrap ((t:Int) - 16)=(t - 16:Nat) :=by rw[wrap_i64 (by omega) (by omega)]; omega
     have EQ:IntKind.i64.wrap ((t:Int) - 7)=(t - 7:Nat) :=by rw[wrap_i64 (by omega) (by omega)]; omega
     have am:(i3 j (fN b)).length=t:=by simp[x6,fN]; omega
     have sR:=Iz b j (t - 15) (by omega);have aT:=Iz b j (t - 2) (by omega);have qi:=Iz b j (t - 16) (by omega);have dh:=Iz b j (t - 7) (by omega);have ak:=oW bC (q7 b j) t (ext (i3 j (fN b))) (by rw[aiR b j (by omega)]; omega);rw[aJ,aiS b j (by omega),<-aJ] at ak;unfold ext at ak;rw[am] at ak
     dsimp only at ak
     obtain⟨wV,JX⟩:∃ i,i=t - 15:=⟨_,rfl⟩
     obtain⟨eK,bE⟩:∃ i,i=t - 2:=⟨_,rfl⟩
     obtain⟨wW,Fv⟩:∃ i,i=t - 16:=⟨_,rfl⟩
     obtain⟨j4,JY⟩:∃ i,i=t - 7:=⟨_,rfl⟩
     rw[<-JX] at IR sR ak;rw[<-bE] at w2 aT ak;rw[<-Fv] at IU qi ak;rw[<-JY] at EQ dh ak;have Jr:(wV:Int)<64:=by omega
     have di:(eK:Int)<64:=by omega
     have Js:(wW:Int)<64:=by omega
     have ug:(j4:Int)<64:=by omega
     have dT:t+1<=64:=by omega
     generalize (i3 j (fN b)).getD wV 0#32=x at sR ak;generalize (i3 j (fN b)).getD eK 0#32=y at aT ak;generalize (i3 j (fN b)).getD wW 0#32=OS at qi ak;generalize (i3 j (fN b)).getD j4 0#32=OT at dh ak;have xi:=zo x 7 (by omega) (by omega);have VB:=zo x 18 (by omega) (by omega);have VA:=zo y 17 (by omega) (by omega);have VC:=zo y 19 (by omega) (by omega);simp at xi VB VA VC;simp[h,IR,w2,sR,aT,Jr,di];refine aW (zn _ _) rfl ?_;simp;refine aW (zn _ _) rfl ?_;simp;refine aW (zn _ _) rfl ?_;simp;refine aW (zn _ _) rfl ?_;simp[xi,VB,VA,VC,IU,EQ,qi,dh,Js,ug,h,ak,ko,dT];omega
    ·have adq:j=48:=by omega
     have aes:q7 b 48=fU b:=by simp[q7,fU]
     subst adq;have Dh:=Ew b;rw[aes];simp[h,Dh,oj,arX];exact aK rfl (P1 bC (fun _=>rfl) _)
   ·simp[q7,i3,alh b ag]
 ·simp[alj,VZ _ 32]
theorem alf (b:List B) (n:Nat) (aF:64<=n) :fN (b.take n)=fN b:=by
 unfold fN;apply atF;intro t aJ;have:=asJ.1 aJ;congr 1;rw[auh,aty,asR (by omega)]
theorem aiT (b:List B) (n:Nat) (aF:64<=n) :fU (b.take n)=fU b:=by unfold fU; rw[alf b n aF]
theorem rounds_succ:∀ (k:Nat) (s:ct) (a b:List W) (x y:W),a[k]? = some x->b[k]? = some y->rounds s (a.take (k+1)) (b.take (k+1))=round (rounds s (a.take k) (b.take k)) x y
 | 0,s,a,b,x,y,az,ag=>by
  cases a with
  | nil=>simp at az
  | cons a Pj=>
   cases b with
   | nil=>simp at ag
   | cons b bs=>simp at az ag; subst az ag; simp[rounds]
 | k+1,s,a,b,x,y,az,ag=>by
  cases a with
  | nil=>simp at az
  | cons a Pj=>
   cases b with
   | nil=>simp at ag
   | cons b bs=>
    simp only[List.take_succ_cons,rounds];exact rounds_succ k _ Pj bs x y (by simpa using az) (by simpa using ag)
def nA (h:ct) (b:List B) (k:Nat) :ct:=rounds h (bW.take k) ((fU b).take k)
theorem VF (h:ct) (b:List B) :nA h b 0=h:=rfl
theorem VE (h:ct) (b:List B) (k:Nat) (hk:k<64) :nA h b (k+1)=round (nA h b k) (bW.getD k 0#32) ((fU b).getD k 0#32) :=by
 have h1:bW.length=64:=rfl;have ae:=Ew b;refine rounds_succ k h bW (fU b) _ _ ?_ ?_
 ·rw[asq,ar1 (by omega)]; rfl
 ·rw[asq,ar1 (by omega)]; rfl
theorem VD (h:ct) (b:List B) :nA h b 64=rounds h bW (fU b) :=by
 have h1:bW.length=64:=rfl;have ae:=Ew b;unfold nA;rw[arX (by omega),arX (by omega)]
def jl (a b:List W) (k:Nat) :List W:=(List.zipWith (·+·) a b).take k++a.drop k
theorem O9 (a b:List W) :jl a b 0=a:=rfl
theorem Jj {a b:List W} (h:a.length=b.length) (k:Nat) :(jl a b k).length=a.length:=by simp[jl]; omega
theorem O7 {a b:List W} (h:a.length=b.length) {k:Nat} (hk:k<a.length) :(jl a b k)[k]? = a[k]?:=by
 unfold jl;rw[ar8 (by simp; omega)];have:(List.take k (List.zipWith (·+·) a b)).length=k:=by simp; omega
 rw[this,asE]; simp
theorem O8 {a b:List W} (h:a.length=b.length) {k:Nat} {x y:W} (ai:a[k]? = some x) (ay:b[k]? = some y) :(jl a b k).set k (x+y)=jl a b (k+1) :=by
 have hk:=(arY.1 ai).1;unfold jl;have am:(List.take k (List.zipWith (·+·) a b)).length=k:=by simp; omega
 have av:(List.zipWith (·+·) a b)[k]? = some (x+y) :=by rw[List.getElem?_zipWith,ai,ay]
 rw[asy _ _ (by omega),am,aui,asS hk,at9,ash,av];simp
set_option maxHeartbeats 8000000 in
theorem abB {h:ct} {b:List B} (ag:64<=b.length) {l:ap} {bk sz:Nat} {rest:List ad} {x:ad} {K:ad->ap->Prop} (am:l[bk]? = some (.cells sz (h.l.map bC++rest))) (ht:8<=sz) (ai:go (b8 l) x (cN (some b)))
  (bl:∀ junk,K (.bJ []) (l.set bk (.cells sz ((grind h b).l.map bC++rest))++junk)) :dr Tryz.prog GS 258 [.ptr bk 0 sz,x] l (c:=⟨K⟩) :=by
 apply bm Tryz.func258 [[],[[0],[1],[4],[5],[6],[7],[8],[9],[10],[11],[13],[14],[15],[17],[18],[19],[2,19,15],[3],[12],[16]]];simp;refine iW (aiU b ag) (.cons ai .nil) (QQ bC (fun _=>rfl) _) ?_;have aF:=e7 am;have db:=Ew b;have gk:(l++[aY.cells 64 ((fU b).map bC)])[bk]? = some (.cells sz (h.l.map bC++rest)) :=by rw[arZ aF]; exact am
 have ar:∀ i (y:W),i<8->h.l[i]? = some y->(h.l.map bC++rest)[i]? = some (bC y) :=fun i y ax ay=>by
  rw[arZ (by simpa [ct.l] using ax),ar5,ay]; rfl
 have dK:=ar 0 h.a (by omega) rfl;have q1:=ar 1 h.b (by omega) rfl;have dE:=ar 2 h.c (by omega) rfl;have hn:=ar 3 h.d (by omega) rfl;have Ij:=ar 4 h.e (by omega) rfl;have Ej:=ar 5 h.f (by omega) rfl;have By:=ar 6 h.g (by omega) rfl;have Vw:=ar 7 h.h (by omega) rfl;simp[oj,db,gk,dK,q1,dE,hn,Ij,Ej,By,Vw];refine cw 64 (fun k af l'=>af 0=.ptr bk 0 sz/\af 4=.ptr l.length 0 64/\af 5=bC (nA h b k).a/\af 6=bC (nA h b k).b/\af 7=bC (nA h b k).c/\af 8=bC (nA h b k).d/\af 9=bC (nA h b k).e/\af 10=bC (nA h b k).f/\af 11=bC (nA h b k).g/\af 12=bC (nA h b k).h/\af 52=.int .i64 k ∧
  l'=l++[.cells 64 ((fU b).map bC)]) ?_ ?_
 ·rintro k af l' hk ⟨cg,bp,bf,bT,dh,de,fP,ft,hJ,g2,Rg,rfl⟩;obtain⟨af,rfl⟩:=W9 cg bp bf bT dh de fP ft hJ g2 Rg;clear cg bp bf bT dh de fP ft hJ g2 Rg;simp;by_cases e9:(k:Int)<64
  ·have fw:IntKind.i64.wrap ((k:Int)+1)=k+1:=wrap_i64 (by omega) (by omega);have g4:k<64:=by omega
   have aJ:=ajT k g4;have hh:(fU b)[k]? = some ((fU b).getD k 0#32) :=by rw[asq,ar1 (by omega)]; rfl
   rw[VE h b k g4];generalize (fU b).getD k 0#32=lx at *
   generalize bW.getD k 0#32=kV at *
   generalize nA h b k=s at *
   have g9:=Un s.e 6 11 25 (by omega) (by omega) (by omega);have lk:=Un s.a 2 13 22 (by omega) (by omega) (by omega);simp at g9 lk;simp[e9,aJ,hh];refine aW g9 rfl ?_;simp[aJ,hh];refine aW lk rfl ?_;simp[g4,fw];simp[round]
  ·have yA:k=64:=by omega
   subst yA;rw[VD];obtain⟨v,aw⟩:∃ v,rounds h bW (fU b)=v:=⟨_,rfl⟩
   rw[aw];have yw:grind h b=⟨h.a+v.a,h.b+v.b,h.c+v.c,h.d+v.d,h.e+v.e,h.f+v.f,h.g+v.g,h.h+v.h⟩:=by unfold grind; rw[aw]
   simp;have qE:h.l.length=v.l.length:=rfl;have oK:h.l.length=8:=rfl;have Lb:(grind h b).l=jl h.l v.l 8:=by rw[yw]; rfl
   rw[Lb] at bl;refine cw 8 (fun k af l'=>af 0=.ptr bk 0 sz/\af 111=.aI (v.l.map bC)/\af 112=.int .i64 k/\l'=l.set bk (.cells sz ((jl h.l v.l k).map bC++rest))++[.cells 64 ((fU b).map bC)]) ?_ ?_
   ·rintro k af l' hk ⟨cg,Q9,Ra,rfl⟩;obtain⟨af,rfl⟩:=kb cg Q9 Ra;clear cg Q9 Ra;simp;by_cases e9:(k:Int)<8
    ·have fw:IntKind.i64.wrap ((k:Int)+1)=k+1:=wrap_i64 (by omega) (by omega);have iz:k<8:=by omega
     obtain⟨y,ay⟩:∃ y,v.l[k]? = some y:=⟨_,ar1 (show k<v.l.length from iz)⟩
     obtain⟨z,av⟩:∃ z,h.l[k]? = some z:=⟨_,ar1 (show k<h.l.length from iz)⟩
     have az:=O7 qE (k:=k) (by rw[oK]; exact iz);rw[av] at az;have hf:=Jj qE k;have ak:=oW bC (jl h.l v.l k) k (z+y) (by rw[hf,oK]; exact iz);rw[O8 qE av ay] at ak;have jx:((jl h.l v.l k).map bC).length=8:=by rw[asi,hf,oK]
     have hN:bt ((jl h.l v.l k).map bC++rest) k [bC (z+y)]=(jl h.l v.l (k+1)).map bC++rest:=by
      rw[<-ak];unfold bt;rw[asm (by omega),asL (by simp; omega)];simp
     have n0:((jl h.l v.l k).map bC++rest)[k]? = some (bC z) :=by rw[arZ (by omega),ar5,az]; rfl
     have pv:(l.set bk (.cells sz ((jl h.l v.l k).map bC++rest))++[aY.cells 64 ((fU b).map bC)])[bk]? = some (.cells sz ((jl h.l v.l k).map bC++rest)) :=by
      rw[arZ (by simpa using aF),atD]; simp[aF]
     have mY:k+1<=sz:=by omega
     simp[e9,ay,n0,pv,fw,hN,iz,mY,aF,List.set_append]
    ·have iz:k=8:=by omega
     subst iz;simp;exact bl _
   ·have kR:l.set bk (.cells sz ((jl h.l v.l 0).map bC++rest))=l:=by
     rw[O9]; exact aiZ am
    rw[kR];simp[ct.l]
 ·simp[VF]
abbrev nP (ls:dg fi) :ad:=cL 1 (fun s=>[cN s]) ls
theorem P0 (ls:dg fi) :(nP ls).closed=true:=xW (fun s=>by simp only[aZ,nj,atK]) ls
def bytesOf (ls:List fi) :List B:=(ls.map dg.l).flatten
theorem bytesOf_take (ls:List fi) (k:Nat) (s:fi) (h:ls[k]? = some s) :bytesOf (ls.take (k+1))=bytesOf (ls.take k)++s.l:=by
 unfold bytesOf;rw[ash,h]; simp
theorem PT (ls:List fi) (k:Nat) :(bytesOf (ls.take k)).length<=(bytesOf ls).length:=by
 conv=>rhs; rw[<-asK k ls]
 unfold bytesOf;rw[asv,asX,asa];omega
theorem abF {n:Nat} (aF:n<=1000000000) {l:ap} {K:ad->ap->Prop} (bl:∀ v j l',bB 1 l' v j []->l.length<=l'.length->(∀ b,b<l.length->l'[b]? = l[b]?)->(cx v=decide (n=0))->K v l') :dr Tryz.prog GS 235 [.aV,.int .i64 n] l (c:=⟨K⟩) :=by
 apply bm Tryz.func235 [];have h1:¬((n:Int)<0) :=by omega
 have hw:IntKind.i64.wrap (n:Int)=n:=wrap_i64 (by omega) (by omega);have Ma:IntKind.i64.wrap (0:Int)=0:=rfl;by_cases aB:n=0
 ·subst aB;simp;exact bl _ 0 _ (.nil 0) (ar0 _) (fun _ _=>rfl) rfl
 have ae:(0:Int)<n:=by omega
 have av:sG l 1 1 [.int .u8 0] .aV (.int .i64 n)=some (.au 1 l.length 0 n n (n*1),l++[.cells (n*1) (dZ [.int .u8 0] n)]) :=by
  unfold sG jm;simp only[asC];have aA:cK=140737488355328:=rfl;rw[if_pos ⟨by omega,by omega,by rw[aA]; omega⟩,if_neg aB,if_neg (by omega),if_pos (by rw[aA]; omega)]
 have ak:gS (.au 1) (.au 1 l.length 0 n n (n*1)) none (some (.int .i64 0)) none=some (.au 1 l.length 0 0 n (n*1)) :=by
  rw[zp,Jz,if_pos ⟨by omega,by omega⟩];simp[aB]
 rw[atC] at av ak;have al:0<n:=by omega
 simp[h1,ae,al,hw,av,Ma,ak];refine bl _ l.length (l++[.cells n (dZ [.int .u8 0] n)]) (.au _ 0 n n (dZ [.int .u8 0] n) [] (by simp) (by rw[BA]; simp) rfl (by simp) (by omega) (by omega) rfl) (by simp) (fun b ag=>arZ ag) ?_;simp[cx,aB]
def zZ (ls:List fi) :fi:=if bytesOf ls=[] then none else some (bytesOf ls)
theorem Zo (ls:List fi) :(zZ ls).l=bytesOf ls:=by unfold zZ; split<;>simp_all
set_option maxHeartbeats 4000000 in
theorem ZM (ls:List fi) (am:(bytesOf ls).length<=1000000000) (Dj:ls.length<=1000000000) :p1 Tryz.prog GS 194 [nP (some ls)] (cN (zZ ls)) :=by
 refine Eh Tryz.checked.mixed bD ?_;apply bm Tryz.func194 [];simp;have bG:∀ (k:Nat) (s:fi),ls[k]? = some s->cd (.au 1) (nP (some ls)) (.int .i64 k)=some (.b0 [cN s] 0) :=fun k s ak=>by simp[nP,th,ak]
 refine cw ls.length (fun k af l=>af 0=nP (some ls)/\af 9=nP (some ls)/\af 10=.int .i64 ls.length/\af 11=.int .i64 k/\af 3=.int .i64 (bytesOf (ls.take k)).length/\l=[]) ?_ ?_
 ·rintro k af l hk ⟨cg,fP,ft,hJ,a7,rfl⟩;obtain⟨af,rfl⟩:=ky cg a7 fP ft hJ;clear cg a7 fP ft hJ;simp;by_cases h:k<ls.length
  ·obtain⟨s,ak,_⟩:=bu h;have ag:=bytesOf_take ls k s ak;have dT:=PT ls (k+1);rw[ag,asa] at dT;have hw:IntKind.i64.wrap (((bytesOf (ls.take k)).length:Int)+s.l.length)=((bytesOf (ls.take k)).length:Int)+s.l.length:=wrap_i64 (by omega) (by omega);have fw:IntKind.i64.wrap ((k:Int)+1)=k+1:=wrap_i64 (by omega) (by omega);have qF:¬(((bytesOf (ls.take k)).length:Int)+s.l.length<0) :=by omega
   simp[h,bG k s ak,hw,qF,fw,ag]
  ·have cH:k=ls.length:=by omega
   subst cH;simp;refine abF am ?_;intro v j l aq bn _ gx;simp;refine cw ls.length (fun k af l=>af 25=nP (some ls)/\af 26=.int .i64 ls.length/\af 27=.int .i64 k/\∃ v j,af 6=v/\bB 1 l v j ((bytesOf (ls.take k)).map ci)/\cx v=decide (bytesOf ls=[])) ?_ ?_
   ·rintro k af l hk ⟨k6,mP,sU,v,j,bT,aq,gx⟩;obtain⟨af,rfl⟩:=jh bT k6 mP sU;clear bT k6 mP sU;simp;by_cases h:k<ls.length
    ·obtain⟨s,ak,_⟩:=bu h;have ag:=bytesOf_take ls k s ak;have dT:=PT ls (k+1);rw[ag,asa] at dT;have fw:IntKind.i64.wrap ((k:Int)+1)=k+1:=wrap_i64 (by omega) (by omega);have aA:cK=140737488355328:=rfl;obtain⟨a8,bK,l',h1,ae,al,aE,aU,bz⟩:=pb (by_:=1) aq (x:=cN s) (xs:=s.l.map ci) (by simp[cN]) (fun e ao=>by obtain⟨x,_,rfl⟩:=asr.1 ao; rfl) (by omega) (by omega) (by simp; omega);simp[h,bG k s ak,h1];refine dt.cy ?_;simp[h,fw];refine⟨⟨bK,by rw[ag,asv]; exact ae⟩,?_⟩;rw[uX bz,gx];by_cases ao:bytesOf ls=[]
     ·have aB:(bytesOf ls).length=0:=by rw[ao]; rfl
      have:s.l=[] :=asF.1 (by omega);simp[ao,this]
     ·simp[ao]
    ·have cH:k=ls.length:=by omega
     subst cH;simp;rw[asx] at aq;refine aq.Er (fun _=>rfl) _ ?_ (Zo ls);rw[gx];unfold zZ;split<;>simp_all
   ·simp;refine⟨⟨j,by simpa [bytesOf] using aq⟩,?_⟩;rw[gx];simp[asF]
 ·simp[bytesOf]
theorem ZA (s:dg B) :gq Tryz.prog .eql 136 (cL 1 ci s) .aV=some (.bool s.isNone) :=Fb (e:=5) (by kernel_rfl) 1 ci s
theorem ZB {s:dg B} (ak:s.l.length<=1000000000) {l:ap} {K:ad->ap->Prop} (bl:∀ v j l',bB 1 l' v j (s.l.map ci)->l.length<=l'.length->(∀ b,b<l.length->l'[b]? = l[b]?)->(v=.aV\/l.length<=j)->cx v=s.isNone->K v l') :dr Tryz.prog GS 259 [cL 1 ci s] l (c:=⟨K⟩) :=by
 apply bm Tryz.func259 [];simp[ZA];cases s with
 | none=>
  simp;exact bl _ 0 _ (.nil 0) (ar0 _) (fun _ _=>rfl) (.inl rfl) rfl
 | some b=>
  simp;have aA:cK=140737488355328:=rfl;have wL:b.length<=1000000000:=ak;have aq:bB 1 (l++[aY.cells 0 []]) (.au 1 l.length 0 0 0 0) l.length [] :=.au l.length 0 0 0 [] [] (by simp) rfl rfl (by simp) (ar0 _) (by omega) rfl;obtain⟨a8,bK,l',h1,ae,al,aE,aU,bz⟩:=pb (by_:=1) aq (x:=cL 1 ci (some b)) (xs:=b.map ci) (by simp) (fun e ao=>by obtain⟨x,_,rfl⟩:=asr.1 ao; rfl) (by omega) (by omega) (by simp; omega);simp[h1];refine dt.cy ?_;simp;have wh:l.length+1<=l'.length:=by simpa using al
  refine bl _ bK _ ae (by omega) (fun b ag=>?_) (.inr (by rcases aU with h | h<;>(try simp only[asa,asp,asU] at h)<;>omega)) ?_
  ·rw[aE b (by simp; omega) (by omega),arZ ag]
  ·rw[uX bz]; rfl
structure tW where
 st:ct
 rest:fi
 n:Int
def ha (s:ct) (r:ad) (n:Int) :List ad:=s.l.map bC++[r,.int .i64 n]
def rx (m:tW) :ad:=.aI (ha m.st (cN m.rest) m.n)
def ur (m:tW) (b:fi) :tW:=
 let all:=m.rest.l++b.l
 ⟨(hU m.st all).1,if all=[] then none else some (hU m.st all).2,m.n+b.l.length⟩
theorem Zp (a b:fi) :zZ [a,b]=if a.l++b.l=[] then none else some (a.l++b.l) :=by
 have:bytesOf [a,b]=a.l++b.l:=by simp[bytesOf]
 unfold zZ;rw[this]
theorem abC (h:ct) (b:List B) :grind h (b.take 64)=grind h b:=by unfold grind; rw[aiT b 64 (by omega)]
theorem w6 (s:ct) (r:ad) (n:Int) :(ha s r n).length=10:=rfl
set_option maxHeartbeats 8000000 in
theorem QE (m:tW) (b:fi) (am:m.rest.l.length+b.l.length<=1000000000) (aF:0<=m.n) (oM:m.n<=1000000000) :p1 Tryz.prog GS 239 [rx m,cN b] (rx (ur m b)) :=by
 refine Eh Tryz.checked.mixed bD ?_;apply bm Tryz.func239 [[[0],[1],[2],[3],[4],[5],[6,1]]];have ah:(ad.aI (ha m.st (cN m.rest) m.n)).cells=some (ha m.st (cN m.rest) m.n) :=rfl;have eQ:(ha m.st (cN m.rest) m.n)[8]? = some (cN m.rest) :=rfl;have R2:=ZM [m.rest,b] (by simp[bytesOf]; exact am) (by simp);rw[Zp] at R2;simp[rx,w6,eQ];refine Vo R2 (.cons ?_ .nil) ?_
 ·exact Eo (es:=[[cN m.rest],[cN b]]) (rest:=[]) rfl rfl (by simp) (by simp[aZ,nj])
 obtain⟨all,fg⟩:∃ all,all=m.rest.l++b.l:=⟨_,rfl⟩
 have hf:all.length<=1000000000:=by rw[fg]; simpa using am
 rw[<-fg];simp;refine cw (all.length / 64) (fun k af l=>af 1=cN b/\af 2=.ptr 0 0 10/\af 4=.ptr 1 0 10/\∃ h s hD junk,af 5=cN s/\l=.cells 10 (ha h (cN m.rest) m.n) ::.cells 10 hD::junk/\hU m.st all=hU h s.l/\s.l.length=all.length - 64*k/\hD.length=10/\s.isNone=decide (all=[])) ?_ ?_
 ·rintro k af l hk ⟨aL,aT,bp,h,s,hD,junk,bf,rfl,eC,eE,uW,S3⟩;obtain⟨af,rfl⟩:=jh aL aT bp bf;clear aL aT bp bf;have bn:cz (.au 1) (cN s)=some (.int .i64 s.l.length) :=r6 _;simp[bn];by_cases CS:(64:Int)<=s.l.length
  ·cases s with
   | none=>simp at CS
   | some iq=>
   have abI:(64:Int)<=iq.length:=CS;have RA:64<=iq.length:=by omega
   simp[abI];refine abB (h:=h) (b:=iq) RA (l:=.cells 10 (ha h (cN m.rest) m.n) ::.cells 10 hD::junk) (bk:=0) (sz:=10) (rest:=[cN m.rest,.int .i64 m.n]) rfl (by omega) (VN (nj _)) (fun aoP=>?_);have db:gS (.au 1) (cN (some iq)) (some (.int .i64 64)) none none=some (cN (some (iq.drop 64))) :=by
    unfold cN; rw[ai6 (by omega) (by omega)]; rfl
   simp[db];have anU:iq.length=all.length - 64*k:=eE;refine⟨by omega,grind h iq,some (iq.drop 64),rfl,hD,⟨rfl,rfl⟩,?_,?_,uW,?_⟩
   ·rw[eC];show hU h iq=_;rw[Cf h iq RA,abC]; rfl
   ·simp; omega
   ·exact S3
  ·have aM:s.l.length<64:=by omega
   have hw:IntKind.i64.wrap (m.n+(b.l.length:Int))=m.n+b.l.length:=wrap_i64 (by omega) (by omega);have ev:(ha h (cN m.rest) m.n)[9]? = some (.int .i64 m.n) :=rfl;have oL:cz (.au 1) (cN b)=some (.int .i64 b.l.length) :=r6 _;simp[CS,ev,oL,hw];refine ZB (by omega) ?_;intro v j l aq gj gk aj gx;obtain⟨l',rfl⟩:∃ l',l=.cells 10 (ha h (cN m.rest) m.n) ::.cells 10 hD::l':=by
    have h8:=gk 0 (by simp);have aR:=gk 1 (by simp);cases l with
    | nil=>simp at h8
    | cons a l=>cases l with
     | nil=>simp at aR
     | cons c l=>simp at h8 aR; subst h8 aR; exact⟨l,rfl⟩
   have aex:∀ r n hy,bt (ha h r n) 9 [.int .i64 hy]=ha h r hy:=fun _ _ _=>rfl
   have aew:∀ r n dI,bt (ha h r n) 8 [dI]=ha h dI n:=fun _ _ _=>rfl
   have aw:=aq.cells;simp[ev,aex,aew,aw,w6,uW,oj];have i9:∀ r n,List.take 10 (ha h r n)=ha h r n:=fun _ _=>rfl
   rw[i9,i9];have rO:ur m b=⟨h,if all=[] then none else some s.l,m.n+b.l.length⟩:=by
    unfold ur;rw[<-fg]
    dsimp only
    rw[eC,Fh h s.l aM]
   rw[rO];have oN:=(aq.nT (l':=.cells 10 (ha h v (m.n+(b.l.length:Int))) ::.cells 10 (ha h v (m.n+(b.l.length:Int))) ::l') (by
    rcases aj with aj | aj
    ·exact .inl aj
    ·obtain⟨q,rfl⟩:∃ q,j=q+2:=⟨j - 2,by simp at aj; omega⟩
     exact .inr rfl)).Er (fun _=>rfl) (if all=[] then none else some s.l) (by
     rw[gx,S3]; split<;>simp_all) (by
     split
     ·rename_i ao; rw[ao] at eE; simp at eE; rw[eE]; rfl
     ·rfl)
   refine .aI _ _ rfl fun i c c' nn md=>?_
   rcases i with _ | _ | _ | _ | _ | _ | _ | _ | _ | _ | i<;>simp[ha,ct.l] at nn md
   all_goals subst nn md
   all_goals first | exact oN | exact .flat _ rfl
 ·simp;exact⟨m.st,(if all=[] then none else some all),rfl,⟨[.int .u32 0,.int .u32 0,.int .u32 0,.int .u32 0,.int .u32 0,.int .u32 0,.int .u32 0,.int .u32 0,.aV,.int .i64 0],⟨rfl,rfl⟩,by split<;>simp_all,by split<;>simp_all,rfl,by split<;>simp_all⟩⟩
def fD (b:List B) :ad:=.aI (b.map bA)
def oo (n k:Nat) :List B:=128#8::List.replicate ((119 - n % 64) % 64) 0#8++(Ch (BitVec.ofNat 64 n*8#64)).take k
theorem Ot (n:Nat) :oo n 8=tail n:=rfl
theorem WR (n k:Nat) (x:B) (ai:(Ch (BitVec.ofNat 64 n*8#64))[k]? = some x) :oo n (k+1)=oo n k++[x] :=by
 unfold oo;rw[ash,ai]; simp
theorem IH (n k:Nat) :(oo n k).length<=80:=by
 unfold oo;have:(Ch (BitVec.ofNat 64 n*8#64)).length=8:=rfl;simp; omega
theorem PP (q:BitVec 64) (k:Nat) (hk:k<8) :(Ch q)[k]? = some ((q >>> (56 - 8*k)).setWidth 8) :=by
 match k,hk with
 | 0,_=>rfl
 | 1,_=>rfl
 | 2,_=>rfl
 | 3,_=>rfl
 | 4,_=>rfl
 | 5,_=>rfl
 | 6,_=>rfl
 | 7,_=>rfl
def q0 (s:List W) (k:Nat) :List B:=((s.take k).map vq).flatten++List.replicate (32 - 4*k) 0#8
theorem Xo (s:List W) :(s.map vq).flatten.length=4*s.length:=by
 induction s with
 | nil=>rfl
 | cons w s aO=>simp[aO,vq]; omega
theorem agV (s:List W) (k:Nat) (hk:k<=s.length) (ak:s.length=8) :(q0 s k).length=32:=by
 unfold q0;rw[asa,Xo];simp; omega
theorem agW (s:List W) (k:Nat) (w:W) (hk:s[k]? = some w) (ak:s.length=8) :
  ((((q0 s k).set (4*k) ((w >>> 24).setWidth 8)).set (4*k+1) ((w >>> 16).setWidth 8)).set (4*k+2) ((w >>> 8).setWidth 8)).set (4*k+3) (w.setWidth 8)=q0 s (k+1) :=by
 have iz:=(arY.1 hk).1;unfold q0;rw[ash,hk];have cv:((s.take k).map vq).flatten.length=4*k:=by rw[Xo]; simp; omega
 obtain⟨A,ye⟩:∃ A,A=((s.take k).map vq).flatten:=⟨_,rfl⟩
 rw[<-ye] at cv ⊢;have aA:32 - 4*k=(32 - 4*(k+1))+1+1+1+1:=by omega
 rw[aA,atd,atd,atd,atd];rw[asy _ _ (by omega),asy _ _ (by omega),asy _ _ (by omega),asy _ _ (by omega)];simp only[cv,aui,Nat.add_sub_cancel_left,at9,auy,asv,asX,<-ye];simp[vq]
def FE (s:ct) (r:fi) (n:Nat) :List B:=written (hU s (r.l++tail n)).1
set_option maxHeartbeats 8000000 in
theorem aal (s:ct) (r:fi) (n:Nat) (aA:r.l.length<=100000000) (aF:n<=100000000) :bx Tryz.prog GS 240 [rx ⟨s,r,n⟩] (fD (FE s r n)) :=by
 refine bH Tryz.checked.mixed bD ?_;apply bm Tryz.func240 [];have ev:(ha s (cN r) n)[9]? = some (.int .i64 n) :=rfl;have ah:(ad.aI (ha s (cN r) n)).cells=some (ha s (cN r) n) :=rfl;have n5:=Fi n 64 (by omega);obtain⟨q,bd⟩:∃ q,q=n % 64:=⟨_,rfl⟩
 rw[show ((64:Int).toNat)=64 from rfl,<-bd] at n5;have aos:q<64:=by rw[bd]; exact aud _ (by omega)
 have ko:IntKind.i64.wrap (119 - (q:Int))=(119 - q:Nat) :=by rw[wrap_i64 (by omega) (by omega)]; omega
 have G8:=Fi (119 - q) 64 (by omega);rw[show ((64:Int).toNat)=64 from rfl] at G8;obtain⟨m,hm⟩:∃ m,m=(119 - q) % 64:=⟨_,rfl⟩
 rw[<-hm] at G8;have aoe:m<64:=by rw[hm]; exact aud _ (by omega)
 obtain⟨t,aJ⟩:∃ t,t=119 - q:=⟨_,rfl⟩
 rw[<-aJ] at ko G8;have ml:cK=140737488355328:=rfl;obtain⟨L,dS⟩:∃ L:ap,L=[aY.cells 10 (ha s (cN r) n),aY.cells 32 (rep 32 (ad.int IntKind.u8 0)),aY.cells 1 [ad.int IntKind.u8 128]] :=⟨_,rfl⟩
 have abX:L[0]? = some (aY.cells 10 (ha s (cN r) n)) :=by rw[dS]; rfl
 have abY:L[1]? = some (aY.cells 32 (rep 32 (ad.int IntKind.u8 0))) :=by rw[dS]; rfl
 have mR:L.length=3:=by rw[dS]; rfl
 have adX:bB 1 L (.au 1 2 0 1 1 1) 2 [[ad.int IntKind.u8 128]] :=by
  rw[dS];exact .au 2 1 1 1 [.int .u8 128] _ rfl rfl rfl (by simp) (ar0 _) (ar0 _) rfl
 have adI:m<9223372036854775808:=by omega
 have dO:(List.length [[ad.int IntKind.u8 128]]+m)*1<=cK:=by rw[ml]; simp; omega
 have adB:=YD (n:=m) (k:=.i64) (by_:=1) (zero:=[.int .u8 0]) adX rfl (by omega) (by omega) adI dO;obtain⟨v,j,l,h1,aq,al,aE,aU,bz⟩:=adB;have aw:cx v=false:=by
  rw[au9]; intro aH;rw[jC,bz] at aH;cases aH.1
 have aP:u 128#8=128:=by decide
 have ao:([[ad.int IntKind.u8 128]]++List.replicate m [ad.int IntKind.u8 0] :List (List ad))=(oo n 0).map ci:=by
  have:m=(119 - n % 64) % 64:=by rw[hm,bd]
  unfold oo;rw[<-this];simp[ci,aP]
 rw[ao] at aq;have h8:=(aE 0 (by omega) (by omega)).trans abX;have aR:=(aE 1 (by omega) (by omega)).trans abY;have jZ:2<=j:=by rcases aU with h | h<;>omega
 simp[rx,w6,ev,n5,ko,G8];rw[<-dS];simp[h1];refine cw 8 (fun k af l=>af 1=.ptr 0 0 10/\af 2=.ptr 1 0 32/\af 3=cU (BitVec.ofNat 64 n*8#64)/\af 5=.int .i64 (56 - 8*(k:Int))/\∃ v j,af 4=v/\2<=j/\cx v=false/\bB 1 l v j ((oo n k).map ci)/\l[0]? = some (aY.cells 10 (ha s (cN r) n))/\l[1]? = some (aY.cells 32 (rep 32 (ad.int IntKind.u8 0)))) ?_ ?_
 ·rintro k af l hk ⟨aL,aT,a7,bf,v,j,bp,aj,aw,aq,h8,aR⟩;obtain⟨af,rfl⟩:=ky aL aT a7 bp bf;clear aL aT a7 bp bf;obtain⟨c,ah⟩:∃ c:Int,c=56 - 8*(k:Int) :=⟨_,rfl⟩
  rw[<-ah];simp;by_cases iz:0<=c
  ·have AK:k<8:=by omega
   have ai:=PP (BitVec.ofNat 64 n*8#64) k AK;have qq:c.toNat=56 - 8*k:=by omega
   have A5:IntKind.i64.wrap (c - 8)=56 - 8*((k:Int)+1) :=by rw[wrap_i64 (by omega) (by omega)]; omega
   have lf:=IH n k;have kQ:bB 1 (l++[aY.cells 1 [bA (((BitVec.ofNat 64 n*8#64) >>> (56 - 8*k)).setWidth 8)]]) v j ((oo n k).map ci) :=aq.more _;obtain⟨a8,bK,l',h1,ae,al,aE,aU,bz⟩:=pb (by_:=1) kQ (x:=.au 1 l.length 0 1 1 1) (xs:=[[bA (((BitVec.ofNat 64 n*8#64) >>> (56 - 8*k)).setWidth 8)]]) (by simp[dA]) (by simp) (by omega) (by omega) (by simp; omega);have e3:j<l.length:=by
    rcases aq.lt with h | h
    ·subst h; simp[cx] at aw
    ·exact h
   have aaf:l'[0]? = some (aY.cells 10 (ha s (cN r) n)) :=by rw[aE 0 (by simp) (by omega),arZ (e7 h8)]; exact h8
   have JW:l'[1]? = some (aY.cells 32 (rep 32 (ad.int IntKind.u8 0))) :=by
    have:=e7 aR;rw[aE 1 (by simp; omega) (by omega),arZ (e7 aR)]; exact aR
   have fH:cx a8=false:=by rw[uX bz,aw]; rfl
   have ep:2<=bK:=by
    rcases aU with h | h
    ·omega
    ·have h:=ati (show l.length<=(l++[aY.cells 1 [bA (((BitVec.ofNat 64 n*8#64) >>> (56 - 8*k)).setWidth 8)]]).length by simp) h;omega
   simp[iz,qq,h1];refine dt.cy ?_;simp[iz,A5];exact⟨by omega,bK,ep,fH,by rw[WR n k _ ai,asv]; exact ae,aaf,JW⟩
  ·have uJ:k=8:=by omega
   subst uJ;rw[Ot] at aq;have AG:=QE ⟨s,r,n⟩ (some (tail n)) (by have:=IH n 8; rw[Ot] at this; simp; omega) (by simp) (by simp; omega);have ai:=aq.na (fun _=>rfl) (some (tail n)) (by rw[aw]; rfl) rfl;have Si:(ur ⟨s,r,n⟩ (some (tail n))).st=(hU s (r.l++tail n)).1:=rfl;obtain⟨F,lG⟩:∃ F,F=ur ⟨s,r,n⟩ (some (tail n)) :=⟨_,rfl⟩
   rw[<-lG] at AG Si;have AM:aZ [rx ⟨s,r,n⟩]=true:=by simp[aZ,rx,ad.closed,ha,ct.l,nj]
   have acZ:CJ 8 0 (rx F)=some (.aI (F.st.l.map bC)) :=rfl;have oK:F.st.l.length=8:=rfl;simp[iz,h8,w6];refine Vo AG (.cons (VN ?_) (.cons ai .nil)) ?_
   ·show (ad.aI (ha s (cN r) n)).closed=true;simp[ad.closed,aZ,ha,ct.l,nj]
   simp[acZ];refine cw 8 (fun k af l=>af 2=.ptr 1 0 32/\af 33=.aI (F.st.l.map bC)/\af 34=.int .i64 k/\l[1]? = some (aY.cells 32 ((q0 F.st.l k).map bA))) ?_ ?_
   ·rintro k af l hk ⟨aT,wa,wb,aR⟩;obtain⟨af,rfl⟩:=kb aT wa wb;clear aT wa wb;obtain⟨BU,bQ,rfl⟩:=akc aR;clear aR;simp;by_cases iz:(k:Int)<8
    ·have e9:k<8:=by omega
     obtain⟨w,hw⟩:∃ w,F.st.l[k]? = some w:=⟨_,ar1 (show k<F.st.l.length from e9)⟩
     have bO:=agV F.st.l k (by omega) oK;have qH:=agW F.st.l k w hw oK;have l3:IntKind.i64.wrap (4*(k:Int))=(4*k:Nat) :=by rw[wrap_i64 (by omega) (by omega)]; omega
     have bX:IntKind.i64.wrap (((4*k:Nat) :Int)+1)=(4*k+1:Nat) :=by rw[wrap_i64 (by omega) (by omega)]; omega
     have w2:IntKind.i64.wrap (((4*k:Nat) :Int)+2)=(4*k+2:Nat) :=by rw[wrap_i64 (by omega) (by omega)]; omega
     have et:IntKind.i64.wrap (((4*k:Nat) :Int)+3)=(4*k+3:Nat) :=by rw[wrap_i64 (by omega) (by omega)]; omega
     have lx:IntKind.i64.wrap ((k:Int)+1)=k+1:=wrap_i64 (by omega) (by omega);obtain⟨a,az⟩:∃ a,a=4*k:=⟨_,rfl⟩
     rw[<-az] at l3 bX w2 et qH;have s0:=oW bA (q0 F.st.l k) a ((w >>> 24).setWidth 8) (by omega);have fZ:=oW bA ((q0 F.st.l k).set a ((w >>> 24).setWidth 8)) (a+1) ((w >>> 16).setWidth 8) (by simp; omega);have ho:=oW bA (((q0 F.st.l k).set a ((w >>> 24).setWidth 8)).set (a+1) ((w >>> 16).setWidth 8)) (a+2) ((w >>> 8).setWidth 8) (by simp; omega);have oV:=oW bA ((((q0 F.st.l k).set a ((w >>> 24).setWidth 8)).set (a+1) ((w >>> 16).setWidth 8)).set (a+2) ((w >>> 8).setWidth 8)) (a+3) (w.setWidth 8) (by simp; omega);rw[qH] at oV;have hF:(a:Int)<32:=by omega
     have dx:((a+1:Nat) :Int)<32:=by omega
     have di:((a+2:Nat) :Int)<32:=by omega
     have gA:((a+3:Nat) :Int)<32:=by omega
     have xS:a+1<=32:=by omega
     have cm:a+1+1<=32:=by omega
     have dk:a+2+1<=32:=by omega
     have kH:a+3+1<=32:=by omega
     have d1:(a:Int)+1<32:=by omega
     have d2:(a:Int)+2<32:=by omega
     have d3:(a:Int)+3<32:=by omega
     have f1:((a:Int)+1).toNat=a+1:=by omega
     have f2:((a:Int)+2).toNat=a+2:=by omega
     have f3:((a:Int)+3).toNat=a+3:=by omega
     have tw:(0:Int)<=(a:Int)+1:=by omega
     have gP:(0:Int)<=(a:Int)+2:=by omega
     have sh:(0:Int)<=(a:Int)+3:=by omega
     simp[iz,e9,hw,l3,bX,w2,et,lx,hF,s0,fZ,ho,oV,xS,cm,dk,kH,d1,d2,d3,f1,f2,f3,tw,gP,sh,-List.map_set]
    ·have uJ:k=8:=by omega
     subst uJ;have ad0:q0 F.st.l 8=written F.st:=by simp[q0,written,ct.l]
     rw[ad0];have wR:(written F.st).length=32:=rfl;simp[wR,oj,arX];exact aK (by unfold fD FE; rw[Si]) (P1 bA (fun _=>rfl) _)
   ·simp[aR];rw[VZ .u8 8]; rfl
 ·simp;exact⟨j,jZ,aw,aq,h8,aR⟩
structure zJ (m:tW) (b:List B) :Prop where
 Jw:hU first b=(m.st,m.rest.l)
 n:m.n=b.length
theorem afo {m:tW} {b:List B} (h:zJ m b) (s:fi) :zJ (ur m s) (b++s.l) :=by
 have h1:hU first (b++s.l)=hU m.st (m.rest.l++s.l) :=by rw[PK,h.Jw]
 refine⟨?_,?_⟩
 ·rw[h1];unfold ur
  dsimp only
  split
  ·rename_i ao;rw[ao]; rfl
  ·rfl
 ·unfold ur
  dsimp only
  rw[h.n]; simp
theorem afp {m:tW} {b:List B} (h:zJ m b) :m.rest.l.length<64:=by
 have:=YY first b
 rw[h.Jw] at this;simp only at this;rw[this]; exact aud _ (by omega)
theorem afn {m:tW} {b:List B} (h:zJ m b) :FE m.st m.rest b.length=iH b:=by
 unfold FE iH;rw[PK first b,h.Jw]
def start:tW:=⟨first,none,0⟩
theorem afq:zJ start [] :=⟨rfl,rfl⟩
theorem ajC:p1 Tryz.prog GS 238 [] (rx start) :=by
 refine Eh Tryz.checked.mixed bD ?_;apply bm Tryz.func238 [];simp;exact .flat _ rfl
def tj (s:fi) :Bool:=decide ((10000:Int)<s.l.length)
theorem af4 (s:fi) :bx Tryz.prog GS 237 [cN s] (.bool (tj s)) :=by
 refine bH Tryz.checked.mixed bD ?_;apply bm Tryz.func237 [];simp[cN];exact aK rfl rfl
theorem aa2:iv Tryz.prog 237=true:=by kernel_rfl
def idx (l:List fi) :Int:=match l.findIdx? tj with | some i=>(i:Int) | none=>-1
theorem aeW {l:List fi} {k:Nat} {s:fi} (ak:l[k]? = some s) (am:tj s=true) (dY:∀ j s,j<k->l[j]? = some s->tj s=false) :idx l=k:=by
 have:l.findIdx? tj=some k:=by
  rw[List.findIdx?_eq_some_iff_getElem];obtain⟨h1,rfl⟩:=arY.1 ak;refine⟨h1,am,fun j aj=>?_⟩;rw[dY j l[j] aj (ar1 (by omega))]; simp
 unfold idx; rw[this]
theorem TK {l:List fi} (dY:∀ j s,j<l.length->l[j]? = some s->tj s=false) :idx l=-1:=by
 have:l.findIdx? tj=none:=by
  rw[List.findIdx?_eq_none_iff];intro x ai;obtain⟨j,aj⟩:=ar6.1 ai;exact dY j x (arY.1 aj).1 aj
 unfold idx; rw[this]
theorem Mo (ls:dg fi) (am:ls.l.length<=1000000000) :bx Tryz.prog GS 257 [nP ls,.fn 237 [] []] (.int .i64 (idx ls.l)) :=by
 refine bH Tryz.checked.mixed bD ?_;apply bm Tryz.func257 [];have bn:cz (.au 1) (nP ls)=some (.int .i64 ls.l.length) :=r6 _;simp[bn];refine cw ls.l.length (fun k af l=>af 0=nP ls/\af 1=.fn 237 [] []/\af 7=.int .i64 ls.l.length/\af 8=.int .i64 k/\∀ j s,j<k->ls.l[j]? = some s->tj s=false) ?_ (by simp);rintro k af l hk ⟨cg,aL,dh,de,dY⟩;obtain⟨af,rfl⟩:=jh cg aL dh de;clear cg aL dh de;simp;by_cases h:k<ls.l.length
 ·obtain⟨s,ak,_⟩:=bu h;have bG:cd (.au 1) (nP ls) (.int .i64 k)=some (.b0 [cN s] 0) :=by
   rw[th]; simp[ak]
  have fw:IntKind.i64.wrap ((k:Int)+1)=k+1:=wrap_i64 (by omega) (by omega);simp[h,bG];refine⟨aa2,aW (af4 s) (by simp[aZ,nj]) ?_⟩;cases gl:tj s with
  | true=>
   simp;rw[aeW ak gl dY];exact aK rfl rfl
  | false=>
   simp[h,fw];intro j q6 aj wL;rcases as3 j k with h1 | h1
   ·exact dY j q6 h1 wL
   ·have:j=k:=by omega
    subst this;rw[ak] at wL; cases wL; exact gl
 ·simp[h];rw[TK (fun j s aj ak=>dY j s (by omega) ak)];exact aK rfl rfl
theorem ZP (ls:dg fi) (am:ls.l.length<=1000000000) :bx Tryz.prog GS 236 [nP ls,.fn 237 [] []] (.bool (decide (0<=idx ls.l))) :=by
 refine bH Tryz.checked.mixed bD ?_;apply bm Tryz.func236 [];simp;refine aW (Mo ls am) (by simp[aZ,ad.closed,P0]) ?_;simp;exact aK rfl rfl
set_option maxHeartbeats 4000000 in
theorem U7 (ls:List fi) (anu:ls.length<=20) (dY:∀ s∈ls,s.l.length<=10000) :bx Tryz.prog GS 196 [nP (some ls)] (.bJ [fD (iH (bytesOf ls)),.int .i64 0]) :=by
 have wz:idx ls=-1:=TK fun j s aj ak=>by
  have:=dY s (ar4 ak);unfold tj; simp; omega
 have bn:∀ k,(bytesOf (ls.take k)).length<=200000:=fun k=>by
  have:∀ l:List fi,(∀ s∈l,s.l.length<=10000)->(bytesOf l).length<=10000*l.length:=by
   intro l
   induction l with
   | nil=>intro _; simp[bytesOf]
   | cons s l aO=>
    intro h;have h1:=aO fun x ai=>h x (by simp[ai])
    have ae:=h s (by simp);unfold bytesOf at h1 ⊢;rw[ast,as4,asa,asp];omega
  have h1:=this (ls.take k) fun s ak=>dY s (asz ak)
  have ae:(ls.take k).length<=20:=by simp; omega
  omega
 refine bH Tryz.checked.mixed bD ?_;apply bm Tryz.func196 [];have abG:¬(20:Int)<ls.length:=by omega
 have R5:=ZP (some ls) (by simp; omega);rw[dg.tt,wz] at R5;simp[abG];refine aW R5 (by simp[aZ,ad.closed,P0]) ?_;simp;refine aW ajC.IJ rfl ?_;simp[rx,w6,oj];refine cw ls.length (fun k af l=>af 2=.ptr 0 0 32/\af 4=.ptr 1 0 10/\af 16=nP (some ls)/\af 17=.int .i64 ls.length/\af 18=.int .i64 k/\∃ m,zJ m (bytesOf (ls.take k))/\l=[.cells 32 (rep 32 (.int .u8 0)),.cells 10 (ha m.st (cN m.rest) m.n)]) ?_ ?_
 ·rintro k af l hk ⟨aT,bp,qi,oD,sS,m,hm,rfl⟩;obtain⟨af,rfl⟩:=ky aT bp qi oD sS;clear aT bp qi oD sS;simp;have gV:(ad.aI (ha m.st (cN m.rest) m.n)).closed=true:=by simp[ad.closed,aZ,ha,ct.l,nj]
  have i9:List.take 10 (ha m.st (cN m.rest) m.n)=ha m.st (cN m.rest) m.n:=rfl;have mn:=afp hm;have py:=hm.n;have jy:=bn k;by_cases h:k<ls.length
  ·obtain⟨s,ak,gD⟩:=bu h;have bG:cd (.au 1) (nP (some ls)) (.int .i64 k)=some (.b0 [cN s] 0) :=by
    rw[th]; simp[ak]
   have fw:IntKind.i64.wrap ((k:Int)+1)=k+1:=wrap_i64 (by omega) (by omega);have h1:=dY s gD;have aD:=QE m s (by omega) (by omega) (by omega);have i6:=afo hm s;rw[<-bytesOf_take ls k s ak] at i6;obtain⟨F,lG⟩:∃ F,F=ur m s:=⟨_,rfl⟩
   rw[<-lG] at aD i6;simp[h,bG,w6,i9];refine aW aD.IJ ?_ ?_
   ·simp only[aZ,gV,nj,atK]
   simp[rx,w6,oj,h,fw];exact⟨F,i6,rfl⟩
  ·have cH:k=ls.length:=by omega
   subst cH;rw[asx] at hm py jy;have ao:=aal m.st m.rest (bytesOf ls).length (by omega) (by omega);rw[afn hm] at ao;have i7:m=⟨m.st,m.rest,((bytesOf ls).length:Int)⟩:=by rw[<-py]
   rw[<-i7] at ao;have db:=vj (bytesOf ls);simp[h,w6,i9];refine aW ao ?_ ?_
   ·simp only[aZ,gV,atK]
   have cY:((iH (bytesOf ls)).map bA).length=32:=by rw[asi,db]
   simp[fD,db,oj,arX];exact aK rfl (by simp[ad.closed,aZ,lD bA (fun _=>rfl)])
 ·simp[bytesOf];exact⟨start,afq,rfl⟩
theorem ajL (s:fi) (h:s.l.length<=10000) :bx Tryz.prog GS 145 [cN s] (.bJ [fD (iH s.l),.int .i64 0]) :=by
 have ag:bytesOf [s]=s.l:=by simp[bytesOf]
 have aC:=U7 [s] (by simp) (by simpa using h);rw[ag] at aC;refine bH Tryz.checked.mixed bD ?_;apply bm Tryz.func145 [];have db:=vj s.l;simp;refine iW aC (.cons ?_ .nil) (by simp[ad.flat,mL,fD,Ah bA (fun _=>rfl)]) ?_
 ·exact Eo (es:=[[cN s]]) (rest:=[]) rfl rfl (by simp) (by simp[aZ,nj])
 simp[fD,db,oj,arX];exact aK rfl (by simp[ad.closed,aZ,lD bA (fun _=>rfl)])
theorem tR (x:W) (n:Nat) (aB:0<n) (h:n<32) :bx Tryz.prog GS 226 [bC x,.int .i64 n] (bC (og x n)) :=by
 refine bH Tryz.checked.mixed bD ?_;apply bm Tryz.func226 [];have hw:IntKind.i64.wrap (32 - (n:Int))=(32 - n:Nat) :=by rw[wrap_i64 (by omega) (by omega)]; omega
 obtain⟨m,hm⟩:∃ m,m=32 - n:=⟨_,rfl⟩
 rw[<-hm] at hw;simp[hw];exact aK (by unfold og; rw[hm]) rfl
def e1 (x:W) :List ad:=[bC x]
set_option maxHeartbeats 4000000 in
theorem ZN:p1 Tryz.prog GS 227 [] (cL 1 e1 (some bW)) :=by
 refine Eh Tryz.checked.mixed bD ?_;apply bm Tryz.func227 [];simp;exact VQ (z:=1) (es:=bW.map e1) (rest:=[]) (by kernel_rfl) (by kernel_rfl) (fun e ao=>by obtain⟨y,_,rfl⟩:=asr.1 ao; rfl) (fun e ao=>by obtain⟨y,_,rfl⟩:=asr.1 ao; rfl)
theorem aaX:bx Tryz.prog GS 125 [] (.aI (first.l.map bC)) :=by
 refine bH Tryz.checked.mixed bD ?_;apply bm Tryz.func125 [];simp;exact aK rfl rfl
theorem ald (b:List B) (t:Nat) (hF dx di gA:B) (aB:b[4*t]? = some hF) (h1:b[4*t+1]? = some dx) (ae:b[4*t+2]? = some di) (al:b[4*t+3]? = some gA) :
  pW ((b.drop (4*t)).take 4)=((hF.setWidth 32*256#32+dx.setWidth 32)*256#32+di.setWidth 32)*256#32+gA.setWidth 32:=by
 have h:(b.drop (4*t)).take 4=[hF,dx,di,gA] :=by
  have am:=(arY.1 al).1;apply asY;intro i
  match i with
  | 0=>simp[aB]
  | 1=>simp[h1]
  | 2=>simp[ae]
  | 3=>simp[al]
  | i+4=>rw[ase (by simp; omega),ase (by simp)]
 rw[h];show ((((0#32 <<< 8 ||| hF.setWidth 32) <<< 8 ||| dx.setWidth 32) <<< 8 ||| di.setWidth 32) <<< 8 ||| gA.setWidth 32)=_;rw[IA,IA,IA,IA];simp
theorem Xh {l:ap} {v:ad} {j:Nat} {hC:List W} (h:bB 1 l v j (hC.map e1)) (aw:cx v=false) :∃ (cap sz:Nat) (cs:List ad),v=.au 1 j 0 hC.length cap sz/\l[j]? = some (.cells sz cs)/\∀ (i:Nat) (x:W),hC[i]? = some x->cs[i]? = some (bC x) :=by
 obtain⟨n,cap,sz,cs,h1,ae,al,aE,aU,bz,_⟩:=h.view aw;rw[asi] at aE;subst aE;refine⟨cap,sz,cs,h1,ae,fun i x ai=>?_⟩;have:=bz i (e1 x) (by rw[ar5,ai]; rfl) 0 (by omega);simpa [e1] using this
theorem alg (b:List B) (k:Nat) (hk:k<16) :(fN b).take (k+1)=(fN b).take k++[pW ((b.drop (4*k)).take 4)] :=by
 have:(fN b)[k]? = some (pW ((b.drop (4*k)).take 4)) :=by unfold fN; rw[ar5,asI hk]; rfl
 rw[ash,this]; rfl
theorem ale (b:List B) :(fN b).length=16:=by simp[fN]
theorem aaD (k:Nat) (b:List B) :(i3 k (fN b)).length=16+k:=by simp[x6,fN]
set_option maxHeartbeats 16000000 in
theorem abD (h:ct) (b:List B) (ag:64<=b.length) :bx Tryz.prog GS 174 [.aI (h.l.map bC),cN (some b)] (.aI ((grind h b).l.map bC)) :=by
 have ml:cK=140737488355328:=rfl;have Ss:(h.l.map bC).length=8:=rfl;refine bH Tryz.checked.mixed bD ?_;apply bm Tryz.func174 [[],[],[[0],[1],[2],[3],[4],[5],[6],[7],[8],[9],[10],[11],[12],[14],[17],[18],[21],[23],[26],[27],[13,10,5],[15,10,5],[16],[19],[20],[22,10,5],[24,10,5],[25]],[],[[0],[1],[2],[4],[7],[11],[12],[13],[14],[15],[16],[17],[18],[20],[21],[22],[23],[25],[26],[27],[28],[3,28,23,1],[5,28,23,1],[6],[8,28,23,1],[9],[10],[19],[24]]];simp[Ss];refine cw 16 (fun k af l=>af 1=cN (some b)/\af 2=.ptr 0 0 8/\af 4=.ptr 1 0 8/\af 6=.int .i64 k/\∃ v j hD rest,af 5=v/\(cx v=true->k=0)/\(v=.aV\/2<=j)/\bB 1 l v j (((fN b).take k).map e1)/\l=.cells 8 (h.l.map bC) ::.cells 8 hD::rest/\hD.length=8) ?_ ?_
 ·rintro k af l hk ⟨aL,aT,bp,bT,v,j,hD,rest,bf,aw,aj,aq,rfl,kr⟩;obtain⟨af,rfl⟩:=ky aL aT bp bf bT;clear aL aT bp bf bT;by_cases SD:(k:Int)<16
  ·have e9:k<16:=by omega
   obtain⟨a,az⟩:∃ a,a=4*k:=⟨_,rfl⟩
   have l3:IntKind.i64.wrap (4*(k:Int))=(a:Nat) :=by rw[wrap_i64 (by omega) (by omega)]; omega
   obtain⟨aX,KR⟩:∃ x,x=a+1:=⟨_,rfl⟩
   obtain⟨bg,acb⟩:∃ x,x=a+2:=⟨_,rfl⟩
   obtain⟨a3,acd⟩:∃ x,x=a+3:=⟨_,rfl⟩
   have bX:IntKind.i64.wrap ((a:Int)+1)=aX:=by rw[wrap_i64 (by omega) (by omega)]; omega
   have w2:IntKind.i64.wrap ((a:Int)+2)=bg:=by rw[wrap_i64 (by omega) (by omega)]; omega
   have et:IntKind.i64.wrap ((a:Int)+3)=a3:=by rw[wrap_i64 (by omega) (by omega)]; omega
   have lx:IntKind.i64.wrap ((k:Int)+1)=k+1:=wrap_i64 (by omega) (by omega);obtain⟨hF,lJ⟩:∃ x,b[a]? = some x:=⟨_,ar1 (by omega)⟩
   obtain⟨dx,g3⟩:∃ x,b[aX]? = some x:=⟨_,ar1 (by omega)⟩
   obtain⟨di,fm⟩:∃ x,b[bg]? = some x:=⟨_,ar1 (by omega)⟩
   obtain⟨gA,rE⟩:∃ x,b[a3]? = some x:=⟨_,ar1 (by omega)⟩
   have bG:∀ (i:Nat) (x:B),b[i]? = some x->cd (.au 1) (cN (some b)) (.int .i64 i)=some (.b0 (ci x) 0) :=fun i x ai=>by rw[th]; simp[ai]
   have wU:=bG a hF lJ;have eg:=bG aX dx g3;have eK:=bG bg di fm;have hO:=bG a3 gA rE;have Mc:=alg b k e9;rw[ald b k hF dx di gA (by rw[<-az]; exact lJ) (by rw[<-az,<-KR]; exact g3) (by rw[<-az,<-acb]; exact fm) (by rw[<-az,<-acd]; exact rE)] at Mc;obtain⟨w,hw⟩:∃ w,w=((hF.setWidth 32*256#32+dx.setWidth 32)*256#32+di.setWidth 32)*256#32+gA.setWidth 32:=⟨_,rfl⟩
   rw[<-hw] at Mc;have kQ:bB 1 ([.cells 8 (h.l.map bC),.cells 8 hD]++(rest++[aY.cells 1 [bC w]])) v j (((fN b).take k).map e1) :=aq.more [aY.cells 1 [bC w]];have jy:(((fN b).take k).map e1).length<=16:=by simp; omega
   obtain⟨a8,bK,dI,h1,ae,al,aE⟩:=sH (by_:=4) kQ aj (x:=.au 1 (rest.length+2) 0 1 1 1) (xs:=[e1 w]) (by simp[dA,e1]) (by simp[e1]) (by omega) (by omega) (by rw[ml]; simp; omega);have gh:bB 1 (.cells 8 (h.l.map bC) ::.cells 8 hD::dI) a8 bK (((fN b).take (k+1)).map e1) :=by rw[Mc,asv]; exact ae
   simp only[as5,asO] at h1;have fH:cx a8=false:=by rw[aE]; simp
   simp[SD,l3,bX,w2,et,wU,eg,eK,hO,ci];rw[<-hw];simp[h1];refine dt.cy ?_;simp[SD,lx,e9];exact⟨fH,bK,al,by rw[<-avB]; exact gh,kr⟩
  ·have e9:k=16:=by omega
   subst e9;have iP:cx v=false:=by
    cases L9:cx v with
    | false=>rfl
    | true=>exact absurd (aw L9) (by omega)
   have jZ:2<=j:=by
    rcases aj with h | h
    ·subst h; cases iP
    ·exact h
   have adY:bB 1 (.cells 8 (h.l.map bC) ::.cells 8 hD::rest) v j ((fN b).map e1) :=by
    have:(fN b).take 16=fN b:=arX (by rw[ale]; omega);rw[this] at aq; exact aq
   clear aw aj aq;simp;refine cw 48 (fun k af l=>af 2=.ptr 0 0 8/\af 4=.ptr 1 0 8/\af 7=.int .i64 (16+k:Nat)/\∃ v j hD rest,af 5=v/\cx v=false/\2<=j/\bB 1 l v j ((i3 k (fN b)).map e1)/\l=.cells 8 (h.l.map bC) ::.cells 8 hD::rest/\hD.length=8) ?_ ?_
   ·rintro k af l hk ⟨aT,bp,dh,v,j,hD,rest,bf,aw,aj,aq,rfl,kr⟩;obtain⟨af,rfl⟩:=jh aT bp bf dh;clear aT bp bf dh;obtain⟨t,aJ⟩:∃ t,t=16+k:=⟨_,rfl⟩
    rw[<-aJ];by_cases yA:(t:Int)<64
    ·have ko:IntKind.i64.wrap ((t:Int)+1)=(t+1:Nat) :=wrap_i64 (by omega) (by omega);have am:=aaD k b;obtain⟨wV,JX⟩:∃ i,i=t - 15:=⟨_,rfl⟩
     obtain⟨eK,bE⟩:∃ i,i=t - 2:=⟨_,rfl⟩
     obtain⟨wW,Fv⟩:∃ i,i=t - 16:=⟨_,rfl⟩
     obtain⟨j4,JY⟩:∃ i,i=t - 7:=⟨_,rfl⟩
     have IR:IntKind.i64.wrap ((t:Int) - 15)=wV:=by rw[wrap_i64 (by omega) (by omega)]; omega
     have w2:IntKind.i64.wrap ((t:Int) - 2)=eK:=by rw[wrap_i64 (by omega) (by omega)]; omega
     have IU:IntKind.i64.wrap ((t:Int) - 16)=wW:=by rw[wrap_i64 (by omega) (by omega)]; omega
     have EQ:IntKind.i64.wrap ((t:Int) - 7)=j4:=by rw[wrap_i64 (by omega) (by omega)]; omega
     obtain⟨hC,y0⟩:∃ hC,hC=i3 k (fN b) :=⟨_,rfl⟩
     have yX:=J6 k (fN b);rw[<-y0] at am aq yX;have wR:hC.length=t:=by omega
     unfold ext at yX
     dsimp only at yX
     rw[wR,<-JX,<-bE,<-Fv,<-JY] at yX;have yb:∀ i,i<t->hC[i]? = some (hC.getD i 0#32) :=fun i ax=>by rw[asq,ar1 (by omega)]; rfl
     obtain⟨x,ai⟩:∃ x,x=hC.getD wV 0#32:=⟨_,rfl⟩
     obtain⟨y,ay⟩:∃ y,y=hC.getD eK 0#32:=⟨_,rfl⟩
     obtain⟨OS,Ty⟩:∃ y,y=hC.getD wW 0#32:=⟨_,rfl⟩
     obtain⟨OT,Tz⟩:∃ y,y=hC.getD j4 0#32:=⟨_,rfl⟩
     rw[<-ai,<-ay,<-Ty,<-Tz] at yX;obtain⟨cap,sz,cs,rfl,wD,cb⟩:=Xh aq aw;have Zg:=cb wV x (by rw[ai]; exact yb wV (by omega));have dk:=cb eK y (by rw[ay]; exact yb eK (by omega));have Ci:=cb wW OS (by rw[Ty]; exact yb wW (by omega));have Ck:=cb j4 OT (by rw[Tz]; exact yb j4 (by omega));obtain⟨w,hw⟩:∃ w,w=OS+OT+(og x 7 ^^^ og x 18 ^^^ x >>> 3)+(og y 17 ^^^ og y 19 ^^^ y >>> 10) :=⟨_,rfl⟩
     rw[<-hw] at yX;have kQ:bB 1 ([.cells 8 (h.l.map bC),.cells 8 hD]++(rest++[aY.cells 1 [bC w]])) _ j (hC.map e1) :=aq.more [aY.cells 1 [bC w]];obtain⟨a8,bK,dI,h1,ae,al,aE⟩:=sH (by_:=4) kQ (.inr aj) (x:=.au 1 (rest.length+2) 0 1 1 1) (xs:=[e1 w]) (by simp[dA,e1]) (by simp[e1]) (by omega) (by omega) (by rw[ml]; simp; omega);have gh:bB 1 (.cells 8 (h.l.map bC) ::.cells 8 hD::dI) a8 bK ((i3 (k+1) (fN b)).map e1) :=by rw[yX,asv]; exact ae
     simp only[as5,asO] at h1;have fH:cx a8=false:=by rw[aE]; rfl
     obtain⟨nw,rfl⟩:∃ nw,j=nw+2:=⟨j - 2,by omega⟩
     have s5:rest[nw]? = some (.cells sz cs) :=by simpa using wD
     have yD:(rest++[aY.cells 1 [bC w]])[nw]? = some (.cells sz cs) :=by rw[arZ (e7 s5)]; exact s5
     have Jr:wV<hC.length:=by omega
     have di:eK<hC.length:=by omega
     have Js:wW<hC.length:=by omega
     have ug:j4<hC.length:=by omega
     have t7:=tR x 7 (by omega) (by omega);have t18:=tR x 18 (by omega) (by omega);have t17:=tR y 17 (by omega) (by omega);have t19:=tR y 19 (by omega) (by omega);simp at t7 t18 t17 t19;simp[yA,IR,w2,IU,EQ,Jr,di,Js,ug,s5,Zg,dk,Ci,Ck];refine aW t7 rfl ?_;simp[s5,Ci,Ck];refine aW t18 rfl ?_;simp[s5,Ci,Ck];refine aW t17 rfl ?_;simp[s5,Ci,Ck];refine aW t19 rfl ?_;simp[s5,Ci,Ck];rw[<-hw];simp[h1];refine dt.cy ?_;simp[ko];exact⟨by omega,by omega,fH,bK,al.resolve_left (by intro e; subst e; cases fH),gh,kr⟩
    ·have e9:k=48:=by omega
     subst e9;subst aJ;have s9:i3 48 (fN b)=fU b:=rfl;rw[s9] at aq;obtain⟨cap,sz,cs,rfl,wD,cb⟩:=Xh aq aw;obtain⟨nw,rfl⟩:∃ nw,j=nw+2:=⟨j - 2,by omega⟩
     have s5:rest[nw]? = some (.cells sz cs) :=by simpa using wD
     have db:=Ew b;rw[db];clear aq aw aj wD;simp;refine aW ZN.IJ rfl ?_;have oK:h.l.length=8:=rfl;simp[oj,oK];refine cw 64 (fun k af l=>af 2=.ptr 0 0 8/\af 4=.ptr 1 0 8/\af 5=.au 1 (nw+2) 0 64 cap sz/\af 10=cL 1 e1 (some bW)/\af 11=.ptr (rest.length+2) 0 8/\af 12=.int .i64 k/\l=.cells 8 (h.l.map bC) ::.cells 8 hD::(rest++[.cells 8 ((nA h b k).l.map bC)])) ?_ ?_
     ·rintro k af l hk ⟨aT,bp,bf,ft,hJ,g2,rfl⟩;obtain⟨af,rfl⟩:=vp aT bp bf ft hJ g2;clear aT bp bf ft hJ g2;have e3:=e7 s5;have yD:∀ x:aY,(rest++[x])[nw]? = some (.cells sz cs) :=fun x=>by rw[arZ e3]; exact s5
      by_cases yA:(k:Int)<64
      ·have g4:k<64:=by omega
       have fw:IntKind.i64.wrap ((k:Int)+1)=(k+1:Nat) :=wrap_i64 (by omega) (by omega);have pu:bW[k]? = some (bW.getD k 0#32) :=by rw[asq,ar1 (show k<bW.length from g4)]; rfl
       have hh:=cb k ((fU b).getD k 0#32) (by rw[asq,ar1 (by omega)]; rfl);rw[VE h b k g4];obtain⟨lx,hw⟩:∃ lx,(fU b).getD k 0#32=lx:=⟨_,rfl⟩
       obtain⟨kV,Lo⟩:∃ kV,bW.getD k 0#32=kV:=⟨_,rfl⟩
       obtain⟨s,ak⟩:∃ s,nA h b k=s:=⟨_,rfl⟩
       rw[hw] at hh ⊢;rw[Lo] at pu ⊢;rw[ak];have Bc:cd (.au 1) (cL 1 e1 (some bW)) (.int .i64 k)=some (.b0 (e1 kV) 0) :=by rw[th]; simp[pu]
       have t6:=tR s.e 6 (by omega) (by omega);have t11:=tR s.e 11 (by omega) (by omega);have t25:=tR s.e 25 (by omega) (by omega);have t2:=tR s.a 2 (by omega) (by omega);have t13:=tR s.a 13 (by omega) (by omega);have t22:=tR s.a 22 (by omega) (by omega);simp at t6 t11 t25 t2 t13 t22;have aeu:s.l=[s.a,s.b,s.c,s.d,s.e,s.f,s.g,s.h] :=rfl;have Th:(round s kV lx).l=[(round s kV lx).a,(round s kV lx).b,(round s kV lx).c,(round s kV lx).d,(round s kV lx).e,(round s kV lx).f,(round s kV lx).g,(round s kV lx).h] :=rfl;simp[yA,aeu,Bc,e1,yD,hh];refine aW t6 rfl ?_;simp[Bc,e1,yD,hh];refine aW t11 rfl ?_;simp[Bc,e1,yD,hh];refine aW t25 rfl ?_;simp[Bc,e1,yD,hh];refine aW t2 rfl ?_;simp[Bc,e1,yD,hh];refine aW t13 rfl ?_;simp[Bc,e1,yD,hh];refine aW t22 rfl ?_;simp[oj,g4,fw];rfl
      ·have e9:k=64:=by omega
       subst e9;rw[VD];obtain⟨v,aw⟩:∃ v,rounds h bW (fU b)=v:=⟨_,rfl⟩
       rw[aw];have yw:grind h b=⟨h.a+v.a,h.b+v.b,h.c+v.c,h.d+v.d,h.e+v.e,h.f+v.f,h.g+v.g,h.h+v.h⟩:=by unfold grind; rw[aw]
       have qE:h.l.length=v.l.length:=rfl;have oK:h.l.length=8:=rfl;have Lb:(grind h b).l=jl h.l v.l 8:=by rw[yw]; rfl
       rw[Lb];simp;refine cw 8 (fun k af l=>af 2=.ptr 0 0 8/\af 4=.ptr 1 0 8/\af 11=.ptr (rest.length+2) 0 8/\af 21=.int .i64 k/\l=.cells 8 ((jl h.l v.l k).map bC) ::.cells 8 hD::(rest++[.cells 8 (v.l.map bC)])) ?_ ?_
       ·rintro k af l hk ⟨aT,bp,hJ,ut,rfl⟩;obtain⟨af,rfl⟩:=jh aT bp hJ ut;clear aT bp hJ ut;by_cases iz:(k:Int)<8
        ·have uJ:k<8:=by omega
         have fw:IntKind.i64.wrap ((k:Int)+1)=(k+1:Nat) :=wrap_i64 (by omega) (by omega);obtain⟨y,ay⟩:∃ y,v.l[k]? = some y:=⟨_,ar1 (show k<v.l.length from uJ)⟩
         obtain⟨z,av⟩:∃ z,h.l[k]? = some z:=⟨_,ar1 (show k<h.l.length from uJ)⟩
         have az:=O7 qE (k:=k) (by rw[oK]; exact uJ);rw[av] at az;have hf:=Jj qE k;have oO:=oW bC (jl h.l v.l k) k (z+y) (by rw[hf,oK]; exact uJ);rw[O8 qE av ay] at oO;have Sq:(List.map bC (jl h.l v.l k))[k]? = some (bC z) :=by rw[ar5,az]; rfl
         have AK:k<=7:=by omega
         obtain⟨A,cv⟩:∃ A,A=(jl h.l v.l k).map bC:=⟨_,rfl⟩
         have hK:A.length=8:=by rw[cv,asi,hf,oK]
         rw[<-cv] at Sq oO ⊢;obtain⟨abM,adb⟩:=arY.1 Sq;simp[iz,uJ,fw,adb,ay,oO,hK,AK]
        ·have e9:k=8:=by omega
         subst e9;have hf:=Jj qE 8;have Hh:∀ A:List ad,A.length=8->A.take 8=A:=fun A cv=>arX (by omega)
         obtain⟨A,cv⟩:∃ A,A=(jl h.l v.l 8).map bC:=⟨_,rfl⟩
         have hK:A.length=8:=by rw[cv,asi,hf,oK]
         have nm:aZ A=true:=by rw[cv]; exact lD bC (fun _=>rfl) _
         rw[<-cv];simp[oj,kr,hK,Hh A hK];exact aK rfl (by simp[ad.closed,nm])
       ·simp[O9]
     ·simp[VF];exact arX (by simp[oK])
   ·refine⟨rfl,rfl,rfl,v,j,hD,rest,rfl,iP,jZ,adY,rfl,kr⟩
 ·simp;exact⟨0,.nil 0⟩
def sk (k:Nat) :List B:=128#8::List.replicate k 0#8
theorem ag4 (k:Nat) :sk (k+1)=sk k++[0#8] :=by simp[sk,List.replicate_succ']
theorem U3 (k:Nat) :(sk k).length=k+1:=by simp[sk]
set_option maxHeartbeats 8000000 in
theorem aii (n:Nat) (aF:n<=100000000) :p1 Tryz.prog GS 126 [.int .i64 n] (cN (some (tail n))) :=by
 have ml:cK=140737488355328:=rfl;refine Eh Tryz.checked.mixed bD ?_;apply bm Tryz.func126 [];obtain⟨m,hm⟩:∃ m,m=(119 - n % 64) % 64:=⟨_,rfl⟩
 simp;refine cw m (fun k af l=>af 0=.int .i64 n/\∃ v j,af 3=v/\cx v=false/\bB 1 l v j ((sk k).map ci)) ?_ ?_
 ·rintro k af l hk ⟨cg,v,j,a7,aw,aq⟩;obtain⟨af,rfl⟩:=nE cg a7;clear cg a7;have bn:=aq.len;rw[asi,U3] at bn;obtain⟨ce,GR⟩:∃ ce,ce=k+1:=⟨_,rfl⟩
  rw[<-GR] at bn;have ko:IntKind.i64.wrap ((n:Int)+(ce:Int))=(n+ce:Nat) :=wrap_i64 (by omega) (by omega);obtain⟨q,bd⟩:∃ q,q=n+ce:=⟨_,rfl⟩
  rw[<-bd] at ko;have m1:IntKind.i64.wrap ((q:Int)+8)=(q+8:Nat) :=wrap_i64 (by omega) (by omega);obtain⟨Ik,LQ⟩:∃ Ik,Ik=q+8:=⟨_,rfl⟩
  rw[<-LQ] at m1;have n5:=Fi Ik 64 (by omega);rw[show ((64:Int).toNat)=64 from rfl] at n5;obtain⟨x,ai⟩:∃ x,x=Ik % 64:=⟨_,rfl⟩
  rw[<-ai] at n5;simp[bn,ko,m1,n5];by_cases tb:x=0
  ·have mX:k=m:=by omega
   subst mX;have L1:sk k=oo n 0:=by unfold sk oo; rw[<-hm]; simp
   rw[L1] at aq;clear bn ko m1 n5;simp[tb];refine cw 8 (fun k af l=>af 0=.int .i64 n/\af 4=.int .i64 (7 - (k:Int))/\∃ v j,af 3=v/\cx v=false/\bB 1 l v j ((oo n k).map ci)) ?_ ?_
   ·rintro k af l hk ⟨cg,bp,v,j,a7,aw,aq⟩;obtain⟨af,rfl⟩:=kb cg a7 bp;clear cg a7 bp;obtain⟨c,ah⟩:∃ c:Int,c=7 - (k:Int) :=⟨_,rfl⟩
    rw[<-ah];by_cases iz:0<=c
    ·have AK:k<8:=by omega
     have A5:IntKind.i64.wrap (c - 1)=7 - ((k:Int)+1) :=by rw[wrap_i64 (by omega) (by omega)]; omega
     obtain⟨d,bN⟩:∃ d,d=8*c:=⟨_,rfl⟩
     have Mb:IntKind.i64.wrap (8*c)=d:=by rw[wrap_i64 (by omega) (by omega)]; omega
     have K4:0<=d:=by omega
     have ww:d.toNat=56 - 8*k:=by omega
     have ai:=PP (BitVec.ofNat 64 n*8#64) k AK;have lf:=IH n k;obtain⟨y,ay⟩:∃ y,y=(((BitVec.ofNat 64 n*8#64) >>> (56 - 8*k)).setWidth 8) :=⟨_,rfl⟩
     rw[<-ay] at ai;have kQ:bB 1 (l++[aY.cells 1 [bA y]]) v j ((oo n k).map ci) :=aq.more _;obtain⟨a8,bK,l',h1,ae,al,aE,aU,bz⟩:=pb (by_:=1) kQ (x:=.au 1 l.length 0 1 1 1) (xs:=[[bA y]]) (by simp[dA]) (by simp) (by omega) (by omega) (by simp; omega);have fH:cx a8=false:=by rw[uX bz,aw]; rfl
     have gh:bB 1 l' a8 bK ((oo n (k+1)).map ci) :=by rw[WR n k y ai,asv]; exact ae
     rw[BitVec.mul_comm] at ay;simp only[bA] at h1;simp[iz,Mb,K4,ww];rw[<-ay];simp[h1];refine dt.cy ?_;simp[A5,AK];exact⟨fH,bK,gh⟩
    ·have e9:k=8:=by omega
     subst e9;simp[iz];exact aq.Er (fun _=>rfl) (some (tail n)) aw rfl
   ·simp;exact⟨aw,_,aq⟩
  ·have lf:=U3 k;have kQ:bB 1 (l++[aY.cells 1 [bA 0#8]]) v j ((sk k).map ci) :=aq.more _;obtain⟨a8,bK,l',h1,ae,al,aE,aU,bz⟩:=pb (by_:=1) kQ (x:=.au 1 l.length 0 1 1 1) (xs:=[[bA 0#8]]) (by simp[dA]) (by simp) (by omega) (by omega) (by simp; omega);have fH:cx a8=false:=by rw[uX bz,aw]; rfl
   have gh:bB 1 l' a8 bK ((sk (k+1)).map ci) :=by rw[ag4,asv]; exact ae
   have mX:k<m:=by omega
   simp[bA] at h1;simp[tb,h1];refine dt.cy ?_;simp[mX];exact⟨fH,bK,gh⟩
 ·simp;exact⟨rfl,0,.au 0 1 1 1 [.int .u8 128] _ rfl rfl rfl (by intro e ao; simp[sk] at ao; subst ao; rfl) (ar0 _) (ar0 _) rfl⟩
set_option maxHeartbeats 8000000 in
theorem aic (h:ct) (b:List B) (ag:b.length<=100000000) :bx Tryz.prog GS 124 [.aI (h.l.map bC),cN (some b)] (.aI ((hU h b).1.l.map bC)) :=by
 refine bH Tryz.checked.mixed bD ?_;apply bm Tryz.func124 [];have Hh:∀ A:List ad,A.length=8->A.take 8=A:=fun A cv=>arX (by omega)
 have Ss:∀ s:ct,(s.l.map bC).length=8:=fun s=>rfl
 obtain⟨I0,rC⟩:∃ I0,I0=h.l.map bC:=⟨_,rfl⟩
 have abJ:I0.length=8:=by rw[rC]; rfl
 rw[<-rC];simp[abJ];refine cw (b.length / 64) (fun k af l=>af 1=cN (some b)/\af 2=.ptr 0 0 8/\af 4=.ptr 1 0 8/\af 5=.int .i64 (64*k:Nat)/\∃ s hD,hU s (b.drop (64*k))=hU h b/\l=[.cells 8 (s.l.map bC),.cells 8 hD]/\hD.length=8) ?_ ?_
 ·rintro k af l hk ⟨aL,aT,bp,bf,s,hD,ak,rfl,kr⟩;obtain⟨af,rfl⟩:=jh aL aT bp bf;clear aL aT bp bf;obtain⟨a,az⟩:∃ a,a=64*k:=⟨_,rfl⟩
  rw[<-az] at ak ⊢;obtain⟨aX,KR⟩:∃ aX,aX=64*(k+1) :=⟨_,rfl⟩
  rw[<-KR];obtain⟨A,cv⟩:∃ A,A=s.l.map bC:=⟨_,rfl⟩
  have hK:A.length=8:=by rw[cv]; rfl
  rw[<-cv];have hw:IntKind.i64.wrap ((a:Int)+64)=aX:=by rw[wrap_i64 (by omega) (by omega)]; omega
  by_cases dT:aX<=b.length
  ·have Di:(aX:Int)<=b.length:=by omega
   have db:gS (.au 1) (cN (some b)) (some (.int .i64 (a:Int))) (some (.int .i64 (aX:Int))) none=some (cN (some ((b.drop a).take 64))) :=by
    unfold cN; rw[ai7 (by omega) (by omega) (by omega)];have:(aX:Int).toNat - (a:Int).toNat=64:=by omega
    rw[this,asC]
   have eC:64<=((b.drop a).take 64).length:=by simp; omega
   have yw:=abD s _ eC;have n0:grind s ((b.drop a).take 64)=grind s (((b.drop a).take 64)) :=rfl;rw[<-cv] at yw;have b1:hU (grind s ((b.drop a).take 64)) (b.drop aX)=hU h b:=by
    rw[<-ak,Cf s (b.drop a) (by simp; omega),auA];congr 2; omega
   have g4:k<b.length / 64:=by omega
   have nm:aZ A=true:=by rw[cv]; exact lD bC (fun _=>rfl) _
   obtain⟨xG,CT⟩:∃ xG,xG=(grind s ((b.drop a).take 64)).l.map bC:=⟨_,rfl⟩
   have wj:xG.length=8:=by rw[CT]; rfl
   rw[<-CT] at yw;simp[hw,dT,Di,hK,Hh A hK,db];refine aW yw (by simp[aZ,ad.closed,nm,nj]) ?_;simp[oj,hK,wj,hw,g4];exact⟨_,b1,hD,⟨CT,rfl⟩,kr⟩
  ·have Di:¬(aX:Int)<=b.length:=by omega
   have ao:=ak;rw[Fh s (b.drop a) (by simp; omega)] at ao;rw[<-ao];have nm:aZ A=true:=by rw[cv]; exact lD bC (fun _=>rfl) _
   simp[hw,dT,Di,hK,Hh A hK,oj,kr];exact aK (by rw[cv]) (by rw[cv] at nm; simp[ad.closed,nm])
 ·exact⟨rfl,rfl,rfl,rfl,h,rep 8 (.int .u32 0),rfl,by rw[rC]; rfl,rfl⟩
def tA (s:ct) (k:Nat) :List B:=(written s).take k++List.replicate (32 - k) 0#8
theorem agX (s:ct) (k:Nat) (hk:k<=32) :(tA s k).length=32:=by
 unfold tA;have:=IY s;simp; omega
theorem agY (s:ct) (k:Nat) (x:B) (ai:(written s)[k]? = some x) :(tA s k).set k x=tA s (k+1) :=by
 have hk:k<32:=(arY.1 ai).1;unfold tA;have am:(List.take k (written s)).length=k:=by have:=IY s; simp; omega
 rw[asy _ _ (by omega),am,aui,ash,ai,show 32 - k=(32 - (k+1))+1 by omega,atd,at9];simp
theorem alk (s:ct) (k:Nat) (hk:k<32) :∃ w,s.l[k / 4]? = some w/\(written s)[k]? = some ((w >>> (24 - 8*(k % 4))).setWidth 8) :=by
 have aB:∀ w:W,w=w >>> 0:=fun w=>by simp
 obtain⟨a,b,c,d,e,f,g,h⟩:=s;have:∀ (l:List W) (k:Nat),k<4*l.length->∃ w,l[k / 4]? = some w/\(l.map vq).flatten[k]? = some ((w >>> (24 - 8*(k % 4))).setWidth 8) :=by
  intro l
  induction l with
  | nil=>intro k hk; simp at hk
  | cons w l aO=>
   intro k hk
   match k,hk with
   | 0,_=>exact⟨w,rfl,rfl⟩
   | 1,_=>exact⟨w,rfl,rfl⟩
   | 2,_=>exact⟨w,rfl,rfl⟩
   | 3,_=>refine⟨w,rfl,?_⟩; simp[vq]
   | k+4,hk=>
    obtain⟨y,h1,ae⟩:=aO k (by simp at hk; omega);refine⟨y,?_,?_⟩
    ·rw[show (k+4) / 4=k / 4+1 by omega]; exact h1
    ·rw[show (k+4) % 4=k % 4 by omega]; exact ae
 exact this _ k (by simpa [ct.l] using hk)
set_option maxHeartbeats 8000000 in
theorem aij (s:ct) :bx Tryz.prog GS 123 [.aI (s.l.map bC)] (fD (written s)) :=by
 refine bH Tryz.checked.mixed bD ?_;apply bm Tryz.func123 [];obtain⟨A,cv⟩:∃ A,A=s.l.map bC:=⟨_,rfl⟩
 have hK:A.length=8:=by rw[cv]; rfl
 rw[<-cv];simp[hK];refine cw 32 (fun k af l=>af 1=.ptr 0 0 8/\af 2=.ptr 1 0 32/\af 3=.ptr 2 0 32/\af 4=.int .i64 k/\∃ hD,l=[.cells 8 A,.cells 32 hD,.cells 32 ((tA s k).map bA)]/\hD.length=32) ?_ ?_
 ·rintro k af l hk ⟨aL,aT,a7,bp,hD,rfl,kr⟩;obtain⟨af,rfl⟩:=jh aL aT a7 bp;clear aL aT a7 bp;by_cases Ll:(k:Int)<32
  ·have g4:k<32:=by omega
   have fw:IntKind.i64.wrap ((k:Int)+1)=(k+1:Nat) :=wrap_i64 (by omega) (by omega);have LR:=JA k 4 (by omega) (by omega);have n5:=Fi k 4 (by omega);rw[show ((4:Int).toNat)=4 from rfl] at LR n5;obtain⟨w,hw,ai⟩:=alk s k g4;obtain⟨q,bd⟩:∃ q,q=k / 4:=⟨_,rfl⟩
   obtain⟨r,aA⟩:∃ r,r=k % 4:=⟨_,rfl⟩
   rw[<-bd] at LR hw;rw[<-aA] at n5 ai;have LQ:q<8:=by omega
   obtain⟨zk,Th⟩:∃ zk,zk=8*r:=⟨_,rfl⟩
   have Mb:IntKind.i64.wrap (8*(r:Int))=zk:=by rw[wrap_i64 (by omega) (by omega)]; omega
   obtain⟨Il,aep⟩:∃ Il,Il=24 - zk:=⟨_,rfl⟩
   have aeL:IntKind.i64.wrap (24 - (zk:Int))=Il:=by rw[wrap_i64 (by omega) (by omega)]; omega
   have kR:=agY s k _ ai;rw[<-Th,<-aep] at ai kR;have bO:=agX s k (by omega);have oO:=oW bA (tA s k) k ((w >>> Il).setWidth 8) (by rw[bO]; exact g4);rw[kR] at oO;obtain⟨O,dn⟩:∃ O,O=(tA s k).map bA:=⟨_,rfl⟩
   have sZ:O.length=32:=by rw[dn,asi,bO]
   rw[<-dn] at oO ⊢;have abN:A[q]? = some (bC w) :=by rw[cv,ar5,hw]; rfl
   obtain⟨abM,abO⟩:=arY.1 abN;have aej:q<=7:=by omega
   have adu:k<=31:=by omega
   have aek:(q:Int)<8:=by omega
   simp[Ll,g4,fw,LR,n5,Mb,aeL,hK,LQ,abO,sZ,oO,kr,aej,adu,aek]
  ·have e9:k=32:=by omega
   subst e9;have aq:tA s 32=written s:=by unfold tA; rw[arX (by rw[IY]; omega)]; simp
   rw[aq];obtain⟨O,dn⟩:∃ O,O=(written s).map bA:=⟨_,rfl⟩
   have sZ:O.length=32:=by rw[dn,asi,IY]
   have ab2:aZ O=true:=by rw[dn]; exact lD bA (fun _=>rfl) _
   have aJ:O.take 32=O:=arX (by omega);unfold fD;rw[<-dn];simp[sZ,aJ,oj,kr];exact aK rfl (by simp[ad.closed,ab2])
 ·refine⟨rfl,rfl,rfl,rfl,_,rfl,rfl⟩
set_option maxHeartbeats 8000000 in
theorem VU (s:fi) (ak:s.l.length<=1000000) :bx Tryz.prog GS 77 [cN s] (fD (iH s.l)) :=by
 have ml:cK=140737488355328:=rfl;refine bH Tryz.checked.mixed bD ?_;apply bm Tryz.func77 [];simp;refine aW aaX rfl ?_;have agI:bB 1 ([aY.cells 32 (rep 32 (ad.int IntKind.u8 0))]++[aY.cells 0 []]) (.au 1 1 0 0 0 0) 1 [] :=.au 1 0 0 0 [] _ rfl rfl rfl (by simp) (ar0 _) (ar0 _) rfl;obtain⟨v,j,r,h1,ae,al,aE⟩:=sH (by_:=1) agI (.inr (ar0 _)) (x:=cN s) (xs:=s.l.map ci) (by unfold cN; rw[ul,asi]) (by intro e ao; obtain⟨x,_,rfl⟩:=asr.1 ao; rfl) (by omega) (by omega) (by rw[ml]; simp; omega);have aw:cx v=false:=by rw[aE]; rfl
 simp only[asO,List.singleton_append] at h1 ae;have bn:cz (.au 1) (cN s)=some (.int .i64 s.l.length) :=r6 _;have lf:=aii s.l.length (by omega);have Hj:(tail s.l.length).length<=80:=by rw[<-Ot]; exact IH _ _
 obtain⟨a8,bK,dI,ce,bI,cS,c5⟩:=sH (by_:=1) (pre:=[aY.cells 32 (rep 32 (ad.int IntKind.u8 0))]) ae al (x:=cN (some (tail s.l.length))) (xs:=(tail s.l.length).map ci) (by unfold cN; rw[ul,asi]; rfl) (by intro e ao; obtain⟨x,_,rfl⟩:=asr.1 ao; rfl) (by omega) (by omega) (by rw[ml]; simp; omega);have fH:cx a8=false:=by rw[c5,aw]; rfl
 rw[<-asv] at bI;simp only[List.singleton_append] at ce bI;have oN:=bI.na (fun _=>rfl) (some (s.l++tail s.l.length)) fH rfl;have eC:=aic first (s.l++tail s.l.length) (by simp; omega)
 have DC:=aij (hU first (s.l++tail s.l.length)).1;have pC:iH s.l=written (hU first (s.l++tail s.l.length)).1:=rfl;rw[<-pC] at DC;obtain⟨F,lG⟩:∃ F,F=(hU first (s.l++tail s.l.length)).1:=⟨_,rfl⟩
 rw[<-lG] at eC DC;simp[h1];refine dt.cy ?_;simp[bn];refine aW lf.IJ rfl ?_;simp[ce];refine dt.cy ?_;simp;refine iW eC (.cons (.same _ ?_) (.cons oN .nil)) (QQ bC (fun _=>rfl) _) ?_
 ·simp[ad.closed,lD bC (fun _=>rfl)]
 simp;refine aW DC ?_ ?_
 ·simp[aZ,ad.closed,lD bC (fun _=>rfl)]
 have db:=vj s.l;simp[fD,db,oj,arX];exact aK rfl (by simp[ad.closed,lD bA (fun _=>rfl)])
end gZ

end Go.cf

namespace Go.cf
open Go Go.Proofs Go.RowKit
set_option maxRecDepth 100000
open gZ
theorem W4 {e:TypeId} (aP:Tryz.prog.underlying e=some (.int .u8)) :∀ (n:Nat) {ts:List TypeId} {cs:List ad},ej Tryz.prog (List.replicate n e++ts) cs->∃ (x:List B) (cs' : List ad),cs=x.map bA++cs'/\x.length=n/\ej Tryz.prog ts cs'
 | 0,ts,cs,h=>⟨[],cs,rfl,rfl,h⟩
 | n+1,ts,cs,h=>by
  obtain⟨k,x0,rfl,h1,ae,al⟩:=EG aP h;obtain⟨x,hW,rfl,ai,aE⟩:=W4 aP n al;have aU:(0:Int)<=k:=h1;have bz:k<=255:=ae;refine⟨BitVec.ofNat 8 k.toNat::x,hW,?_,by simp[ai],aE⟩;have:((BitVec.ofNat 8 k.toNat).toNat:Int)=k:=by
   rw[asn,asg (by omega)]; omega
  simp[bA,u]; omega
theorem W7 {ts:List TypeId} {cs:List ad} (h:ej Tryz.prog (40::ts) cs) :∃ (x:BitVec 64) (cs' : List ad),cs=cU x::cs'/\ej Tryz.prog ts cs':=by
 obtain⟨k,x0,rfl,h1,ae,al⟩:=EG (k:=.u64) (by kernel_rfl) h;have aU:(0:Int)<=k:=h1;have bz:k<=18446744073709551615:=ae;refine⟨BitVec.ofNat 64 k.toNat,x0,?_,al⟩;have:((BitVec.ofNat 64 k.toNat).toNat:Int)=k:=by
  rw[asn,asg (by omega)]; omega
 simp[cU,u]; omega
def MB:List Int:=gZ.bW.map fun k=>(k.toNat:Int)
theorem ajU:BM=MB.map fun k=>.int .u32 k:=by unfold BM MB; rw[atV]; rfl
theorem afQ {W:World} (h:laidMetH Tryz.prog [("braid/digest.constants",Go.Proofs.YtobphgccoalchaaGreatDoor.Rows.laid_braid_digest_constants)] W) :∀ g,fO W (fun _=>True) (GS g) (.pointer (some ⟨g,0,none⟩)) :=by
 intro g;unfold GS;split
 ·rename_i ag;have:=as7 ag;subst this;rw[MakeChecks.laidMetH_plain _ _ _ (by kernel_rfl)] at h;obtain⟨cT,⟨cg,t0,oA,f0,fh,dK,ac6,L1,iP,K4,_,_⟩,_,_⟩:=h;have aR:Tryz.prog.globalNamed "braid/digest.constants"=some 1:=by kernel_rfl
  have bE:(Tryz.prog.globals[1]?).map (·.type)=some 302:=by kernel_rfl
  obtain rfl:=Option.some.inj (aR.symm.trans ac6);obtain rfl:=Option.some.inj (bE.symm.trans L1);rw[ajU];exact abr MB aR iP (n:=64) (e:=76) (by kernel_rfl) (by kernel_rfl) (by kernel_rfl) K4 (by rfl)
 ·exact .bad _
end Go.cf

namespace Go.cf
open Go Go.Proofs
set_option maxRecDepth 100000
open gZ
def PB:ad->Option B
 | .int .u8 (.ofNat n)=>match Nat.ble n 255 with | true=>some (BitVec.ofNat 8 n) | false=>none
 | _=>none
def PM:List ad->Option (List B)
 | []=>some []
 | c::r=>match PB c with
  | some b=>match PM r with | some l=>some (b::l) | none=>none
  | none=>none
def cQ:ad->Option (List B)
 | .aI cs=>match PM cs with | some l=>(match Nat.beq l.length 32 with | true=>some l | false=>none) | none=>none
 | _=>none
def Wb:List (List ad)->Option (List B)
 | []=>some []
 | [c] ::r=>match PB c with
  | some b=>match Wb r with | some l=>some (b::l) | none=>none
  | none=>none
 | _=>none
def Zd:ad->Option fi
 | .aV=>some none
 | .cq 1 es=>match Wb es with | some l=>some (some l) | none=>none
 | _=>none
def ajJ:List ad->Option ad
 | [c]=>match Zd c with
  | some s=>match Nat.ble s.l.length 10000 with | true=>some (.bJ [fD (iH s.l),.int .i64 0]) | false=>none
  | none=>none
 | _=>none
abbrev nC:FuncId × Bool × (List ad->Option ad) :=(145,false,ajJ)
end Go.cf

namespace Go.cf
open Go Go.Proofs Go.Sort Go.Shelf
set_option maxRecDepth 100000
open gZ
def cu:List B->List B->Int
 | [],[]=>0
 | [],_::_=>-1
 | _::_,[]=>1
 | a::m9,b::oe=>if a.toNat<b.toNat then -1 else if b.toNat<a.toNat then 1 else cu m9 oe
theorem P2 (a b:B) (m9 oe:List B) :cu (a::m9) (b::oe)=if a.toNat<b.toNat then -1 else if b.toNat<a.toNat then 1 else cu m9 oe:=rfl
theorem pf:∀ a:List B,cu a a=0
 | []=>rfl
 | a::m9=>by unfold cu; simp; exact pf m9
theorem rs:∀ {a b:List B},cu a b=0->a=b
 | [],[],_=>rfl
 | [],_::_,h=>by simp[cu] at h
 | _::_,[],h=>by simp[cu] at h
 | a::m9,b::oe,h=>by
  unfold cu at h;split at h
  ·cases h
  ·split at h
   ·cases h
   ·have h1:a=b:=asd (by omega);rw[h1,rs h]
theorem qb:∀ a b:List B,cu b a=- cu a b
 | [],[]=>rfl
 | [],_::_=>rfl
 | _::_,[]=>rfl
 | a::m9,b::oe=>by
  unfold cu;by_cases h1:a.toNat<b.toNat
  ·simp[h1,show ¬ b.toNat<a.toNat by omega]
  ·by_cases ae:b.toNat<a.toNat
   ·simp[h1,ae]
   ·simp[h1,ae]; exact qb m9 oe
theorem Cr:∀ a b:List B,cu a b=-1\/cu a b=0\/cu a b=1
 | [],[]=>by simp[cu]
 | [],_::_=>by simp[cu]
 | _::_,[]=>by simp[cu]
 | a::m9,b::oe=>by
  unfold cu;split
  ·simp
  ·split
   ·simp
   ·exact Cr m9 oe
theorem uk:∀ a b c:List B,cu a b<0->cu b c<0->cu a c<0
 | [],[],_,h,_=>by simp[cu] at h
 | [],_::_,[],_,h=>by simp[cu] at h
 | [],_::_,_::_,_,_=>by simp[cu]
 | _::_,[],_,h,_=>by simp[cu] at h
 | _::_,_::_,[],_,h=>by simp[cu] at h
 | a::m9,b::oe,c::ah6,h1,ae=>by
  unfold cu at h1 ae ⊢;have aO:=uk m9 oe ah6
  repeat' split at h1
  all_goals repeat' split at ae
  all_goals repeat' split
  all_goals first | omega | (exact aO h1 ae) | (exfalso; omega) | skip
def fK (a b:List B) :Bool:=ltOf cu a b
theorem y9 (a b:List B) :fK a b=true<->cu a b<0:=by unfold fK ltOf; simp
theorem Oo:SWO (ltOf cu) where
 irrefl x:=by unfold ltOf; rw[pf]; rfl
 trans x y z h1 ae:=by
  unfold ltOf at *
  simp only[decide_eq_true_eq] at *
  exact uk x y z h1 ae
 ntrans x y z h1 ae:=by
  unfold ltOf at *
  simp only[decide_eq_false_iff_not] at *
  intro al;have aR:=qb x y;have bE:=qb y z;rcases Cr x y with h | h | h
  ·omega
  ·have:=rs h; subst this; omega
  ·rcases Cr y z with h' | h' | h'
   ·omega
   ·have:=rs h'; subst this; omega
   ·have:=uk z y x (by omega) (by omega);have c4:=qb x z;omega
theorem Yy (x y:List B) (h1:ltOf cu x y=false) (ae:ltOf cu y x=false) :x=y:=by
 unfold ltOf at *
 simp only[decide_eq_false_iff_not] at *
 have e:=qb x y;exact rs (by omega)
theorem ZG {a b:List B} (k:Nat) (h:∀ j,j<k->a[j]? = b[j]?) (az:k<=a.length) (ag:k<=b.length) :cu (a.drop k) (b.drop k)=cu a b:=by
 induction k with
 | zero=>simp
 | succ k aO=>
  rw[<-aO (fun j aj=>h j (by omega)) (by omega) (by omega)];have h1:=h k (by omega);rw[asS (l:=a) (i:=k) (by omega),asS (l:=b) (i:=k) (by omega)];rw[ar1 (by omega),ar1 (by omega)] at h1;have ae:=Option.some.inj h1
  conv=>rhs; unfold cu
  rw[ae];simp
end Go.cf

namespace Go.cf
open Go Go.Proofs
set_option maxRecDepth 100000
namespace Op
open gZ
abbrev Q:=BitVec 64
abbrev D:=BitVec 32
theorem OG:(u (1#64) :Int)=1:=rfl
def e1 (x:D) :List ad:=[bC x]
def sb (l:List D) :Q:=l.foldl (fun o x=>o*x.setWidth 64 % 1000000007#64) 1#64
theorem agn (l:List D) (k:Nat) (x:D) (h:l[k]? = some x) :sb (l.take (k+1))=sb (l.take k)*x.setWidth 64 % 1000000007#64:=by
 rw[ash,h]; simp[sb,auB]
theorem Ir (x:Q) :cB .rem .u64 (u x) .u64 1000000007=some (.int .u64 (u (x % 1000000007#64))) :=zT x 1000000007#64 (by decide)
theorem MX (l:List D) (am:l.length<=1000) :bx Tryz.prog GS 245 [.int .u64 1000000007,cL 1 e1 (some l)] (bC ((sb l).setWidth 32)) :=by
 refine bH Tryz.checked.mixed bD ?_;apply bm Tryz.func245 [];have bn:cz (.au 1) (cL 1 e1 (some l))=some (.int .i64 l.length) :=r6 _;simp[bn];refine cw l.length (fun k af _=>af 0=.int .u64 1000000007/\af 5=cU (sb (l.take k))/\af 8=cL 1 e1 (some l)/\af 9=.int .i64 l.length/\af 10=.int .i64 k) ?_ (by simp[sb]; rfl);rintro k af h hk ⟨cg,bf,de,fP,ft⟩;obtain⟨af,rfl⟩:=ky cg bf de fP ft;clear cg bf de fP ft;by_cases h:k<l.length
 ·obtain⟨x,ai,_⟩:=bu h;have bG:cd (.au 1) (cL 1 e1 (some l)) (.int .i64 k)=some (.b0 (e1 x) 0) :=by rw[th]; simp[ai]
  have fw:IntKind.i64.wrap ((k:Int)+1)=(k+1:Nat) :=wrap_i64 (by omega) (by omega);have ak:=agn l k x ai;simp[h,bG,e1,fw,Ir];rw[<-ak]
 ·have e9:k=l.length:=by omega
  subst e9;simp;exact aK rfl rfl
def fX (a n:Nat) :Nat:=a ^ n % 1000000007
theorem zi (a n:Nat) :fX a n<1000000007:=aud _ (by decide)
theorem Vj (a n:Nat) :fX a n*fX a n % 1000000007=fX a (2*n) :=by
 unfold fX; rw[<-auH,<-at2]; congr 2; omega
theorem Vh (a n:Nat) :fX a n*a % 1000000007=fX a (n+1) :=by
 unfold fX; rw[Nat.mod_mul_mod,Nat.pow_succ]
def hl (a:D) (n:Nat) :D:=BitVec.ofNat 32 (fX a.toNat n)
theorem tE (a:D) (n:Nat) :(hl a n).toNat=fX a.toNat n:=by
 have:=zi a.toNat n;unfold hl; rw[asn]; exact asg (by omega)
theorem MW (x y:D) (ai:x.toNat<1000000007) :(sb [x,y]).setWidth 32=BitVec.ofNat 32 (x.toNat*y.toNat % 1000000007) :=by
 apply asd;have ay:=y.isLt;have h1:x.toNat*y.toNat<1000000007*4294967296:=by
  calc x.toNat*y.toNat<=1000000007*y.toNat:=ar2 _ (by omega)
   _<1000000007*4294967296:=Nat.mul_lt_mul_of_pos_left (by simpa using ay) (by decide)
 have ae:(1#64*x.setWidth 64 % 1000000007#64).toNat=x.toNat:=by
  rw[BitVec.one_mul,ata,asj];rw[asg (show x.toNat<2 ^ 64 by omega),show (1000000007#64).toNat=1000000007 from rfl,asg ai]
 simp only[sb,avr,List.foldl_nil,asj,ata,at3,ae,asn];rw[asg (show y.toNat<2 ^ 64 by omega),asg (show x.toNat*y.toNat<2 ^ 64 by omega),asg (show 1000000007<2 ^ 64 by decide)]
theorem ago (a:D) (n:Nat) :(sb [hl a n,hl a n]).setWidth 32=hl a (2*n) :=by
 rw[MW _ _ (by rw[tE]; exact zi _ _),tE,Vj]; rfl
theorem mul_one (a:D) (n:Nat) :(sb [hl a n,a]).setWidth 32=hl a (n+1) :=by
 rw[MW _ _ (by rw[tE]; exact zi _ _),tE,Vh]; rfl
theorem Ep {l:ap} {b:Nat} {x y:D} (h:l[b]? = some (.cells 2 [bC x,bC y])) :go (b8 l) (.au 1 b 0 2 2 2) (cL 1 e1 (some [x,y])) :=by
 refine Eo (rest:=[]) (es:=[[bC x],[bC y]]) (by simpa using h) rfl (by simp) (by simp[aZ,ad.closed])
theorem aa4:iv Tryz.prog 260=true:=by kernel_rfl
theorem ajv {x:D} {l:ap} {K:ad->ap->Prop} (bl:∀ v rest,K v (.cells 1 [bC ((sb [x,x]).setWidth 32)] ::rest)) :dr Tryz.prog GS 260 [.ptr 0 0 1] (.cells 1 [bC x] ::l) (c:=⟨K⟩) :=by
 apply bm Tryz.func260 [];simp;refine iW (MX [x,x] (by simp)) (.cons (.same _ rfl) (.cons (Ep (by simp)) .nil)) rfl ?_;simp;exact bl _ _
theorem RU (n k:Nat) (hk:k<64) :n / 2 ^ (63 - k)=2*(n / 2 ^ (64 - k))+n / 2 ^ (63 - k) % 2:=by
 have:2 ^ (64 - k)=2 ^ (63 - k)*2:=by rw[<-Nat.pow_succ]; congr 1; omega
 rw[this,<-Nat.div_div_eq_div_mul]; omega
theorem Np (a:D) (n:Q) :bx Tryz.prog GS 241 [bC a,cU n] (bC (hl a n.toNat)) :=by
 refine bH Tryz.checked.mixed bD ?_;apply bm Tryz.func241 [];simp;refine cw 64 (fun k af l=>af 0=bC a/\af 1=cU n/\af 5=.ptr 0 0 1/\af 6=.fn 260 [] [.ptr 0 0 1]/\af 9=.int .i64 k/\∃ r,l=.cells 1 [bC (hl a (n.toNat / 2 ^ (64 - k)))] ::r) ?_ (by
  have:n.toNat / 2 ^ 64=0:=att n.isLt;simp[this,hl,fX]; rfl)
 rintro k af l hk ⟨cg,aL,bf,bT,fP,r,rfl⟩;obtain⟨af,rfl⟩:=ky cg aL bf bT fP;clear cg aL bf bT fP;by_cases h:(k:Int)<64
 ·have fw:IntKind.i64.wrap ((k:Int)+1)=(k+1:Nat) :=wrap_i64 (by omega) (by omega);have y0:IntKind.i64.wrap (63 - (k:Int))=((63 - k:Nat) :Int) :=by rw[wrap_i64 (by omega) (by omega)]; omega
  have ag:=RU n.toNat k (by omega);have pC:cB .shr .u64 (u n) .i64 ((63 - k:Nat) :Int)=some (.int .u64 (u (n >>> (63 - k)))) :=uh n .i64 (63 - k);have abH:64 - (k+1)=63 - k:=by omega
  simp[h,fw];refine⟨aa4,?_⟩;simp;refine ajv fun v rest=>?_
  simp[y0,pC,ago];rw[abH];by_cases aq:n.toNat / 2 ^ (63 - k) % 2=1
  ·have KY:n >>> (63 - k) &&& 1#64=1#64:=by
    apply asd;rw[auM,asH,aso];show _ &&& 1=1;rw[Nat.and_one_is_mod,aq]
   rw[aq] at ag;have bd:hl a (2*(n.toNat / 2 ^ (64 - k))+1)=hl a (n.toNat / 2 ^ (63 - k)) :=by rw[<-ag]
   simp[KY,OG];refine iW (MX [hl a (2*(n.toNat / 2 ^ (64 - k))),a] (by simp)) (.cons (.same _ rfl) (.cons (Ep (by simp)) .nil)) rfl ?_;rw[mul_one,bd];simp[fw];omega
  ·have aq:n.toNat / 2 ^ (63 - k) % 2=0:=by omega
   have KY:n >>> (63 - k) &&& 1#64=0#64:=by
    apply asd;rw[auM,asH,aso];show _ &&& 1=0;rw[Nat.and_one_is_mod,aq]
   rw[aq,auQ] at ag;simp[KY,fw];rw[<-ag];exact⟨by omega,rfl⟩
 ·have e9:k=64:=by omega
  subst e9;simp;exact aK rfl rfl
theorem Nu (a b:Q) (ag:b≠0#64) :cB .quo .u64 (u a) .u64 (u b)=some (.int .u64 (u (a / b))) :=by
 have bS:(b.toNat:Int)≠0:=fun e=>ag (asd (by simpa using e))
 show (if IntKind.u64=IntKind.u64/\(b.toNat:Int)≠0 then some (ad.int .u64 (IntKind.u64.wrap ((a.toNat:Int).tdiv b.toNat))) else none)=_;rw[if_pos ⟨rfl,bS⟩,vr];congr 2;have:((a.toNat:Int).tdiv b.toNat)=((a.toNat / b.toNat:Nat) :Int) :=rfl;rw[this,as2];congr 1;apply asd;rw[asn,atE];exact asg (Nat.lt_of_le_of_lt (avs _ _) a.isLt)
theorem Vz (x:Q) :cB .quo .u64 (u x) .u64 2=some (.int .u64 (u (x / 2#64))) :=Nu x 2#64 (by decide)
theorem VX (x:Q) :cB .rem .u64 (u x) .u64 2=some (.int .u64 (u (x % 2#64))) :=zT x 2#64 (by decide)
theorem Bn (x y:Q) (ai:x.toNat<4294967296) (ay:y.toNat<4294967296) :(x*y % 1000000007#64).toNat=x.toNat*y.toNat % 1000000007:=by
 have h1:x.toNat*y.toNat<18446744073709551616:=by
  calc x.toNat*y.toNat<=4294967295*y.toNat:=ar2 _ (by omega)
   _<=4294967295*4294967295:=Nat.mul_le_mul_left _ (by omega)
   _<18446744073709551616:=by decide
 rw[ata,at3,asg (show x.toNat*y.toNat<2 ^ 64 by omega)]; rfl
theorem ahq (o b m:Nat) (h:m % 2=1) :o*b % 1000000007*(b*b % 1000000007) ^ (m / 2) % 1000000007=o*b ^ m % 1000000007:=by
 have hm:m=2*(m / 2)+1:=by omega
 rw[auH,Nat.mod_mod,au0 (b*b % 1000000007),Nat.mod_mod,<-au0,<-auH];congr 1;rw[Nat.mul_pow,Nat.mul_assoc,<-at2]
 conv=>rhs; rw[hm,Nat.pow_succ]
 rw[avh b,show 2*(m / 2)=m / 2+m / 2 by omega]
theorem ahp (o b m:Nat) (h:m % 2=0) :o*(b*b % 1000000007) ^ (m / 2) % 1000000007=o*b ^ m % 1000000007:=by
 have hm:m=2*(m / 2) :=by omega
 rw[auH,au0 (b*b % 1000000007),Nat.mod_mod,<-au0,<-auH];congr 1;rw[Nat.mul_pow,<-at2]
 conv=>rhs; rw[hm]
 rw[show 2*(m / 2)=m / 2+m / 2 by omega]
theorem Vk (a n:Q) (az:a.toNat<4294967296) :bx Tryz.prog GS 175 [cU a,cU n,.int .u64 1000000007] (cU (BitVec.ofNat 64 (fX a.toNat n.toNat))) :=by
 refine bH Tryz.checked.mixed bD ?_;apply bm Tryz.func175 [];simp;refine r9 (fun m af _=>∃ o b c:Q,c.toNat=m/\o.toNat<1000000007/\b.toNat<4294967296/\o.toNat*b.toNat ^ m % 1000000007=fX a.toNat n.toNat/\af 0=cU b/\af 1=cU c/\af 2=.int .u64 1000000007/\af 7=cU o) ?_ n.toNat _ _ ⟨1#64,a,n,rfl,by decide,az,by simp[fX],by simp; rfl⟩;rintro m af l ⟨o,b,c,ah,aq,ag,aC,cg,aL,aT,dh⟩;obtain⟨af,rfl⟩:=jh cg aL aT dh;clear cg aL aT dh;have h0:(u c:Int)=(m:Int) :=by unfold u; rw[ah]
 by_cases hm:m=0
 ·subst hm;have aB:c=0#64:=asd (by simpa using ah);simp[aB];refine aK ?_ rfl;rw[Nat.pow_zero,atC,asg aq] at aC;rw[<-aC,au5,BitVec.setWidth_eq]
 ·have Az:c≠0#64:=fun e=>hm (by rw[<-ah,e]; rfl)
  have aM:(0:Int)<u c:=by rw[h0]; omega
  have St:(c / 2#64).toNat=m / 2:=by rw[atE,ah]; rfl
  have SV:(c % 2#64).toNat=m % 2:=by rw[ata,ah]; rfl
  have ca:(b*b % 1000000007#64).toNat<4294967296:=by
   rw[Bn b b ag ag]; have:=aud (b.toNat*b.toNat) (show 1000000007 > 0 by decide); omega
  by_cases S6:m % 2=1
  ·have h1:c % 2#64=1#64:=asd (by rw[SV,S6]; rfl);simp[aM,Ir,Vz,VX,h1,OG];have c1:o.toNat<4294967296:=by omega
   refine⟨m / 2,by omega,_,_,_,St,?_,ca,?_,rfl,rfl,rfl⟩
   ·rw[Bn o b c1 ag]; exact aud _ (by decide)
   ·rw[Bn o b c1 ag,Bn b b ag ag,ahq _ _ _ S6,aC]
  ·have h1:c % 2#64=0#64:=asd (by rw[SV]; simp; omega);simp[aM,Ir,Vz,VX,h1,OG];refine⟨m / 2,by omega,_,_,_,St,aq,ca,?_,rfl,rfl,rfl⟩;rw[Bn b b ag ag,ahp _ _ _ (by omega),aC]
def gE (a:D) :Bool:=decide (0<a.toNat)&&decide (a.toNat<1000000007)&&decide (fX a.toNat 500000003=1)
theorem Mv (a:D) :bx Tryz.prog GS 199 [bC a] (.bool (gE a)) :=by
 refine bH Tryz.checked.mixed bD ?_;apply bm Tryz.func199 [];unfold gE;have h1:((0:Int)<u a)<->0<a.toNat:=by unfold u; omega
 have ae:(u a<(1000000007:Int))<->a.toNat<1000000007:=by unfold u; omega
 by_cases aL:0<a.toNat
 ·by_cases aT:a.toNat<1000000007
  ·simp[h1,ae,aL,aT];refine aW (Np a 500000003#64) rfl ?_;have al:(u (hl a 500000003)=(1:Int))<->fX a.toNat 500000003=1:=by unfold u; rw[tE]; omega
   have aE:(500000003#64:Q).toNat=500000003:=rfl;rw[aE];simp[al];exact aK (by simp[aL,aT]) rfl
  ·simp[h1,ae,aL,aT];exact aK rfl rfl
 ·simp[h1,aL];exact aK rfl rfl
theorem VT (a:D) :bx Tryz.prog GS 128 [bC a] (.bool (gE a)) :=by
 refine bH Tryz.checked.mixed bD ?_;apply bm Tryz.func128 [];unfold gE;have h1:((1:Int)<=u a)<->0<a.toNat:=by unfold u; omega
 have ae:(u a<(1000000007:Int))<->a.toNat<1000000007:=by unfold u; omega
 by_cases aL:0<a.toNat
 ·by_cases aT:a.toNat<1000000007
  ·simp[h1,ae,aL,aT];refine aW (Vk (a.setWidth 64) 500000003#64 (by rw[asj]; omega)) rfl ?_;have aU:(a.setWidth 64:Q).toNat=a.toNat:=by rw[asj]; omega
   have aE:(500000003#64:Q).toNat=500000003:=rfl;have bz:=zi a.toNat 500000003;have al:(u (BitVec.ofNat 64 (fX a.toNat 500000003))=(1:Int))<->fX a.toNat 500000003=1:=by unfold u; rw[asn,asg (by omega)]; omega
   rw[aE,aU];simp[al];exact aK (by simp[aL,aT]) rfl
  ·simp[h1,ae,aL,aT];exact aK rfl rfl
 ·simp[h1,aL];exact aK rfl rfl
def jU (a:D) :Bool:=decide (a.toNat<500000003)
theorem FH (a:D) :bx Tryz.prog GS 130 [bC a] (.bool (jU a)) :=by
 refine bH Tryz.checked.mixed bD ?_;apply bm Tryz.func130 [];unfold jU;have ae:(u (a.setWidth 64)<(500000003:Int))<->a.toNat<500000003:=by unfold u; rw[asj]; omega
 simp[ae];exact aK rfl rfl
@[simp] theorem amj (a b:List UInt8) :ov .eql a b=some (.bool (decide (a=b))) :=by
 by_cases h:a=b<;>simp[ov,h]
@[simp] theorem amm (a b:List UInt8) :ov .neq a b=some (.bool (!decide (a=b))) :=by
 by_cases h:a=b<;>simp[ov,h]
abbrev oB (s:List UInt8) (pos:Nat) :Nat × Nat:=Utf8.decode ⟨s.toArray⟩ pos
theorem Rl (s:List UInt8) (pos:Nat) (b:UInt8) (h:s[pos]? = some b) :(ByteArray.get! ⟨s.toArray⟩ pos)=b:=by
 show (s.toArray)[pos]! = b;obtain⟨h1,ae⟩:=arY.1 h;simp[h1,ae]
theorem Z0 {s:List UInt8} {pos:Nat} {b:UInt8} (h:s[pos]? = some b) (ag:b.toNat<128) :oB s pos=(b.toNat,1) :=by
 unfold oB;rw[Lib.decode_at,Rl s pos b h];unfold Lib.decodeN;rw[if_pos ag]
theorem ZZ {s:List UInt8} {pos:Nat} {b:UInt8} (h:s[pos]? = some b) (ag:128<=b.toNat) :128<=(oB s pos).1:=by
 unfold oB;rw[Lib.decode_at,Rl s pos b h];unfold Lib.decodeN;rw[if_neg (by omega)]
 repeat' split
 all_goals (simp only; omega)
theorem Qh (s:List UInt8) (pos:Nat) :1<=(oB s pos).2:=by
 unfold oB;rw[Lib.decode_at];unfold Lib.decodeN
 repeat' split
 all_goals simp only<;>omega
def lR (p:Nat->Bool) (s:List UInt8) :Nat->Nat->Int
 | 0,_=>-1
 | n+1,pos=>if pos<s.length then (if p (oB s pos).1 then (pos:Int) else lR p s n (pos+(oB s pos).2)) else -1
theorem My (p:Nat->Bool) (s:List UInt8) :∀ (n pos:Nat),s.length - pos<=n->lR p s n pos=lR p s (s.length - pos) pos
 | 0,pos,h=>by rw[show s.length - pos=0 by omega]
 | n+1,pos,h=>by
  by_cases aC:pos<s.length
  ·have hw:=Qh s pos;rw[show s.length - pos=(s.length - pos - 1)+1 by omega];unfold lR;rw[if_pos aC,if_pos aC,My p s n _ (by omega),My p s (s.length - pos - 1) _ (by omega)]
  ·rw[show s.length - pos=0 by omega];unfold lR;rw[if_neg aC]
def nM (c0 r:Nat) :Bool:=decide (r<c0)||decide (126<r)
def hQ (c0:Nat) (b:UInt8) :Bool:=decide (c0<=b.toNat)&&decide (b.toNat<=126)
theorem Mx (c0:Nat) (dv:c0<=128) (s:List UInt8) :∀ (n pos:Nat),s.length - pos<=n->(lR (nM c0) s n pos<0<->(s.drop pos).all (hQ c0)=true)
 | 0,pos,h=>by
  rw[asV (by omega)];simp[lR]
 | n+1,pos,h=>by
  unfold lR;by_cases aC:pos<s.length
  ·rw[if_pos aC,asS aC,avA];have ec:s[pos]? = some s[pos] :=ar1 aC;obtain⟨b,ag⟩:∃ b,b=s[pos] :=⟨_,rfl⟩
   rw[<-ag] at ec ⊢;by_cases ak:b.toNat<128
   ·rw[Z0 ec ak];simp only;have da:hQ c0 b=!nM c0 b.toNat:=by
     unfold hQ nM;by_cases h1:b.toNat<c0<;>by_cases ae:126<b.toNat<;>simp[h1,ae]<;>omega
    cases mc:nM c0 b.toNat with
    | true=>rw[da,mc]; simp
    | false=>
     rw[da,mc];simp only[atb,if_false,auZ,asM];exact Mx c0 dv s n (pos+1) (by omega)
   ·have ar:=ZZ ec (by omega);have mc:nM c0 (oB s pos).1=true:=by unfold nM; simp; omega
    have da:hQ c0 b=false:=by unfold hQ; simp; omega
    rw[mc,da]; simp
  ·rw[if_neg aC,asV (by omega)];simp
theorem agu {s:List UInt8} {pos:Nat} {r:ap} (h:pos<s.length) :w9 (.iter s pos::r) (.it 0)=some (.bJ [.bool true,.int .i64 pos,.int .i32 (oB s pos).1],.iter s (pos+(oB s pos).2) ::r) :=by
 unfold w9;simp only[asw];rw[show Nat.blt pos s.length=true from Nat.ble_eq_true_of_le h];rfl
theorem agt {s:List UInt8} {pos:Nat} {r:ap} (h:¬ pos<s.length) :w9 (.iter s pos::r) (.it 0)=some (.bJ [.bool false],.iter s pos::r) :=by
 unfold w9;simp only[asw];rw[show Nat.blt pos s.length=false by cases ag:Nat.blt pos s.length with | false=>rfl | true=>exact absurd (atY ag) h]
theorem ae0 {g:FuncId} {p:Nat->Bool} (ar:iv Tryz.prog g=true) (aC:∀ r:Nat,bx Tryz.prog GS g [.int .i32 r] (.bool (p r))) (s:List UInt8) :
  bx Tryz.prog GS 251 [.str s,.fn g [] [],.bool true] (.int .i64 (lR p s s.length 0)) :=by
 refine bH Tryz.checked.mixed bD ?_;apply bm Tryz.func251 [];simp[En];refine r9 (fun m af l=>∃ pos,s.length - pos=m/\lR p s m pos=lR p s s.length 0/\af 1=.fn g [] []/\af 2=.bool true/\af 10=.it 0/\l=[.iter s pos]) ?_ s.length _ _ ⟨0,by simp⟩;rintro m af l ⟨pos,hm,ax,aL,aT,ft,rfl⟩;obtain⟨af,rfl⟩:=kb aL aT ft;clear aL aT ft;by_cases h:pos<s.length
 ·have gw:m=(m - 1)+1:=by omega
  have hw:=Qh s pos;obtain⟨R,gu⟩:∃ R,R=lR p s s.length 0:=⟨_,rfl⟩
  rw[<-gu] at ax ⊢;rw[gw] at ax;unfold lR at ax;rw[if_pos h] at ax;simp[agu h];refine⟨ar,aW (aC _) rfl ?_⟩;cases ag:p (oB s pos).1 with
  | true=>
   rw[ag] at ax;simp;exact aK (by rw[<-ax]; simp) rfl
  | false=>
   rw[ag] at ax;simp;refine⟨s.length - (pos+(oB s pos).2),by omega,pos+(oB s pos).2,rfl,?_,by simp,by simp,by simp,by simp⟩;rw[<-ax];simp only[atb,if_false];rw[My p s (m - 1) _ (by omega)]
 ·have kn:m=0:=by omega
  subst kn;simp[agt h];exact aK (by rw[<-ax]; rfl) rfl
theorem WK {g:FuncId} {p:Nat->Bool} (ar:iv Tryz.prog g=true) (aC:∀ r:Nat,bx Tryz.prog GS g [.int .i32 r] (.bool (p r))) (s:List UInt8) :
  bx Tryz.prog GS 218 [.str s,.fn g [] []] (.int .i64 (lR p s s.length 0)) :=by
 refine bH Tryz.checked.mixed bD ?_;apply bm Tryz.func218 [];simp;refine aW (ae0 ar aC s) rfl ?_;simp;exact aK rfl rfl
theorem afD (r:Nat) :bx Tryz.prog GS 219 [.int .i32 r] (.bool (nM 33 r)) :=by
 refine bH Tryz.checked.mixed bD ?_;apply bm Tryz.func219 [];unfold nM;have h1:((r:Int)<33)<->r<33:=by omega
 have ae:((126:Int)<r)<->126<r:=by omega
 by_cases h:r<33
 ·simp[h1,h];exact aK rfl rfl
 ·simp[h1,h,ae];exact aK rfl rfl
theorem ajV (r:Nat) :bx Tryz.prog GS 221 [.int .i32 r] (.bool (nM 32 r)) :=by
 refine bH Tryz.checked.mixed bD ?_;apply bm Tryz.func221 [];unfold nM;have h1:((r:Int)<32)<->r<32:=by omega
 have ae:((126:Int)<r)<->126<r:=by omega
 by_cases h:r<32
 ·simp[h1,h];exact aK rfl rfl
 ·simp[h1,h,ae];exact aK rfl rfl
theorem aa0:iv Tryz.prog 219=true:=by kernel_rfl
theorem aa5:iv Tryz.prog 221=true:=by kernel_rfl
def gN (s:List UInt8) :Bool:=decide (1<=s.length)&&decide (s.length<=20)&&s.all (hQ 33)
theorem ME (s:List UInt8) :bx Tryz.prog GS 157 [.str s] (.bool (gN s)) :=by
 refine bH Tryz.checked.mixed bD ?_;apply bm Tryz.func157 [];unfold gN;have h1:((1:Int)<=s.length)<->1<=s.length:=by omega
 have ae:((s.length:Int)<=20)<->s.length<=20:=by omega
 by_cases aL:1<=s.length
 ·by_cases aT:s.length<=20
  ·simp[h1,ae,aL,aT];refine aW (WK aa0 afD s) rfl ?_;have:=Mx 33 (by omega) s s.length 0 (by omega);rw[as1] at this;have al:decide (lR (nM 33) s s.length 0<0)=s.all (hQ 33) :=by
    cases ag:s.all (hQ 33) with
    | true=>simpa using this.2 ag
    | false=>
     have:¬ lR (nM 33) s s.length 0<0:=fun h=>by rw[this.1 h] at ag; cases ag
     simpa using this
   simp;rw[al];exact aK (by simp[aL,aT]) rfl
  ·simp[h1,ae,aL,aT];exact aK (by simp[aL,aT]) rfl
 ·simp[h1,aL];exact aK (by simp[aL]) rfl
theorem Pm {s:List UInt8} {p:UInt8->Bool} {k:Nat} {b:UInt8} (h:s[k]? = some b) :(s.take (k+1)).all p=((s.take k).all p&&p b) :=by
 rw[ash,h]; simp[List.all_append]
theorem E5 {s:List UInt8} {p:UInt8->Bool} {k:Nat} {b:UInt8} (h:s[k]? = some b) (aC:p b=false) :s.all p=false:=by
 rw[List.all_eq_false];exact⟨b,ar4 h,by simp[aC]⟩
theorem D3 (s:List UInt8) :bx Tryz.prog GS 108 [.str s] (.bool (gN s)) :=by
 refine bH Tryz.checked.mixed bD ?_;apply bm Tryz.func108 [];have h1:((s.length:Int)<1)<->¬ 1<=s.length:=by omega
 have ae:((20:Int)<s.length)<->¬ s.length<=20:=by omega
 by_cases aL:1<=s.length
 ·by_cases aT:s.length<=20
  ·simp[h1,ae,aL,aT];refine cw s.length (fun k af _=>af 0=.str s/\af 3=.int .i64 k/\(s.take k).all (hQ 33)=true) ?_ (by simp);rintro k af l hk ⟨h8,c4,fg⟩;obtain⟨af,rfl⟩:=nE h8 c4;clear h8 c4;by_cases h:k<s.length
   ·obtain⟨b,ag,_⟩:=bu h;have fw:IntKind.i64.wrap ((k:Int)+1)=(k+1:Nat) :=wrap_i64 (by omega) (by omega);have dx:((b.toNat:Int)<33)<->¬ 33<=b.toNat:=by omega
    have di:((126:Int)<b.toNat)<->¬ b.toNat<=126:=by omega
    have fF:Bg (.str s) (.int .i64 k)=some (.int .u8 b.toNat) :=by simp[ag,jS]
    by_cases q1:33<=b.toNat
    ·by_cases dE:b.toNat<=126
     ·have da:hQ 33 b=true:=by simp[hQ,q1,dE]
      simp[h,fF,dx,di,q1,dE,fw,Pm ag,da,-Bh];simpa using fg
     ·have da:hQ 33 b=false:=by simp[hQ,dE]
      simp[h,fF,dx,di,q1,dE,-Bh];exact aK (by simp[gN,E5 ag da]) rfl
    ·have da:hQ 33 b=false:=by simp[hQ,q1]
     simp[h,fF,dx,q1,-Bh];exact aK (by simp[gN,E5 ag da]) rfl
   ·have e9:k=s.length:=by omega
    subst e9;rw[asx] at fg;simp;exact aK (by simp only[gN,fg]; simp[aL,aT]) rfl
  ·simp[h1,ae,aL,aT];exact aK (by simp[gN,aT]) rfl
 ·simp[h1,aL];exact aK (by simp[gN,aL]) rfl
theorem ahf (s:List UInt8) (am:s.length<=1000000000) :bx Tryz.prog GS 163 [.str s] (.bool (s.all (hQ 32))) :=by
 refine bH Tryz.checked.mixed bD ?_;apply bm Tryz.func163 [];simp;refine cw s.length (fun k af _=>af 0=.str s/\af 3=.int .i64 k/\(s.take k).all (hQ 32)=true) ?_ (by simp);rintro k af l hk ⟨h8,c4,fg⟩;obtain⟨af,rfl⟩:=nE h8 c4;clear h8 c4;by_cases h:k<s.length
 ·obtain⟨b,ag,_⟩:=bu h;have fw:IntKind.i64.wrap ((k:Int)+1)=(k+1:Nat) :=wrap_i64 (by omega) (by omega);have dx:((b.toNat:Int)<32)<->¬ 32<=b.toNat:=by omega
  have di:((126:Int)<b.toNat)<->¬ b.toNat<=126:=by omega
  have fF:Bg (.str s) (.int .i64 k)=some (.int .u8 b.toNat) :=by simp[ag,jS]
  by_cases q1:32<=b.toNat
  ·by_cases dE:b.toNat<=126
   ·have da:hQ 32 b=true:=by simp[hQ,q1,dE]
    simp[h,fF,dx,di,q1,dE,fw,Pm ag,da,-Bh];simpa using fg
   ·have da:hQ 32 b=false:=by simp[hQ,dE]
    simp[h,fF,dx,di,q1,dE,-Bh];exact aK (by simp only[E5 ag da]) rfl
  ·have da:hQ 32 b=false:=by simp[hQ,q1]
   simp[h,fF,dx,q1,-Bh];exact aK (by simp only[E5 ag da]) rfl
 ·have e9:k=s.length:=by omega
  subst e9;rw[asx] at fg;simp;exact aK (by simp only[fg]) rfl
structure h6 where
 kind:B
 num:Int
 bits:Q
 text:List UInt8
def dJ (v:h6) :List ad:=[bA v.kind,.int .i64 v.num,cU v.bits,.str v.text]
def o3:h6:=⟨0#8,0,0#64,[]⟩
def kK (b:Q) :Nat:=b.toNat / 4503599627370496 % 2048
def qh (b:Q) :Q:=b % 4503599627370496#64
def cls (b:Q) :B:=if kK b=2047 then (if qh b=0#64 then 4#8 else 5#8) else if kK b=0 then (if qh b=0#64 then 1#8 else 2#8) else 3#8
def nN (b:Q) :Q:=if cls b=5#8 then 9221120237041090560#64 else b
theorem iY (k:B) :((u k:Int)=1)<->k=1#8:=sn k 1#8
theorem mD (k:B) :((u k:Int)=2)<->k=2#8:=sn k 2#8
theorem pU (k:B) :((u k:Int)=3)<->k=3#8:=sn k 3#8
theorem xx (k:B) :((u k:Int)=4)<->k=4#8:=sn k 4#8
theorem IL (k:B) :((u k:Int)=5)<->k=5#8:=sn k 5#8
theorem akq (k:B) :((u k:Int)=0)<->k=0#8:=sn k 0#8
theorem ve (k:Q) :((u k:Int)=0)<->k=0#64:=sn k 0#64
theorem QA (b:Q) :kK b<2048:=aud _ (by decide)
theorem Yv (n:Nat) (h:n<9223372036854775808) :cB .and .i64 (n:Int) .i64 2047=some (.int .i64 ((n % 2048:Nat) :Int)) :=by
 show some (ad.int .i64 (IntKind.i64.wrap ((BitVec.ofInt 64 (n:Int) &&& BitVec.ofInt 64 (2047:Int)).toNat:Int)))=_;have h1:(BitVec.ofInt 64 (n:Int) &&& BitVec.ofInt 64 (2047:Int)).toNat=n % 2048:=by
  rw[as2,auM,asn,asg (by omega)];exact auU n 11
 have ae:=aud n (show 2048 > 0 by decide);rw[h1];generalize n % 2048=q at ae;rw[wrap_i64 (by omega) (by omega)]
theorem abi (b:Q) :b &&& 4503599627370495#64=qh b:=by
 apply asd;unfold qh;rw[auM,ata];exact auU b.toNat 52
theorem ajt (b:Q) :bx Tryz.prog GS 264 [cU b] (.bJ [.int .i64 (kK b),cU (qh b)]) :=by
 refine bH Tryz.checked.mixed bD ?_;apply bm Tryz.func264 [];have ag:=b.isLt;have h1:IntKind.i64.wrap (u (b >>> 52))=((b.toNat / 4503599627370496:Nat) :Int) :=by
  have:u (b >>> 52)=((b.toNat / 4503599627370496:Nat) :Int) :=by unfold u; rw[asH,aso]
  rw[this,wrap_i64 (by omega) (by omega)]
 have ae:=Yv (b.toNat / 4503599627370496) (by omega);have ao:kK b=b.toNat / 4503599627370496 % 2048:=rfl;rw[<-ao] at ae;obtain⟨q,bd⟩:∃ q,b.toNat / 4503599627370496=q:=⟨_,rfl⟩
 rw[bd] at h1 ae;have al:cB .and .u64 (u b) .u64 4503599627370495=some (cU (qh b)) :=by
  rw[PC,m7,<-abi]; rfl
 have aE:cB .shr .u64 (u b) .u64 52=some (.int .u64 (u (b >>> 52))) :=uh b .u64 52;simp[aE,h1,ae,al,-PC];exact aK rfl rfl
theorem aig (b:Q) :bx Tryz.prog GS 253 [cU b] (.int .i64 (kK b)) :=by
 refine bH Tryz.checked.mixed bD ?_;apply bm Tryz.func253 [];have ag:=b.isLt;have h1:cB .rem .u64 (u b) .u64 9223372036854775808=some (cU (b % 9223372036854775808#64)) :=zT b 9223372036854775808#64 (by decide);have ae:cB .quo .u64 (u (b % 9223372036854775808#64)) .u64 4503599627370496=some (cU (b % 9223372036854775808#64 / 4503599627370496#64)) :=Nu _ 4503599627370496#64 (by decide);have al:IntKind.i64.wrap (u (b % 9223372036854775808#64 / 4503599627370496#64))=(kK b:Int) :=by
  have:u (b % 9223372036854775808#64 / 4503599627370496#64)=(kK b:Int) :=by
   unfold u kK;rw[atE,ata];show (((b.toNat % 9223372036854775808) / 4503599627370496:Nat) :Int)=_;congr 1;omega
  have aE:=QA b;rw[this,wrap_i64 (by omega) (by omega)]
 simp[h1,ae,al];exact aK rfl rfl
theorem aih (b:Q) :bx Tryz.prog GS 254 [cU b] (cU (qh b)) :=by
 refine bH Tryz.checked.mixed bD ?_;apply bm Tryz.func254 [];have h1:cB .rem .u64 (u b) .u64 4503599627370496=some (cU (qh b)) :=zT b 4503599627370496#64 (by decide);simp[h1];exact aK rfl rfl
theorem Zx (b:Q) :bx Tryz.prog GS 252 [cU b] (bA (cls b)) :=by
 refine bH Tryz.checked.mixed bD ?_;apply bm Tryz.func252 [];unfold cls;simp;refine aW (ajt b) rfl ?_;have h1:((kK b:Int)=2047)<->kK b=2047:=by omega
 have ae:((kK b:Int)=0)<->kK b=0:=by omega
 by_cases aL:kK b=2047
 ·by_cases aT:qh b=0#64
  ·simp[h1,aL,aT];exact aK rfl rfl
  ·simp[h1,aL,aT,ve];exact aK rfl rfl
 ·by_cases a7:kK b=0
  ·by_cases aT:qh b=0#64
   ·simp[h1,ae,aL,aT,a7];exact aK rfl rfl
   ·simp[h1,ae,aL,aT,a7,ve];exact aK rfl rfl
  ·simp[h1,ae,aL,a7];exact aK rfl rfl
theorem aif (b:Q) :bx Tryz.prog GS 222 [cU b] (bA (cls b)) :=by
 refine bH Tryz.checked.mixed bD ?_;apply bm Tryz.func222 [];unfold cls;simp;refine aW (aig b) rfl ?_;simp;refine aW (aih b) rfl ?_;have ae:((kK b:Int)=0)<->kK b=0:=by omega
 have al:((kK b:Int)<2047)<->¬ kK b=2047:=by have:=QA b; omega
 by_cases a7:kK b=0
 ·by_cases aT:qh b=0#64
  ·simp[ae,aT,a7];exact aK rfl rfl
  ·simp[ae,aT,a7,ve];exact aK rfl rfl
 ·by_cases aL:kK b=2047
  ·by_cases aT:qh b=0#64
   ·simp[ae,al,aL,aT];exact aK rfl rfl
   ·simp[ae,al,aL,aT,ve];exact aK rfl rfl
  ·simp[ae,al,aL,a7];exact aK rfl rfl
theorem Zk (b:Q) :bx Tryz.prog GS 220 [cU b] (cU (nN b)) :=by
 refine bH Tryz.checked.mixed bD ?_;apply bm Tryz.func220 [];unfold nN;simp;refine aW (Zx b) rfl ?_;by_cases h:cls b=5#8
 ·simp[IL,h];exact aK rfl rfl
 ·simp[IL,h];exact aK rfl rfl
theorem aid (b:Q) :bx Tryz.prog GS 162 [cU b] (cU (nN b)) :=by
 refine bH Tryz.checked.mixed bD ?_;apply bm Tryz.func162 [];unfold nN;simp;refine aW (aif b) rfl ?_;by_cases h:cls b=5#8
 ·simp[IL,h];exact aK rfl rfl
 ·simp[IL,h];exact aK rfl rfl
theorem akv (n:Int) :bx Tryz.prog GS 158 [.int .i64 n] (.aI (dJ ⟨1#8,n,0#64,[]⟩)) :=by
 refine bH Tryz.checked.mixed bD ?_;apply bm Tryz.func158 [];simp;exact aK rfl rfl
theorem aku (b:Q) :bx Tryz.prog GS 159 [cU b] (.aI (dJ ⟨2#8,0,nN b,[]⟩)) :=by
 refine bH Tryz.checked.mixed bD ?_;apply bm Tryz.func159 [];simp;refine aW (Zk b) rfl ?_;simp;exact aK rfl rfl
def tP (s:List UInt8) :h6 × Int:=if s.length<=30 then (if s.all (hQ 32) then (⟨3#8,0,0#64,s⟩,0) else (o3,8)) else (o3,4)
theorem akw (s:List UInt8) :bx Tryz.prog GS 160 [.str s] (.bJ [.aI (dJ (tP s).1),.int .i64 (tP s).2]) :=by
 refine bH Tryz.checked.mixed bD ?_;apply bm Tryz.func160 [];unfold tP;have ae:((30:Int)<s.length)<->¬ s.length<=30:=by omega
 by_cases aT:s.length<=30
 ·simp[ae,aT];refine aW (WK aa5 ajV s) rfl ?_;have al:=Mx 32 (by omega) s s.length 0 (by omega);rw[as1] at al;have aE:((0:Int)<=lR (nM 32) s s.length 0)<->¬ (s.all (hQ 32)=true) :=by rw[<-al]; omega
  cases ag:s.all (hQ 32) with
  | true=>
   have aU:¬ (0:Int)<=lR (nM 32) s s.length 0:=by rw[aE,ag]; simp
   simp[aU];exact aK (by simp[aT]; rfl) rfl
  | false=>
   have aU:(0:Int)<=lR (nM 32) s s.length 0:=by rw[aE,ag]; simp
   simp[aU];exact aK (by simp[aT]; rfl) rfl
 ·simp[ae,aT];exact aK rfl rfl
def ke (v:h6) :Bool:=
 if v.kind=1#8 then decide (v.bits=0#64)&&decide (v.text=[])
 else if v.kind=2#8 then decide (v.num=0)&&decide (v.text=[])&&decide (nN v.bits=v.bits)
 else if v.kind=3#8 then decide (v.num=0)&&decide (v.bits=0#64)&&decide (v.text.length<=30)&&v.text.all (hQ 32)
 else false
def hI (b:Bool) :Int:=if b then 0 else 8
def afA:List mG:=[.i .u8,.i .i64,.i .u64,.s]
theorem T9:r4 Tryz.prog 20 42=some afA:=by kernel_rfl
theorem akx (a b:h6) :gq Tryz.prog .eql 42 (.aI (dJ a)) (.aI (dJ b))=some (.bool (fk (dJ a) (dJ b))) :=Fc T9 (by kernel_rfl) (by kernel_rfl) rfl rfl
theorem aky (a b:h6) :gq Tryz.prog .neq 42 (.aI (dJ a)) (.aI (dJ b))=some (.bool (!fk (dJ a) (dJ b))) :=Fe T9 (by kernel_rfl) (by kernel_rfl) rfl rfl
theorem PH (a b:h6) :fk (dJ a) (dJ b)=(decide (a.kind=b.kind)&&(decide (a.num=b.num)&&(decide (a.bits=b.bits)&&decide (a.text=b.text)))) :=by
 simp[dJ,fk,ad.beq]
theorem OJ {v:h6} (k:v.kind=1#8) :ke v=(decide (v.bits=0#64)&&decide (v.text=[])) :=by simp[ke,k]
theorem OK {v:h6} (k:v.kind=2#8) :ke v=(decide (v.num=0)&&(decide (v.bits=nN v.bits)&&decide (v.text=[]))) :=by
 unfold ke;rw[if_neg (by rw[k]; decide),if_pos k,show decide (nN v.bits=v.bits)=decide (v.bits=nN v.bits) from decide_eq_decide.2 eq_comm];cases decide (v.num=0)<;>cases decide (v.text=[])<;>cases decide (v.bits=nN v.bits)<;>rfl
theorem Xg {v:h6} (k:v.kind=3#8) :ke v=(decide (v.kind=(tP v.text).1.kind)&&(decide (v.num=(tP v.text).1.num)&&(decide (v.bits=(tP v.text).1.bits)&&decide (v.text=(tP v.text).1.text)))) :=by
 unfold ke tP;rw[if_neg (by rw[k]; decide),if_neg (by rw[k]; decide),if_pos k];by_cases h1:v.text.length<=30
 ·cases ae:v.text.all (hQ 32) with
  | true=>simp[h1,k]
  | false=>simp[h1,k,o3]
 ·simp[h1,k,o3]
theorem OL {v:h6} (ce:v.kind≠1#8) (bI:v.kind≠2#8) (cS:v.kind≠3#8) :ke v=false:=by simp[ke,ce,bI,cS]
theorem OI (v:h6) :bx Tryz.prog GS 105 [.aI (dJ v)] (.int .i64 (hI (ke v))) :=by
 refine bH Tryz.checked.mixed bD ?_;apply bm Tryz.func105 [];have av:∀ (k:B) (n:Int) (b:Q) (t:List UInt8),gq Tryz.prog .neq 42 (.aI [bA v.kind,.int .i64 v.num,cU v.bits,.str v.text]) (.aI [bA k,.int .i64 n,cU b,.str t])=some (.bool (!(decide (v.kind=k)&&(decide (v.num=n)&&(decide (v.bits=b)&&decide (v.text=t)))))) :=fun k n b t=>by rw[<-PH v ⟨k,n,b,t⟩]; exact aky v ⟨k,n,b,t⟩
 by_cases ce:v.kind=1#8
 ·have h1:=av 1#8 v.num 0#64 [];simp only[ce] at h1;unfold dJ;simp[iY,ce];refine aW (akv v.num) rfl ?_;unfold dJ;simp[h1];rw[OJ ce];cases decide (v.bits=0#64)<;>cases decide (v.text=[])<;>simp[ce]<;>exact aK rfl rfl
 ·by_cases bI:v.kind=2#8
  ·have h1:=av 2#8 0 (nN v.bits) [];simp only[bI] at h1;unfold dJ;simp[iY,mD,bI];refine aW (aku v.bits) rfl ?_;unfold dJ;simp[h1];rw[OK bI];cases decide (v.num=0)<;>cases decide (v.bits=nN v.bits)<;>cases decide (v.text=[])<;>simp[bI]<;>exact aK rfl rfl
  ·by_cases cS:v.kind=3#8
   ·obtain⟨w,hw⟩:∃ w,w=(tP v.text).1:=⟨_,rfl⟩
    have h1:=av w.kind w.num w.bits w.text;have al:=Xg cS;rw[<-hw] at al;simp only[cS] at h1 al;unfold dJ;simp[iY,mD,pU,cS];refine aW (akw v.text) rfl ?_;rw[<-hw];unfold dJ;simp[h1];rw[al];cases decide (3#8=w.kind)<;>cases decide (v.num=w.num)<;>cases decide (v.bits=w.bits)<;>cases decide (v.text=w.text)<;>simp[cS]<;>exact aK rfl rfl
   ·have h1:gq Tryz.prog .neq 42 (.aI [bA v.kind,.int .i64 v.num,cU v.bits,.str v.text]) (.aI [.int .u8 0,.int .i64 0,.int .u64 0,.str []])=some (.bool (!(decide (v.kind=0#8)&&(decide (v.num=0)&&(decide (v.bits=0#64)&&decide (v.text=[])))))) :=av 0#8 0 0#64 [];rw[OL ce bI cS];unfold dJ;simp[iY,mD,pU,ce,bI,cS];by_cases g7:v.kind=0#8
    ·simp only[g7,decide_true,asM] at h1;simp[g7,h1];cases decide (v.num=0)<;>cases decide (v.bits=0#64)<;>cases decide (v.text=[])<;>simp[g7]<;>exact aK rfl rfl
    ·simp only[g7,decide_false,asN,auZ] at h1;simp[h1];exact aK rfl rfl
theorem VV (v:h6) :bx Tryz.prog GS 110 [.aI (dJ v)] (.int .i64 (hI (ke v))) :=by
 refine bH Tryz.checked.mixed bD ?_;apply bm Tryz.func110 [[[0],[1],[2],[3],[4],[5],[6],[7],[8],[9],[10],[12],[13],[11,13]]];by_cases ce:v.kind=1#8
 ·rw[OJ ce];unfold dJ;simp[iY,ce,ve];by_cases aL:v.bits=0#64<;>by_cases aT:v.text=[]<;>simp[aL,aT,ve]<;>exact aK rfl rfl
 ·by_cases bI:v.kind=2#8
  ·rw[OK bI];unfold dJ;simp[iY,mD,bI];by_cases aL:v.num=0
   ·by_cases aT:v.text=[]
    ·simp[aL,aT];refine aW (aid v.bits) rfl ?_;by_cases a7:v.bits=nN v.bits
     ·have bp:nN v.bits=v.bits:=a7.symm;simp[bp];exact aK (by simp[hI,aL,aT,bp]) rfl
     ·have bp:¬ nN v.bits=v.bits:=fun h=>a7 h.symm
      simp[a7,bp];exact aK (by simp[hI,a7]) rfl
    ·simp[aL,aT];exact aK rfl rfl
   ·simp[aL];exact aK rfl rfl
  ·by_cases cS:v.kind=3#8
   ·have aw:ke v=(decide (v.num=0)&&decide (v.bits=0#64)&&decide (v.text.length<=30)&&v.text.all (hQ 32)) :=by simp[ke,cS]
    have ae:((v.text.length:Int)<=30)<->v.text.length<=30:=by omega
    rw[aw];unfold dJ;simp[iY,mD,pU,cS,ve];by_cases aL:v.num=0
    ·by_cases aT:v.bits=0#64
     ·by_cases a7:v.text.length<=30
      ·simp[aL,aT,ae,a7];refine aW (ahf v.text (by omega)) rfl ?_;cases v.text.all (hQ 32)<;>simp<;>exact aK (by simp[hI,aL,aT,a7]) rfl
      ·simp[aL,aT,ae,a7];exact aK rfl rfl
     ·simp[aL,aT,ve];exact aK rfl rfl
    ·simp[aL];exact aK rfl rfl
   ·rw[OL ce bI cS];unfold dJ;simp[iY,mD,pU,ce,bI,cS];exact aK rfl rfl
structure Act where
 kind:B
 key:List UInt8
 val:h6
def he (a:Act) :List ad:=[bA a.kind,.str a.key,bA a.val.kind,.int .i64 a.val.num,cU a.val.bits,.str a.val.text]
def ob (v:h6) :Bool:=decide (v.kind=0#8)&&(decide (v.num=0)&&(decide (v.bits=0#64)&&decide (v.text=[])))
def kE (a:Act) :Bool:=
 if a.kind=1#8 then decide (a.key=[])&&ob a.val
 else if a.kind=2#8\/a.kind=3#8 then gN a.key&&ob a.val
 else if a.kind=4#8 then gN a.key&&ke a.val
 else false
def qT:List mG:=[.i .u8,.s,.i .u8,.i .i64,.i .u64,.s]
theorem afG:r4 Tryz.prog 20 78=some qT:=by kernel_rfl
theorem Yk (a b:Act) :gq Tryz.prog .eql 78 (.aI (he a)) (.aI (he b))=some (.bool (fk (he a) (he b))) :=Fc afG (by kernel_rfl) (by kernel_rfl) rfl rfl
theorem Yl (a:Act) (h:a.kind=1#8) :gq Tryz.prog .eql 78 (.aI [.int .u8 1,.str a.key,bA a.val.kind,.int .i64 a.val.num,cU a.val.bits,.str a.val.text]) (.aI [.int .u8 1,.str [],.int .u8 0,.int .i64 0,.int .u64 0,.str []])=some (.bool (decide (a.key=[])&&ob a.val)) :=by
 have:=Yk a ⟨1#8,[],o3⟩;simp only[he,h] at this;refine Eq.trans this ?_;simp[fk,ad.beq,ob,o3,akq,ve];congr
theorem Xf (v:h6) :gq Tryz.prog .eql 42 (.aI [bA v.kind,.int .i64 v.num,cU v.bits,.str v.text]) (.aI [.int .u8 0,.int .i64 0,.int .u64 0,.str []])=some (.bool (ob v)) :=by
 have:=akx v o3;rw[PH] at this;exact this
theorem Pb {a:Act} (k:a.kind=1#8) :kE a=(decide (a.key=[])&&ob a.val) :=by simp[kE,k]
theorem B8 {a:Act} (k:a.kind=2#8) :kE a=(gN a.key&&ob a.val) :=by simp[kE,k]
theorem Jk {a:Act} (k:a.kind=3#8) :kE a=(gN a.key&&ob a.val) :=by simp[kE,k]
theorem B9 {a:Act} (k:a.kind=4#8) :kE a=(gN a.key&&ke a.val) :=by simp[kE,k]
theorem Jl {a:Act} (ce:a.kind≠1#8) (bI:a.kind≠2#8) (cS:a.kind≠3#8) (c5:a.kind≠4#8) :kE a=false:=by simp[kE,ce,bI,cS,c5]
theorem JI (a:Act) :bx Tryz.prog GS 104 [.aI (he a)] (.int .i64 (hI (kE a))) :=by
 refine bH Tryz.checked.mixed bD ?_;apply bm Tryz.func104 [];by_cases ce:a.kind=1#8
 ·have h1:=Yl a ce;have aR:bA (1#8)=.int .u8 1:=rfl;rw[Pb ce];unfold he;simp[iY,ce,aR,h1];by_cases aL:a.key=[]<;>cases aT:ob a.val<;>simp[aL,aT]<;>exact aK rfl rfl
 ·have h1:=Xf a.val;by_cases bI:a.kind=2#8
  ·rw[B8 bI];unfold he;simp[iY,mD,pU,ce,bI];refine aW (ME a.key) rfl ?_;cases gN a.key with
   | true=>simp[h1]; cases ob a.val<;>simp<;>exact aK rfl rfl
   | false=>simp; exact aK rfl rfl
  ·by_cases cS:a.kind=3#8
   ·rw[Jk cS];unfold he;simp[iY,mD,pU,ce,cS];refine aW (ME a.key) rfl ?_;cases gN a.key with
    | true=>simp[h1]; cases ob a.val<;>simp<;>exact aK rfl rfl
    | false=>simp; exact aK rfl rfl
   ·by_cases c5:a.kind=4#8
    ·rw[B9 c5];unfold he;simp[iY,mD,pU,xx,c5];refine aW (ME a.key) rfl ?_;cases gN a.key with
     | true=>
      simp;refine aW (OI a.val) rfl ?_;cases ke a.val<;>simp[hI]<;>exact aK rfl rfl
     | false=>simp; exact aK rfl rfl
    ·rw[Jl ce bI cS c5];unfold he;simp[iY,mD,pU,xx,ce,bI,cS,c5];exact aK rfl rfl
theorem aie (a:Act) :bx Tryz.prog GS 129 [.aI (he a)] (.int .i64 (hI (kE a))) :=by
 refine bH Tryz.checked.mixed bD ?_;apply bm Tryz.func129 [];have h1:=Xf a.val;by_cases ce:a.kind=1#8
 ·rw[Pb ce];unfold he;simp[iY,ce,h1];by_cases aL:a.key=[]<;>cases aT:ob a.val<;>simp[aL,aT]<;>exact aK rfl rfl
 ·by_cases bI:a.kind=2#8
  ·rw[B8 bI];unfold he;simp[iY,mD,pU,ce,bI,h1];refine aW (D3 a.key) rfl ?_;cases gN a.key with
   | true=>simp; cases ob a.val<;>simp<;>exact aK rfl rfl
   | false=>simp; exact aK rfl rfl
  ·by_cases cS:a.kind=3#8
   ·rw[Jk cS];unfold he;simp[iY,mD,pU,ce,cS,h1];refine aW (D3 a.key) rfl ?_;cases gN a.key with
    | true=>simp; cases ob a.val<;>simp<;>exact aK rfl rfl
    | false=>simp; exact aK rfl rfl
   ·by_cases c5:a.kind=4#8
    ·rw[B9 c5];unfold he;simp[iY,mD,pU,xx,c5,h1];refine aW (D3 a.key) rfl ?_;cases gN a.key with
     | true=>
      simp;refine aW (VV a.val) rfl ?_;cases ke a.val<;>simp[hI]<;>exact aK rfl rfl
     | false=>simp; exact aK rfl rfl
    ·rw[Jl ce bI cS c5];unfold he;simp[iY,mD,pU,xx,ce,bI,cS,c5,h1];exact aK rfl rfl
end Op

end Go.cf

/-
  SHA-256, walked: Pieces, Sum.
-/
import Derived.Test.YtidejmkknleijaaGreatDoorKf
import Derived.LaidMore
import Derived.MakeChecks
import Derived.Lib.DecodeN
set_option linter.unusedVariables false
set_option linter.unusedSimpArgs false
set_option linter.unnecessarySimpa false
namespace Go.ca
open Go Go.Proofs
set_option maxRecDepth 100000
namespace hN
structure wy (m:ri) (b:List B) :Prop where
 Fl:ha first b=(m.st,m.rest.l)
 n:m.n=b.length
theorem Yv {m:ri} {b:List B} (h:wy m b) (s:eN) :wy (rq m s) (b++s.l) :=by
 have ad:ha first (b++s.l)=ha m.st (m.rest.l++s.l) :=by rw[KL,h.Fl]
 refine⟨?_,?_⟩
 ·rw[ad];unfold rq
  dsimp only
  split
  ·rename_i ao;rw[ao]; rfl
  ·rfl
 ·unfold rq
  dsimp only
  rw[h.n]; simp
theorem Yw {m:ri} {b:List B} (h:wy m b) :m.rest.l.length<64:=by
 have:=SS first b
 rw[h.Fl] at this;simp only at this;rw[this]; exact amc _ (by omega)
theorem Yu {m:ri} {b:List B} (h:wy m b) :B9 m.st m.rest b.length=ib b:=by
 unfold B9 ib;rw[KL first b,h.Fl]
def start:ri:=⟨first,none,0⟩
theorem Yx:wy start [] :=⟨rfl,rfl⟩
theorem acG:pb Tryz.prog GS 160 [] (pi start) :=by
 refine A3 Tryz.checked.mixed bx ?_;apply bf Tryz.func160 [];simp;exact .flat _ rfl
def qL (s:eN) :Bool:=decide ((10000:Int)<s.l.length)
theorem Y9 (s:eN) :bn Tryz.prog GS 159 [cu s] (.bool (qL s)) :=by
 refine bD Tryz.checked.mixed bx ?_;apply bf Tryz.func159 [];simp[cu];exact aJ rfl rfl
theorem UL:j2 Tryz.prog 159=true:=by kernel_rfl
def idx (l:List eN) :Int:=match l.findIdx? qL with | some i=>(i:Int) | none=>-1
theorem Yh {l:List eN} {k:Nat} {s:eN} (ak:l[k]? = some s) (am:qL s=true) (cH:∀ j s,j<k->l[j]? = some s->qL s=false) :idx l=k:=by
 have:l.findIdx? qL=some k:=by
  rw[List.findIdx?_eq_some_iff_getElem];obtain⟨ad,rfl⟩:=aj7.1 ak;refine⟨ad,am,fun j aj=>?_⟩;rw[cH j l[j] aj (aka (by omega))]; simp
 unfold idx; rw[this]
theorem Oi {l:List eN} (cH:∀ j s,j<l.length->l[j]? = some s->qL s=false) :idx l=-1:=by
 have:l.findIdx? qL=none:=by
  rw[List.findIdx?_eq_none_iff];intro x ai;obtain⟨j,aj⟩:=akj.1 ai;exact cH j x (aj7.1 aj).1 aj
 unfold idx; rw[this]
theorem HQ (cl:cT eN) (am:cl.l.length<=1000000000) :bn Tryz.prog GS 191 [lZ cl,.fn 159 [] []] (.int .i64 (idx cl.l)) :=by
 refine bD Tryz.checked.mixed bx ?_;apply bf Tryz.func191 [];have bC:ch (.ar 1) (lZ cl)=some (.int .i64 cl.l.length) :=qS _;simp[bC];refine cm cl.l.length (fun k ae l=>ae 0=lZ cl/\ae 1=.fn 159 [] []/\ae 7=.int .i64 cl.l.length/\ae 8=.int .i64 k/\∀ j s,j<k->cl.l[j]? = some s->qL s=false) ?_ (by simp);rintro k ae l ax ⟨cp,aN,ez,fB,cH⟩;obtain⟨ae,rfl⟩:=h1 cp aN ez fB;clear cp aN ez fB;simp;by_cases h:k<cl.l.length
 ·obtain⟨s,ak,_⟩:=bF h;have bU:cN (.ar 1) (lZ cl) (.int .i64 k)=some (.cg [cu s] 0) :=by
   rw[r1]; simp[ak]
  have eT:IntKind.i64.wrap ((k:Int)+1)=k+1:=wrap_i64 (by omega) (by omega);simp[h,bU];refine⟨UL,aY (Y9 s) (by simp[a1,lo]) ?_⟩;cases vN:qL s with
  | true=>
   simp;rw[Yh ak vN cH];exact aJ rfl rfl
  | false=>
   simp[h,eT];intro j Eo aj rW;rcases akX j k with ad | ad
   ·exact cH j Eo ad rW
   ·have:j=k:=by omega
    subst this;rw[ak] at rW; cases rW; exact vN
 ·simp[h];rw[Oi (fun j s aj ak=>cH j s (by omega) ak)];exact aJ rfl rfl
theorem TK (cl:cT eN) (am:cl.l.length<=1000000000) :bn Tryz.prog GS 158 [lZ cl,.fn 159 [] []] (.bool (decide (0<=idx cl.l))) :=by
 refine bD Tryz.checked.mixed bx ?_;apply bf Tryz.func158 [];simp;refine aY (HQ cl am) (by simp[a1,U.closed,K3]) ?_;simp;exact aJ rfl rfl
set_option maxHeartbeats 4000000 in
theorem Po (cl:List eN) (afX:cl.length<=20) (cH:∀ s∈cl,s.l.length<=10000) :bn Tryz.prog GS 118 [lZ (some cl)] (.bu [fY (ib (bytesOf cl)),.int .i64 0]) :=by
 have tg:idx cl=-1:=Oi fun j s aj ak=>by
  have:=cH s (ake ak);unfold qL; simp; omega
 have bC:∀ k,(bytesOf (cl.take k)).length<=200000:=fun k=>by
  have:∀ l:List eN,(∀ s∈l,s.l.length<=10000)->(bytesOf l).length<=10000*l.length:=by
   intro l
   induction l with
   | nil=>intro _; simp[bytesOf]
   | cons s l aQ=>
    intro h;have ad:=aQ fun x ai=>h x (by simp[ai])
    have af:=h s (by simp);unfold bytesOf at ad ⊢;rw[akx,akT,akf,akv];omega
  have ad:=this (cl.take k) fun s ak=>cH s (akD ak)
  have af:(cl.take k).length<=20:=by simp; omega
  omega
 refine bD Tryz.checked.mixed bx ?_;apply bf Tryz.func118 [];have U8:¬(20:Int)<cl.length:=by omega
 have MK:=TK (some cl) (by simp; omega);rw[cT.v2,tg] at MK;simp[U8];refine aY MK (by simp[a1,U.closed,K3]) ?_;simp;refine aY acG.EB rfl ?_;simp[pi,tQ,mz];refine cm cl.length (fun k ae l=>ae 2=.ptr 0 0 32/\ae 4=.ptr 1 0 10/\ae 16=lZ (some cl)/\ae 17=.int .i64 cl.length/\ae 18=.int .i64 k/\∃ m,wy m (bytesOf (cl.take k))/\l=[.cells 32 (rep 32 (.int .u8 0)),.cells 10 (gy m.st (cu m.rest) m.n)]) ?_ ?_
 ·rintro k ae l ax ⟨aT,a9,w5,ot,ou,m,hm,rfl⟩;obtain⟨ae,rfl⟩:=kq aT a9 w5 ot ou;clear aT a9 w5 ot ou;simp;have eS:(U.aH (gy m.st (cu m.rest) m.n)).closed=true:=by simp[U.closed,a1,gy,et.l,lo]
  have kg:List.take 10 (gy m.st (cu m.rest) m.n)=gy m.st (cu m.rest) m.n:=rfl;have pF:=Yw hm;have oG:=hm.n;have vM:=bC k;by_cases h:k<cl.length
  ·obtain⟨s,ak,ji⟩:=bF h;have bU:cN (.ar 1) (lZ (some cl)) (.int .i64 k)=some (.cg [cu s] 0) :=by
    rw[r1]; simp[ak]
   have eT:IntKind.i64.wrap ((k:Int)+1)=k+1:=wrap_i64 (by omega) (by omega);have ad:=cH s ji;have aI:=Ly m s (by omega) (by omega) (by omega);have g3:=Yv hm s;rw[<-Fs cl k s ak] at g3;obtain⟨F,vv⟩:∃ F,F=rq m s:=⟨_,rfl⟩
   rw[<-vv] at aI g3;simp[h,bU,tQ,kg];refine aY aI.EB ?_ ?_
   ·simp only[a1,eS,lo,alP]
   simp[pi,tQ,mz,h,eT];exact⟨F,g3,rfl⟩
  ·have br:k=cl.length:=by omega
   subst br;rw[akE] at hm oG vM;have ao:=Ue m.st m.rest (bytesOf cl).length (by omega) (by omega);rw[Yu hm] at ao;have md:m=⟨m.st,m.rest,((bytesOf cl).length:Int)⟩:=by rw[<-oG]
   rw[<-md] at ao;have bq:=us (bytesOf cl);simp[h,tQ,kg];refine aY ao ?_ ?_
   ·simp only[a1,eS,alP]
   have eb:((ib (bytesOf cl)).map bz).length=32:=by rw[aki,bq]
   simp[fY,bq,mz,aj9];exact aJ rfl (by simp[U.closed,a1,ln bz (fun _=>rfl)])
 ·simp[bytesOf];exact⟨start,Yx,rfl⟩
theorem acQ (s:eN) (h:s.l.length<=10000) :bn Tryz.prog GS 85 [cu s] (.bu [fY (ib s.l),.int .i64 0]) :=by
 have ag:bytesOf [s]=s.l:=by simp[bytesOf]
 have av:=Po [s] (by simp) (by simpa using h);rw[ag] at av;refine bD Tryz.checked.mixed bx ?_;apply bf Tryz.func85 [];have bq:=us s.l;simp;refine kQ av (.cons ?_ .nil) (by simp[U.flat,kV,fY,w1 bz (fun _=>rfl)]) ?_
 ·exact Ef (es:=[[cu s]]) (rest:=[]) rfl rfl (by simp) (by simp[a1,lo])
 simp[fY,bq,mz,aj9];exact aJ rfl (by simp[U.closed,a1,ln bz (fun _=>rfl)])
theorem rb (x:W) (n:Nat) (aF:0<n) (h:n<32) :bn Tryz.prog GS 237 [bp x,.int .i64 n] (bp (mu x n)) :=by
 refine bD Tryz.checked.mixed bx ?_;apply bf Tryz.func237 [];have aV:IntKind.i64.wrap (32 - (n:Int))=(32 - n:Nat) :=by rw[wrap_i64 (by omega) (by omega)]; omega
 obtain⟨m,hm⟩:∃ m,m=32 - n:=⟨_,rfl⟩
 rw[<-hm] at aV;simp[aV];exact aJ (by unfold mu; rw[hm]) rfl
def ej (x:W) :List U:=[bp x]
set_option maxHeartbeats 4000000 in
theorem TJ:pb Tryz.prog GS 238 [] (ct 1 ej (some b7)) :=by
 refine A3 Tryz.checked.mixed bx ?_;apply bf Tryz.func238 [];simp;exact P7 (z:=1) (es:=b7.map ej) (rest:=[]) (by kernel_rfl) (by kernel_rfl) (fun e ao=>by obtain⟨y,_,rfl⟩:=akz.1 ao; rfl) (fun e ao=>by obtain⟨y,_,rfl⟩:=akz.1 ao; rfl)
theorem UG:bn Tryz.prog GS 203 [] (.aH (first.l.map bp)) :=by
 refine bD Tryz.checked.mixed bx ?_;apply bf Tryz.func203 [];simp;exact aJ rfl rfl
theorem adV (b:List B) (t:Nat) (gZ dn dc iJ:B) (aF:b[4*t]? = some gZ) (ad:b[4*t+1]? = some dn) (af:b[4*t+2]? = some dc) (al:b[4*t+3]? = some iJ) :
  nY ((b.drop (4*t)).take 4)=((gZ.setWidth 32*256#32+dn.setWidth 32)*256#32+dc.setWidth 32)*256#32+iJ.setWidth 32:=by
 have h:(b.drop (4*t)).take 4=[gZ,dn,dc,iJ] :=by
  have am:=(aj7.1 al).1;apply akY;intro i
  match i with
  | 0=>simp[aF]
  | 1=>simp[ad]
  | 2=>simp[af]
  | 3=>simp[al]
  | i+4=>rw[akp (by simp; omega),akp (by simp)]
 rw[h];show ((((0#32 <<< 8 ||| gZ.setWidth 32) <<< 8 ||| dn.setWidth 32) <<< 8 ||| dc.setWidth 32) <<< 8 ||| iJ.setWidth 32)=_;rw[Es,Es,Es,Es];simp
theorem Rv {l:ap} {v:U} {j:Nat} {gX:List W} (h:bJ 1 l v j (gX.map ej)) (aq:cw v=false) :∃ (cap sz:Nat) (cs:List U),v=.ar 1 j 0 gX.length cap sz/\l[j]? = some (.cells sz cs)/\∀ (i:Nat) (x:W),gX[i]? = some x->cs[i]? = some (bp x) :=by
 obtain⟨n,cap,sz,cs,ad,af,al,aG,a6,bK,_⟩:=h.view aq;rw[aki] at aG;subst aG;refine⟨cap,sz,cs,ad,af,fun i x ai=>?_⟩;have:=bK i (ej x) (by rw[akd,ai]; rfl) 0 (by omega);simpa [ej] using this
theorem adY (b:List B) (k:Nat) (ax:k<16) :(e4 b).take (k+1)=(e4 b).take k++[nY ((b.drop (4*k)).take 4)] :=by
 have:(e4 b)[k]? = some (nY ((b.drop (4*k)).take 4)) :=by unfold e4; rw[akd,akL ax]; rfl
 rw[akC,this]; rfl
theorem adW (b:List B) :(e4 b).length=16:=by simp[e4]
theorem Uv (k:Nat) (b:List B) :(h5 k (e4 b)).length=16+k:=by simp[vk,e4]
set_option maxHeartbeats 16000000 in
theorem U5 (h:et) (b:List B) (ag:64<=b.length) :bn Tryz.prog GS 227 [.aH (h.l.map bp),cu (some b)] (.aH ((grind h b).l.map bp)) :=by
 have kE:cF=140737488355328:=rfl;have M1:(h.l.map bp).length=8:=rfl;refine bD Tryz.checked.mixed bx ?_;apply bf Tryz.func227 [[],[],[[0],[1],[2],[3],[4],[5],[6],[7],[8],[9],[10],[11],[12],[14],[17],[18],[21],[23],[26],[27],[13,10,5],[15,10,5],[16],[19],[20],[22,10,5],[24,10,5],[25]],[],[[0],[1],[2],[4],[7],[11],[12],[13],[14],[15],[16],[17],[18],[20],[21],[22],[23],[25],[26],[27],[28],[3,28,23,1],[5,28,23,1],[6],[8,28,23,1],[9],[10],[19],[24]]];simp[M1];refine cm 16 (fun k ae l=>ae 1=cu (some b)/\ae 2=.ptr 0 0 8/\ae 4=.ptr 1 0 8/\ae 6=.int .i64 k/\∃ v j gY rest,ae 5=v/\(cw v=true->k=0)/\(v=.aK\/2<=j)/\bJ 1 l v j (((e4 b).take k).map ej)/\l=.cells 8 (h.l.map bp) ::.cells 8 gY::rest/\gY.length=8) ?_ ?_
 ·rintro k ae l ax ⟨aN,aT,a9,cq,v,j,gY,rest,bg,aq,aj,au,rfl,kh⟩;obtain⟨ae,rfl⟩:=kq aN aT a9 bg cq;clear aN aT a9 bg cq;by_cases M9:(k:Int)<16
  ·have eG:k<16:=by omega
   obtain⟨a,aC⟩:∃ a,a=4*k:=⟨_,rfl⟩
   have h2:IntKind.i64.wrap (4*(k:Int))=(a:Nat) :=by rw[wrap_i64 (by omega) (by omega)]; omega
   obtain⟨a2,Gk⟩:∃ x,x=a+1:=⟨_,rfl⟩
   obtain⟨bb,VD⟩:∃ x,x=a+2:=⟨_,rfl⟩
   obtain⟨cr,VE⟩:∃ x,x=a+3:=⟨_,rfl⟩
   have bV:IntKind.i64.wrap ((a:Int)+1)=a2:=by rw[wrap_i64 (by omega) (by omega)]; omega
   have w2:IntKind.i64.wrap ((a:Int)+2)=bb:=by rw[wrap_i64 (by omega) (by omega)]; omega
   have eM:IntKind.i64.wrap ((a:Int)+3)=cr:=by rw[wrap_i64 (by omega) (by omega)]; omega
   have hL:IntKind.i64.wrap ((k:Int)+1)=k+1:=wrap_i64 (by omega) (by omega);obtain⟨gZ,qt⟩:∃ x,b[a]? = some x:=⟨_,aka (by omega)⟩
   obtain⟨dn,hF⟩:∃ x,b[a2]? = some x:=⟨_,aka (by omega)⟩
   obtain⟨dc,ft⟩:∃ x,b[bb]? = some x:=⟨_,aka (by omega)⟩
   obtain⟨iJ,zK⟩:∃ x,b[cr]? = some x:=⟨_,aka (by omega)⟩
   have bU:∀ (i:Nat) (x:B),b[i]? = some x->cN (.ar 1) (cu (some b)) (.int .i64 i)=some (.cg (b0 x) 0) :=fun i x ai=>by rw[r1]; simp[ai]
   have Yg:=bU a gZ qt;have cK:=bU a2 dn hF;have dx:=bU bb dc ft;have gx:=bU cr iJ zK;have Hy:=adY b k eG;rw[adV b k gZ dn dc iJ (by rw[<-aC]; exact qt) (by rw[<-aC,<-Gk]; exact hF) (by rw[<-aC,<-VD]; exact ft) (by rw[<-aC,<-VE]; exact zK)] at Hy;obtain⟨w,aV⟩:∃ w,w=((gZ.setWidth 32*256#32+dn.setWidth 32)*256#32+dc.setWidth 32)*256#32+iJ.setWidth 32:=⟨_,rfl⟩
   rw[<-aV] at Hy;have m0:bJ 1 ([.cells 8 (h.l.map bp),.cells 8 gY]++(rest++[aU.cells 1 [bp w]])) v j (((e4 b).take k).map ej) :=au.more [aU.cells 1 [bp w]];have vM:(((e4 b).take k).map ej).length<=16:=by simp; omega
   obtain⟨a4,cb,dT,ad,af,al,aG⟩:=u5 (by_:=4) m0 aj (x:=.ar 1 (rest.length+2) 0 1 1 1) (xs:=[ej w]) (by simp[dd,ej]) (by simp[ej]) (by omega) (by omega) (by rw[kE]; simp; omega);have fI:bJ 1 (.cells 8 (h.l.map bp) ::.cells 8 gY::dT) a4 cb (((e4 b).take (k+1)).map ej) :=by rw[Hy,aks]; exact af
   simp only[ak6,ald] at ad;have e1:cw a4=false:=by rw[aG]; simp
   simp[M9,h2,bV,w2,eM,Yg,cK,dx,gx,b0];rw[<-aV];simp[ad];refine cM.cc ?_;simp[M9,hL,eG];exact⟨e1,cb,al,by rw[<-amF]; exact fI,kh⟩
  ·have eG:k=16:=by omega
   subst eG;have mf:cw v=false:=by
    cases Hv:cw v with
    | false=>rfl
    | true=>exact absurd (aq Hv) (by omega)
   have vG:2<=j:=by
    rcases aj with h | h
    ·subst h; cases mf
    ·exact h
   have Xh:bJ 1 (.cells 8 (h.l.map bp) ::.cells 8 gY::rest) v j ((e4 b).map ej) :=by
    have:(e4 b).take 16=e4 b:=aj9 (by rw[adW]; omega);rw[this] at au; exact au
   clear aq aj au;simp;refine cm 48 (fun k ae l=>ae 2=.ptr 0 0 8/\ae 4=.ptr 1 0 8/\ae 7=.int .i64 (16+k:Nat)/\∃ v j gY rest,ae 5=v/\cw v=false/\2<=j/\bJ 1 l v j ((h5 k (e4 b)).map ej)/\l=.cells 8 (h.l.map bp) ::.cells 8 gY::rest/\gY.length=8) ?_ ?_
   ·rintro k ae l ax ⟨aT,a9,ez,v,j,gY,rest,bg,aq,aj,au,rfl,kh⟩;obtain⟨ae,rfl⟩:=h1 aT a9 bg ez;clear aT a9 bg ez;obtain⟨t,a3⟩:∃ t,t=16+k:=⟨_,rfl⟩
    rw[<-a3];by_cases vH:(t:Int)<64
    ·have qF:IntKind.i64.wrap ((t:Int)+1)=(t+1:Nat) :=wrap_i64 (by omega) (by omega);have am:=Uv k b;obtain⟨tB,FG⟩:∃ i,i=t - 15:=⟨_,rfl⟩
     obtain⟨dx,bv⟩:∃ i,i=t - 2:=⟨_,rfl⟩
     obtain⟨tC,B5⟩:∃ i,i=t - 16:=⟨_,rfl⟩
     obtain⟨hV,FH⟩:∃ i,i=t - 7:=⟨_,rfl⟩
     have EH:IntKind.i64.wrap ((t:Int) - 15)=tB:=by rw[wrap_i64 (by omega) (by omega)]; omega
     have w2:IntKind.i64.wrap ((t:Int) - 2)=dx:=by rw[wrap_i64 (by omega) (by omega)]; omega
     have EI:IntKind.i64.wrap ((t:Int) - 16)=tC:=by rw[wrap_i64 (by omega) (by omega)]; omega
     have Bq:IntKind.i64.wrap ((t:Int) - 7)=hV:=by rw[wrap_i64 (by omega) (by omega)]; omega
     obtain⟨gX,vY⟩:∃ gX,gX=h5 k (e4 b) :=⟨_,rfl⟩
     have vX:=FP k (e4 b);rw[<-vY] at am au vX;have pL:gX.length=t:=by omega
     unfold ext at vX
     dsimp only at vX
     rw[pL,<-FG,<-bv,<-B5,<-FH] at vX;have Ck:∀ i,i<t->gX[i]? = some (gX.getD i 0#32) :=fun i aB=>by rw[ako,aka (by omega)]; rfl
     obtain⟨x,ai⟩:∃ x,x=gX.getD tB 0#32:=⟨_,rfl⟩
     obtain⟨y,aL⟩:∃ y,y=gX.getD dx 0#32:=⟨_,rfl⟩
     obtain⟨JU,N7⟩:∃ y,y=gX.getD tC 0#32:=⟨_,rfl⟩
     obtain⟨JV,N8⟩:∃ y,y=gX.getD hV 0#32:=⟨_,rfl⟩
     rw[<-ai,<-aL,<-N7,<-N8] at vX;obtain⟨cap,sz,cs,rfl,ti,cR⟩:=Rv au aq;have Tb:=cR tB x (by rw[ai]; exact Ck tB (by omega));have ce:=cR dx y (by rw[aL]; exact Ck dx (by omega));have yW:=cR tC JU (by rw[N7]; exact Ck tC (by omega));have u7:=cR hV JV (by rw[N8]; exact Ck hV (by omega));obtain⟨w,aV⟩:∃ w,w=JU+JV+(mu x 7 ^^^ mu x 18 ^^^ x >>> 3)+(mu y 17 ^^^ mu y 19 ^^^ y >>> 10) :=⟨_,rfl⟩
     rw[<-aV] at vX;have m0:bJ 1 ([.cells 8 (h.l.map bp),.cells 8 gY]++(rest++[aU.cells 1 [bp w]])) _ j (gX.map ej) :=au.more [aU.cells 1 [bp w]];obtain⟨a4,cb,dT,ad,af,al,aG⟩:=u5 (by_:=4) m0 (.inr aj) (x:=.ar 1 (rest.length+2) 0 1 1 1) (xs:=[ej w]) (by simp[dd,ej]) (by simp[ej]) (by omega) (by omega) (by rw[kE]; simp; omega);have fI:bJ 1 (.cells 8 (h.l.map bp) ::.cells 8 gY::dT) a4 cb ((h5 (k+1) (e4 b)).map ej) :=by rw[vX,aks]; exact af
     simp only[ak6,ald] at ad;have e1:cw a4=false:=by rw[aG]; rfl
     obtain⟨hw,rfl⟩:∃ hw,j=hw+2:=⟨j - 2,by omega⟩
     have qx:rest[hw]? = some (.cells sz cs) :=by simpa using ti
     have vL:(rest++[aU.cells 1 [bp w]])[hw]? = some (.cells sz cs) :=by rw[aj8 (b9 qx)]; exact qx
     have Ff:tB<gX.length:=by omega
     have dc:dx<gX.length:=by omega
     have Fg:tC<gX.length:=by omega
     have ql:hV<gX.length:=by omega
     have t7:=rb x 7 (by omega) (by omega);have t18:=rb x 18 (by omega) (by omega);have t17:=rb y 17 (by omega) (by omega);have t19:=rb y 19 (by omega) (by omega);simp at t7 t18 t17 t19;simp[vH,EH,w2,EI,Bq,Ff,dc,Fg,ql,qx,Tb,ce,yW,u7];refine aY t7 rfl ?_;simp[qx,yW,u7];refine aY t18 rfl ?_;simp[qx,yW,u7];refine aY t17 rfl ?_;simp[qx,yW,u7];refine aY t19 rfl ?_;simp[qx,yW,u7];rw[<-aV];simp[ad];refine cM.cc ?_;simp[qF];exact⟨by omega,by omega,e1,cb,al.resolve_left (by intro e; subst e; cases e1),fI,kh⟩
    ·have eG:k=48:=by omega
     subst eG;subst a3;have qE:h5 48 (e4 b)=e9 b:=rfl;rw[qE] at au;obtain⟨cap,sz,cs,rfl,ti,cR⟩:=Rv au aq;obtain⟨hw,rfl⟩:∃ hw,j=hw+2:=⟨j - 2,by omega⟩
     have qx:rest[hw]? = some (.cells sz cs) :=by simpa using ti
     have bq:=Bd b;rw[bq];clear au aq aj ti;simp;refine aY TJ.EB rfl ?_;have mZ:h.l.length=8:=rfl;simp[mz,mZ];refine cm 64 (fun k ae l=>ae 2=.ptr 0 0 8/\ae 4=.ptr 1 0 8/\ae 5=.ar 1 (hw+2) 0 64 cap sz/\ae 10=ct 1 ej (some b7)/\ae 11=.ptr (rest.length+2) 0 8/\ae 12=.int .i64 k/\l=.cells 8 (h.l.map bp) ::.cells 8 gY::(rest++[.cells 8 ((lJ h b k).l.map bp)])) ?_ ?_
     ·rintro k ae l ax ⟨aT,a9,bg,iq,ju,kw,rfl⟩;obtain⟨ae,rfl⟩:=uA aT a9 bg iq ju kw;clear aT a9 bg iq ju kw;have ev:=b9 qx;have vL:∀ x:aU,(rest++[x])[hw]? = some (.cells sz cs) :=fun x=>by rw[aj8 ev]; exact qx
      by_cases vH:(k:Int)<64
      ·have dR:k<64:=by omega
       have eT:IntKind.i64.wrap ((k:Int)+1)=(k+1:Nat) :=wrap_i64 (by omega) (by omega);have qw:b7[k]? = some (b7.getD k 0#32) :=by rw[ako,aka (show k<b7.length from dR)]; rfl
       have gL:=cR k ((e9 b).getD k 0#32) (by rw[ako,aka (by omega)]; rfl);rw[PU h b k dR];obtain⟨hL,aV⟩:∃ hL,(e9 b).getD k 0#32=hL:=⟨_,rfl⟩
       obtain⟨lH,GY⟩:∃ lH,b7.getD k 0#32=lH:=⟨_,rfl⟩
       obtain⟨s,ak⟩:∃ s,lJ h b k=s:=⟨_,rfl⟩
       rw[aV] at gL ⊢;rw[GY] at qw ⊢;rw[ak];have xV:cN (.ar 1) (ct 1 ej (some b7)) (.int .i64 k)=some (.cg (ej lH) 0) :=by rw[r1]; simp[qw]
       have t6:=rb s.e 6 (by omega) (by omega);have t11:=rb s.e 11 (by omega) (by omega);have t25:=rb s.e 25 (by omega) (by omega);have t2:=rb s.a 2 (by omega) (by omega);have t13:=rb s.a 13 (by omega) (by omega);have t22:=rb s.a 22 (by omega) (by omega);simp at t6 t11 t25 t2 t13 t22;have XN:s.l=[s.a,s.b,s.c,s.d,s.e,s.f,s.g,s.h] :=rfl;have NK:(round s lH hL).l=[(round s lH hL).a,(round s lH hL).b,(round s lH hL).c,(round s lH hL).d,(round s lH hL).e,(round s lH hL).f,(round s lH hL).g,(round s lH hL).h] :=rfl;simp[vH,XN,xV,ej,vL,gL];refine aY t6 rfl ?_;simp[xV,ej,vL,gL];refine aY t11 rfl ?_;simp[xV,ej,vL,gL];refine aY t25 rfl ?_;simp[xV,ej,vL,gL];refine aY t2 rfl ?_;simp[xV,ej,vL,gL];refine aY t13 rfl ?_;simp[xV,ej,vL,gL];refine aY t22 rfl ?_;simp[mz,dR,eT];rfl
      ·have eG:k=64:=by omega
       subst eG;rw[PT];obtain⟨v,aq⟩:∃ v,rounds h b7 (e9 b)=v:=⟨_,rfl⟩
       rw[aq];have hR:grind h b=⟨h.a+v.a,h.b+v.b,h.c+v.c,h.d+v.d,h.e+v.e,h.f+v.f,h.g+v.g,h.h+v.h⟩:=by unfold grind; rw[aq]
       have qy:h.l.length=v.l.length:=rfl;have mZ:h.l.length=8:=rfl;have rK:(grind h b).l=ij h.l v.l 8:=by rw[hR]; rfl
       rw[rK];simp;refine cm 8 (fun k ae l=>ae 2=.ptr 0 0 8/\ae 4=.ptr 1 0 8/\ae 11=.ptr (rest.length+2) 0 8/\ae 21=.int .i64 k/\l=.cells 8 ((ij h.l v.l k).map bp) ::.cells 8 gY::(rest++[.cells 8 (v.l.map bp)])) ?_ ?_
       ·rintro k ae l ax ⟨aT,a9,ju,rs,rfl⟩;obtain⟨ae,rfl⟩:=h1 aT a9 ju rs;clear aT a9 ju rs;by_cases hH:(k:Int)<8
        ·have rM:k<8:=by omega
         have eT:IntKind.i64.wrap ((k:Int)+1)=(k+1:Nat) :=wrap_i64 (by omega) (by omega);obtain⟨y,aL⟩:∃ y,v.l[k]? = some y:=⟨_,aka (show k<v.l.length from rM)⟩
         obtain⟨z,aw⟩:∃ z,h.l[k]? = some z:=⟨_,aka (show k<h.l.length from rM)⟩
         have aC:=Kd qy (k:=k) (by rw[mZ]; exact rM);rw[aw] at aC;have hd:=E7 qy k;have m1:=nP bp (ij h.l v.l k) k (z+y) (by rw[hd,mZ]; exact rM);rw[Ke qy aw aL] at m1;have MZ:(List.map bp (ij h.l v.l k))[k]? = some (bp z) :=by rw[akd,aC]; rfl
         have xA:k<=7:=by omega
         obtain⟨A,dQ⟩:∃ A,A=(ij h.l v.l k).map bp:=⟨_,rfl⟩
         have j4:A.length=8:=by rw[dQ,aki,hd,mZ]
         rw[<-dQ] at MZ m1 ⊢;obtain⟨Vd,Wt⟩:=aj7.1 MZ;simp[hH,rM,eT,Wt,aL,m1,j4,xA]
        ·have eG:k=8:=by omega
         subst eG;have hd:=E7 qy 8;have Dn:∀ A:List U,A.length=8->A.take 8=A:=fun A dQ=>aj9 (by omega)
         obtain⟨A,dQ⟩:∃ A,A=(ij h.l v.l 8).map bp:=⟨_,rfl⟩
         have j4:A.length=8:=by rw[dQ,aki,hd,mZ]
         have xg:a1 A=true:=by rw[dQ]; exact ln bp (fun _=>rfl) _
         rw[<-dQ];simp[mz,kh,j4,Dn A j4];exact aJ rfl (by simp[U.closed,xg])
       ·simp[Kf]
     ·simp[PV];exact aj9 (by simp[mZ])
   ·refine⟨rfl,rfl,rfl,v,j,gY,rest,rfl,mf,vG,Xh,rfl,kh⟩
 ·simp;exact⟨0,.nil 0⟩
def p0 (k:Nat) :List B:=128#8::List.replicate k 0#8
theorem aam (k:Nat) :p0 (k+1)=p0 k++[0#8] :=by simp[p0,List.replicate_succ']
theorem Ph (k:Nat) :(p0 k).length=k+1:=by simp[p0]
set_option maxHeartbeats 8000000 in
theorem abv (n:Nat) (aD:n<=100000000) :pb Tryz.prog GS 204 [.int .i64 n] (cu (some (tail n))) :=by
 have kE:cF=140737488355328:=rfl;refine A3 Tryz.checked.mixed bx ?_;apply bf Tryz.func204 [];obtain⟨m,hm⟩:∃ m,m=(119 - n % 64) % 64:=⟨_,rfl⟩
 simp;refine cm m (fun k ae l=>ae 0=.int .i64 n/\∃ v j,ae 3=v/\cw v=false/\bJ 1 l v j ((p0 k).map b0)) ?_ ?_
 ·rintro k ae l ax ⟨cp,v,j,aZ,aq,au⟩;obtain⟨ae,rfl⟩:=o6 cp aZ;clear cp aZ;have bC:=au.len;rw[aki,Ph] at bC;obtain⟨b4,C1⟩:∃ b4,b4=k+1:=⟨_,rfl⟩
  rw[<-C1] at bC;have qF:IntKind.i64.wrap ((n:Int)+(b4:Int))=(n+b4:Nat) :=wrap_i64 (by omega) (by omega);obtain⟨q,a8⟩:∃ q,q=n+b4:=⟨_,rfl⟩
  rw[<-a8] at qF;have nC:IntKind.i64.wrap ((q:Int)+8)=(q+8:Nat) :=wrap_i64 (by omega) (by omega);obtain⟨yf,Hh⟩:∃ yf,yf=q+8:=⟨_,rfl⟩
  rw[<-Hh] at nC;have pE:=wF yf 64 (by omega);rw[show ((64:Int).toNat)=64 from rfl] at pE;obtain⟨x,ai⟩:∃ x,x=yf % 64:=⟨_,rfl⟩
  rw[<-ai] at pE;simp[bC,qF,nC,pE];by_cases N6:x=0
  ·have pA:k=m:=by omega
   subst pA;have Hq:p0 k=mC n 0:=by unfold p0 mC; rw[<-hm]; simp
   rw[Hq] at au;clear bC qF nC pE;simp[N6];refine cm 8 (fun k ae l=>ae 0=.int .i64 n/\ae 4=.int .i64 (7 - (k:Int))/\∃ v j,ae 3=v/\cw v=false/\bJ 1 l v j ((mC n k).map b0)) ?_ ?_
   ·rintro k ae l ax ⟨cp,a9,v,j,aZ,aq,au⟩;obtain⟨ae,rfl⟩:=jT cp aZ a9;clear cp aZ a9;obtain⟨c,ah⟩:∃ c:Int,c=7 - (k:Int) :=⟨_,rfl⟩
    rw[<-ah];by_cases hH:0<=c
    ·have xA:k<8:=by omega
     have pK:IntKind.i64.wrap (c - 1)=7 - ((k:Int)+1) :=by rw[wrap_i64 (by omega) (by omega)]; omega
     obtain⟨d,bh⟩:∃ d,d=8*c:=⟨_,rfl⟩
     have Hx:IntKind.i64.wrap (8*c)=d:=by rw[wrap_i64 (by omega) (by omega)]; omega
     have Gw:0<=d:=by omega
     have V6:d.toNat=56 - 8*k:=by omega
     have ai:=KQ (BitVec.ofNat 64 n*8#64) k xA;have kI:=Ez n k;obtain⟨y,aL⟩:∃ y,y=(((BitVec.ofNat 64 n*8#64) >>> (56 - 8*k)).setWidth 8) :=⟨_,rfl⟩
     rw[<-aL] at ai;have m0:bJ 1 (l++[aU.cells 1 [bz y]]) v j ((mC n k).map b0) :=au.more _;obtain⟨a4,cb,l',ad,af,al,aG,a6,bK⟩:=nf (by_:=1) m0 (x:=.ar 1 l.length 0 1 1 1) (xs:=[[bz y]]) (by simp[dd]) (by simp) (by omega) (by omega) (by simp; omega);have e1:cw a4=false:=by rw[tF bK,aq]; rfl
     have fI:bJ 1 l' a4 cb ((mC n (k+1)).map b0) :=by rw[Q7 n k y ai,aks]; exact af
     rw[BitVec.mul_comm] at aL;simp only[bz] at ad;simp[hH,Hx,Gw,V6];rw[<-aL];simp[ad];refine cM.cc ?_;simp[pK,xA];exact⟨e1,cb,fI⟩
    ·have eG:k=8:=by omega
     subst eG;simp[hH];exact au.A8 (fun _=>rfl) (some (tail n)) aq rfl
   ·simp;exact⟨aq,_,au⟩
  ·have kI:=Ph k;have m0:bJ 1 (l++[aU.cells 1 [bz 0#8]]) v j ((p0 k).map b0) :=au.more _;obtain⟨a4,cb,l',ad,af,al,aG,a6,bK⟩:=nf (by_:=1) m0 (x:=.ar 1 l.length 0 1 1 1) (xs:=[[bz 0#8]]) (by simp[dd]) (by simp) (by omega) (by omega) (by simp; omega);have e1:cw a4=false:=by rw[tF bK,aq]; rfl
   have fI:bJ 1 l' a4 cb ((p0 (k+1)).map b0) :=by rw[aam,aks]; exact af
   have pA:k<m:=by omega
   simp[bz] at ad;simp[N6,ad];refine cM.cc ?_;simp[pA];exact⟨e1,cb,fI⟩
 ·simp;exact⟨rfl,0,.ar 0 1 1 1 [.int .u8 128] _ rfl rfl rfl (by intro e ao; simp[p0] at ao; subst ao; rfl) (akb _) (akb _) rfl⟩
set_option maxHeartbeats 8000000 in
theorem abp (h:et) (b:List B) (ag:b.length<=100000000) :bn Tryz.prog GS 202 [.aH (h.l.map bp),cu (some b)] (.aH ((ha h b).1.l.map bp)) :=by
 refine bD Tryz.checked.mixed bx ?_;apply bf Tryz.func202 [];have Dn:∀ A:List U,A.length=8->A.take 8=A:=fun A dQ=>aj9 (by omega)
 have M1:∀ s:et,(s.l.map bp).length=8:=fun s=>rfl
 obtain⟨ES,zA⟩:∃ ES,ES=h.l.map bp:=⟨_,rfl⟩
 have Vb:ES.length=8:=by rw[zA]; rfl
 rw[<-zA];simp[Vb];refine cm (b.length / 64) (fun k ae l=>ae 1=cu (some b)/\ae 2=.ptr 0 0 8/\ae 4=.ptr 1 0 8/\ae 5=.int .i64 (64*k:Nat)/\∃ s gY,ha s (b.drop (64*k))=ha h b/\l=[.cells 8 (s.l.map bp),.cells 8 gY]/\gY.length=8) ?_ ?_
 ·rintro k ae l ax ⟨aN,aT,a9,bg,s,gY,ak,rfl,kh⟩;obtain⟨ae,rfl⟩:=h1 aN aT a9 bg;clear aN aT a9 bg;obtain⟨a,aC⟩:∃ a,a=64*k:=⟨_,rfl⟩
  rw[<-aC] at ak ⊢;obtain⟨a2,Gk⟩:∃ a2,a2=64*(k+1) :=⟨_,rfl⟩
  rw[<-Gk];obtain⟨A,dQ⟩:∃ A,A=s.l.map bp:=⟨_,rfl⟩
  have j4:A.length=8:=by rw[dQ]; rfl
  rw[<-dQ];have aV:IntKind.i64.wrap ((a:Int)+64)=a2:=by rw[wrap_i64 (by omega) (by omega)]; omega
  by_cases er:a2<=b.length
  ·have z1:(a2:Int)<=b.length:=by omega
   have bq:e3 (.ar 1) (cu (some b)) (some (.int .i64 (a:Int))) (some (.int .i64 (a2:Int))) none=some (cu (some ((b.drop a).take 64))) :=by
    unfold cu; rw[acs (by omega) (by omega) (by omega)];have:(a2:Int).toNat - (a:Int).toNat=64:=by omega
    rw[this,akr]
   have fu:64<=((b.drop a).take 64).length:=by simp; omega
   have hR:=U5 s _ fu;have qv:grind s ((b.drop a).take 64)=grind s (((b.drop a).take 64)) :=rfl;rw[<-dQ] at hR;have bY:ha (grind s ((b.drop a).take 64)) (b.drop a2)=ha h b:=by
    rw[<-ak,yS s (b.drop a) (by simp; omega),amA];congr 2; omega
   have dR:k<b.length / 64:=by omega
   have xg:a1 A=true:=by rw[dQ]; exact ln bp (fun _=>rfl) _
   obtain⟨ER,F3⟩:∃ ER,ER=(grind s ((b.drop a).take 64)).l.map bp:=⟨_,rfl⟩
   have Ve:ER.length=8:=by rw[F3]; rfl
   rw[<-F3] at hR;simp[aV,er,z1,j4,Dn A j4,bq];refine aY hR (by simp[a1,U.closed,xg,lo]) ?_;simp[mz,j4,Ve,aV,dR];exact⟨_,bY,gY,⟨F3,rfl⟩,kh⟩
  ·have z1:¬(a2:Int)<=b.length:=by omega
   have ao:=ak;rw[BS s (b.drop a) (by simp; omega)] at ao;rw[<-ao];have xg:a1 A=true:=by rw[dQ]; exact ln bp (fun _=>rfl) _
   simp[aV,er,z1,j4,Dn A j4,mz,kh];exact aJ (by rw[dQ]) (by rw[dQ] at xg; simp[U.closed,xg])
 ·exact⟨rfl,rfl,rfl,rfl,h,rep 8 (.int .u32 0),rfl,by rw[zA]; rfl,rfl⟩
def qX (s:et) (k:Nat) :List B:=(written s).take k++List.replicate (32 - k) 0#8
theorem aac (s:et) (k:Nat) (ax:k<=32) :(qX s k).length=32:=by
 unfold qX;have:=EP s;simp; omega
theorem aad (s:et) (k:Nat) (x:B) (ai:(written s)[k]? = some x) :(qX s k).set k x=qX s (k+1) :=by
 have ax:k<32:=(aj7.1 ai).1;unfold qX;have am:(List.take k (written s)).length=k:=by have:=EP s; simp; omega
 rw[alc _ _ (by omega),am,amj,akC,ai,show 32 - k=(32 - (k+1))+1 by omega,akW,al9];simp
theorem ad3 (s:et) (k:Nat) (ax:k<32) :∃ w,s.l[k / 4]? = some w/\(written s)[k]? = some ((w >>> (24 - 8*(k % 4))).setWidth 8) :=by
 have aF:∀ w:W,w=w >>> 0:=fun w=>by simp
 obtain⟨a,b,c,d,e,f,g,h⟩:=s;have:∀ (l:List W) (k:Nat),k<4*l.length->∃ w,l[k / 4]? = some w/\(l.map sw).flatten[k]? = some ((w >>> (24 - 8*(k % 4))).setWidth 8) :=by
  intro l
  induction l with
  | nil=>intro k ax; simp at ax
  | cons w l aQ=>
   intro k ax
   match k,ax with
   | 0,_=>exact⟨w,rfl,rfl⟩
   | 1,_=>exact⟨w,rfl,rfl⟩
   | 2,_=>exact⟨w,rfl,rfl⟩
   | 3,_=>refine⟨w,rfl,?_⟩; simp[sw]
   | k+4,ax=>
    obtain⟨y,ad,af⟩:=aQ k (by simp at ax; omega);refine⟨y,?_,?_⟩
    ·rw[show (k+4) / 4=k / 4+1 by omega]; exact ad
    ·rw[show (k+4) % 4=k % 4 by omega]; exact af
 exact this _ k (by simpa [et.l] using ax)
set_option maxHeartbeats 8000000 in
theorem abx (s:et) :bn Tryz.prog GS 201 [.aH (s.l.map bp)] (fY (written s)) :=by
 refine bD Tryz.checked.mixed bx ?_;apply bf Tryz.func201 [];obtain⟨A,dQ⟩:∃ A,A=s.l.map bp:=⟨_,rfl⟩
 have j4:A.length=8:=by rw[dQ]; rfl
 rw[<-dQ];simp[j4];refine cm 32 (fun k ae l=>ae 1=.ptr 0 0 8/\ae 2=.ptr 1 0 32/\ae 3=.ptr 2 0 32/\ae 4=.int .i64 k/\∃ gY,l=[.cells 8 A,.cells 32 gY,.cells 32 ((qX s k).map bz)]/\gY.length=32) ?_ ?_
 ·rintro k ae l ax ⟨aN,aT,aZ,a9,gY,rfl,kh⟩;obtain⟨ae,rfl⟩:=h1 aN aT aZ a9;clear aN aT aZ a9;by_cases GU:(k:Int)<32
  ·have dR:k<32:=by omega
   have eT:IntKind.i64.wrap ((k:Int)+1)=(k+1:Nat) :=wrap_i64 (by omega) (by omega);have Hi:=Fq k 4 (by omega) (by omega);have pE:=wF k 4 (by omega);rw[show ((4:Int).toNat)=4 from rfl] at Hi pE;obtain⟨w,aV,ai⟩:=ad3 s k dR;obtain⟨q,a8⟩:∃ q,q=k / 4:=⟨_,rfl⟩
   obtain⟨r,ay⟩:∃ r,r=k % 4:=⟨_,rfl⟩
   rw[<-a8] at Hi aV;rw[<-ay] at pE ai;have Hh:q<8:=by omega
   obtain⟨A4,NK⟩:∃ A4,A4=8*r:=⟨_,rfl⟩
   have Hx:IntKind.i64.wrap (8*(r:Int))=A4:=by rw[wrap_i64 (by omega) (by omega)]; omega
   obtain⟨Ed,XH⟩:∃ Ed,Ed=24 - A4:=⟨_,rfl⟩
   have X8:IntKind.i64.wrap (24 - (A4:Int))=Ed:=by rw[wrap_i64 (by omega) (by omega)]; omega
   have kf:=aad s k _ ai;rw[<-NK,<-XH] at ai kf;have dF:=aac s k (by omega);have m1:=nP bz (qX s k) k ((w >>> Ed).setWidth 8) (by rw[dF]; exact dR);rw[kf] at m1;obtain⟨O,en⟩:∃ O,O=(qX s k).map bz:=⟨_,rfl⟩
   have nu:O.length=32:=by rw[en,aki,dF]
   rw[<-en] at m1 ⊢;have Vf:A[q]? = some (bp w) :=by rw[dQ,akd,aV]; rfl
   obtain⟨Vd,Vg⟩:=aj7.1 Vf;have XC:q<=7:=by omega
   have WM:k<=31:=by omega
   have XD:(q:Int)<8:=by omega
   simp[GU,dR,eT,Hi,pE,Hx,X8,j4,Hh,Vg,nu,m1,kh,XC,WM,XD]
  ·have eG:k=32:=by omega
   subst eG;have au:qX s 32=written s:=by unfold qX; rw[aj9 (by rw[EP]; omega)]; simp
   rw[au];obtain⟨O,en⟩:∃ O,O=(written s).map bz:=⟨_,rfl⟩
   have nu:O.length=32:=by rw[en,aki,EP]
   have Vt:a1 O=true:=by rw[en]; exact ln bz (fun _=>rfl) _
   have a3:O.take 32=O:=aj9 (by omega);unfold fY;rw[<-en];simp[nu,a3,mz,kh];exact aJ rfl (by simp[U.closed,Vt])
 ·refine⟨rfl,rfl,rfl,rfl,_,rfl,rfl⟩
set_option maxHeartbeats 8000000 in
theorem Qb (s:eN) (ak:s.l.length<=1000000) :bn Tryz.prog GS 171 [cu s] (fY (ib s.l)) :=by
 have kE:cF=140737488355328:=rfl;refine bD Tryz.checked.mixed bx ?_;apply bf Tryz.func171 [];simp;refine aY UG rfl ?_;have ZY:bJ 1 ([aU.cells 32 (rep 32 (U.int IntKind.u8 0))]++[aU.cells 0 []]) (.ar 1 1 0 0 0 0) 1 [] :=.ar 1 0 0 0 [] _ rfl rfl rfl (by simp) (akb _) (akb _) rfl;obtain⟨v,j,r,ad,af,al,aG⟩:=u5 (by_:=1) ZY (.inr (akb _)) (x:=cu s) (xs:=s.l.map b0) (by unfold cu; rw[s1,aki]) (by intro e ao; obtain⟨x,_,rfl⟩:=akz.1 ao; rfl) (by omega) (by omega) (by rw[kE]; simp; omega);have aq:cw v=false:=by rw[aG]; rfl
 simp only[ald,List.singleton_append] at ad af;have bC:ch (.ar 1) (cu s)=some (.int .i64 s.l.length) :=qS _;have kI:=abv s.l.length (by omega);have agD:(tail s.l.length).length<=80:=by rw[<-Ju]; exact Ez _ _
 obtain⟨a4,cb,dT,b4,cx,eB,gU⟩:=u5 (by_:=1) (pre:=[aU.cells 32 (rep 32 (U.int IntKind.u8 0))]) af al (x:=cu (some (tail s.l.length))) (xs:=(tail s.l.length).map b0) (by unfold cu; rw[s1,aki]; rfl) (by intro e ao; obtain⟨x,_,rfl⟩:=akz.1 ao; rfl) (by omega) (by omega) (by rw[kE]; simp; omega);have e1:cw a4=false:=by rw[gU,aq]; rfl
 rw[<-aks] at cx;simp only[List.singleton_append] at b4 cx;have kF:=cx.ug (fun _=>rfl) (some (s.l++tail s.l.length)) e1 rfl;have fu:=abp first (s.l++tail s.l.length) (by simp; omega)
 have kM:=abx (ha first (s.l++tail s.l.length)).1;have nz:ib s.l=written (ha first (s.l++tail s.l.length)).1:=rfl;rw[<-nz] at kM;obtain⟨F,vv⟩:∃ F,F=(ha first (s.l++tail s.l.length)).1:=⟨_,rfl⟩
 rw[<-vv] at fu kM;simp[ad];refine cM.cc ?_;simp[bC];refine aY kI.EB rfl ?_;simp[b4];refine cM.cc ?_;simp;refine kQ fu (.cons (.same _ ?_) (.cons kF .nil)) (LI bp (fun _=>rfl) _) ?_
 ·simp[U.closed,ln bp (fun _=>rfl)]
 simp;refine aY kM ?_ ?_
 ·simp[a1,U.closed,ln bp (fun _=>rfl)]
 have bq:=us s.l;simp[fY,bq,mz,aj9];exact aJ rfl (by simp[U.closed,ln bz (fun _=>rfl)])
end hN

end Go.ca

namespace Go.ca
open Go Go.Proofs Go.RowKit
set_option maxRecDepth 100000
open hN
theorem Rj {e:TypeId} (aM:Tryz.prog.underlying e=some (.int .u8)) :∀ (n:Nat) {ts:List TypeId} {cs:List U},dt Tryz.prog (List.replicate n e++ts) cs->∃ (x:List B) (cs' : List U),cs=x.map bz++cs'/\x.length=n/\dt Tryz.prog ts cs'
 | 0,ts,cs,h=>⟨[],cs,rfl,rfl,h⟩
 | n+1,ts,cs,h=>by
  obtain⟨k,wV,rfl,ad,af,al⟩:=uw aM h;obtain⟨x,h4,rfl,ai,aG⟩:=Rj aM n al;have a6:(0:Int)<=k:=ad;have bK:k<=255:=af;refine⟨BitVec.ofNat 8 k.toNat::x,h4,?_,by simp[ai],aG⟩;have:((BitVec.ofNat 8 k.toNat).toNat:Int)=k:=by
   rw[aky,akn (by omega)]; omega
  simp[bz,u]; omega
theorem Rl {ts:List TypeId} {cs:List U} (h:dt Tryz.prog (86::ts) cs) :∃ (x:BitVec 64) (cs' : List U),cs=dI x::cs'/\dt Tryz.prog ts cs':=by
 obtain⟨k,wV,rfl,ad,af,al⟩:=uw (k:=.u64) (by kernel_rfl) h;have a6:(0:Int)<=k:=ad;have bK:k<=18446744073709551615:=af;refine⟨BitVec.ofNat 64 k.toNat,wV,?_,al⟩;have:((BitVec.ofNat 64 k.toNat).toNat:Int)=k:=by
  rw[aky,akn (by omega)]; omega
 simp[dI,u]; omega
def HZ:List Int:=hN.b7.map fun k=>(k.toNat:Int)
theorem acW:yr=HZ.map fun k=>.int .u32 k:=by unfold yr HZ; rw[alN]; rfl
theorem YX {W:World} (h:laidMetH Tryz.prog [("braid/digest.constants",Go.Proofs.YtidejmkknleijaaGreatDoor.Rows.laid_braid_digest_constants)] W) :∀ g,fA W (fun _=>True) (GS g) (.pointer (some ⟨g,0,none⟩)) :=by
 intro g;unfold GS;split
 ·rename_i ag;have:=alh ag;subst this;rw[MakeChecks.laidMetH_plain _ _ _ (by kernel_rfl)] at h;obtain⟨ps,⟨cp,t0,s2,f0,i3,cy,Wp,Hq,mf,Gw,_,_⟩,_,_⟩:=h;have aS:Tryz.prog.globalNamed "braid/digest.constants"=some 1:=by kernel_rfl
  have bv:(Tryz.prog.globals[1]?).map (·.type)=some 264:=by kernel_rfl
  obtain rfl:=Option.some.inj (aS.symm.trans Wp);obtain rfl:=Option.some.inj (bv.symm.trans Hq);rw[acW];exact UY HZ aS mf (n:=64) (e:=85) (by kernel_rfl) (by kernel_rfl) (by kernel_rfl) Gw (by rfl)
 ·exact .bad _
end Go.ca

namespace Go.ca
open Go Go.Proofs
set_option maxRecDepth 100000
open hN
def KA:U->Option B
 | .int .u8 (.ofNat n)=>match Nat.ble n 255 with | true=>some (BitVec.ofNat 8 n) | false=>none
 | _=>none
def KN:List U->Option (List B)
 | []=>some []
 | c::r=>match KA c with
  | some b=>match KN r with | some l=>some (b::l) | none=>none
  | none=>none
def lF:U->Option (List B)
 | .aH cs=>match KN cs with | some l=>(match Nat.beq l.length 32 with | true=>some l | false=>none) | none=>none
 | _=>none
def Qo:List (List U)->Option (List B)
 | []=>some []
 | [c] ::r=>match KA c with
  | some b=>match Qo r with | some l=>some (b::l) | none=>none
  | none=>none
 | _=>none
def S8:U->Option eN
 | .aK=>some none
 | .b1 1 es=>match Qo es with | some l=>some (some l) | none=>none
 | _=>none
def acN:List U->Option U
 | [c]=>match S8 c with
  | some s=>match Nat.ble s.l.length 10000 with | true=>some (.bu [fY (ib s.l),.int .i64 0]) | false=>none
  | none=>none
 | _=>none
abbrev lL:FuncId × Bool × (List U->Option U) :=(85,false,acN)
end Go.ca

namespace Go.ca
open Go Go.Proofs Go.Sort Go.Shelf
set_option maxRecDepth 100000
open hN
def b6:List B->List B->Int
 | [],[]=>0
 | [],_::_=>-1
 | _::_,[]=>1
 | a::lc,b::mr=>if a.toNat<b.toNat then -1 else if b.toNat<a.toNat then 1 else b6 lc mr
theorem K6 (a b:B) (lc mr:List B) :b6 (a::lc) (b::mr)=if a.toNat<b.toNat then -1 else if b.toNat<a.toNat then 1 else b6 lc mr:=rfl
theorem pf:∀ a:List B,b6 a a=0
 | []=>rfl
 | a::lc=>by unfold b6; simp; exact pf lc
theorem wR:∀ {a b:List B},b6 a b=0->a=b
 | [],[],_=>rfl
 | [],_::_,h=>by simp[b6] at h
 | _::_,[],h=>by simp[b6] at h
 | a::lc,b::mr,h=>by
  unfold b6 at h;split at h
  ·cases h
  ·split at h
   ·cases h
   ·have ad:a=b:=akk (by omega);rw[ad,wR h]
theorem y4:∀ a b:List B,b6 b a=- b6 a b
 | [],[]=>rfl
 | [],_::_=>rfl
 | _::_,[]=>rfl
 | a::lc,b::mr=>by
  unfold b6;by_cases ad:a.toNat<b.toNat
  ·simp[ad,show ¬ b.toNat<a.toNat by omega]
  ·by_cases af:b.toNat<a.toNat
   ·simp[ad,af]
   ·simp[ad,af]; exact y4 lc mr
theorem K5:∀ a b:List B,b6 a b=-1\/b6 a b=0\/b6 a b=1
 | [],[]=>by simp[b6]
 | [],_::_=>by simp[b6]
 | _::_,[]=>by simp[b6]
 | a::lc,b::mr=>by
  unfold b6;split
  ·simp
  ·split
   ·simp
   ·exact K5 lc mr
theorem wS:∀ a b c:List B,b6 a b<0->b6 b c<0->b6 a c<0
 | [],[],_,h,_=>by simp[b6] at h
 | [],_::_,[],_,h=>by simp[b6] at h
 | [],_::_,_::_,_,_=>by simp[b6]
 | _::_,[],_,h,_=>by simp[b6] at h
 | _::_,_::_,[],_,h=>by simp[b6] at h
 | a::lc,b::mr,c::abj,ad,af=>by
  unfold b6 at ad af ⊢;have aQ:=wS lc mr abj
  repeat' split at ad
  all_goals repeat' split at af
  all_goals repeat' split
  all_goals first | omega | (exact aQ ad af) | (exfalso; omega) | skip
def hy (a b:List B) :Bool:=ltOf b6 a b
theorem mn (a b:List B) :hy a b=true<->b6 a b<0:=by unfold hy ltOf; simp
theorem TE {a b:List B} (k:Nat) (h:∀ j,j<k->a[j]? = b[j]?) (aC:k<=a.length) (ag:k<=b.length) :b6 (a.drop k) (b.drop k)=b6 a b:=by
 induction k with
 | zero=>simp
 | succ k aQ=>
  rw[<-aQ (fun j aj=>h j (by omega)) (by omega) (by omega)];have ad:=h k (by omega);rw[ale (l:=a) (i:=k) (by omega),ale (l:=b) (i:=k) (by omega)];rw[aka (by omega),aka (by omega)] at ad;have af:=Option.some.inj ad
  conv=>rhs; unfold b6
  rw[af];simp
end Go.ca

namespace Go.ca
open Go Go.Proofs
set_option maxRecDepth 100000
namespace Op
open hN
abbrev Q:=BitVec 64
abbrev D:=BitVec 32
theorem JD:(u (1#64) :Int)=1:=rfl
def ej (x:D) :List U:=[bp x]
def pU (l:List D) :Q:=l.foldl (fun o x=>o*x.setWidth 64 % 1000000007#64) 1#64
theorem ZC (l:List D) (k:Nat) (x:D) (h:l[k]? = some x) :pU (l.take (k+1))=pU (l.take k)*x.setWidth 64 % 1000000007#64:=by
 rw[akC,h]; simp[pU,amB]
theorem Ei (x:Q) :cj .rem .u64 (u x) .u64 1000000007=some (.int .u64 (u (x % 1000000007#64))) :=wG x 1000000007#64 (by decide)
theorem Ij (l:List D) (am:l.length<=1000) :bn Tryz.prog GS 157 [.int .u64 1000000007,ct 1 ej (some l)] (bp ((pU l).setWidth 32)) :=by
 refine bD Tryz.checked.mixed bx ?_;apply bf Tryz.func157 [];have bC:ch (.ar 1) (ct 1 ej (some l))=some (.int .i64 l.length) :=qS _;simp[bC];refine cm l.length (fun k ae _=>ae 0=.int .u64 1000000007/\ae 5=dI (pU (l.take k))/\ae 8=ct 1 ej (some l)/\ae 9=.int .i64 l.length/\ae 10=.int .i64 k) ?_ (by simp[pU]; rfl);rintro k ae h ax ⟨cp,bg,fB,gR,iq⟩;obtain⟨ae,rfl⟩:=kq cp bg fB gR iq;clear cp bg fB gR iq;by_cases h:k<l.length
 ·obtain⟨x,ai,_⟩:=bF h;have bU:cN (.ar 1) (ct 1 ej (some l)) (.int .i64 k)=some (.cg (ej x) 0) :=by rw[r1]; simp[ai]
  have eT:IntKind.i64.wrap ((k:Int)+1)=(k+1:Nat) :=wrap_i64 (by omega) (by omega);have ak:=ZC l k x ai;simp[h,bU,ej,eT,Ei];rw[<-ak]
 ·have eG:k=l.length:=by omega
  subst eG;simp;exact aJ rfl rfl
def fi (a n:Nat) :Nat:=a ^ n % 1000000007
theorem wg (a n:Nat) :fi a n<1000000007:=amc _ (by decide)
theorem Pv (a n:Nat) :fi a n*fi a n % 1000000007=fi a (2*n) :=by
 unfold fi; rw[<-amE,<-al0]; congr 2; omega
theorem Pt (a n:Nat) :fi a n*a % 1000000007=fi a (n+1) :=by
 unfold fi; rw[Nat.mod_mul_mod,Nat.pow_succ]
def gP (a:D) (n:Nat) :D:=BitVec.ofNat 32 (fi a.toNat n)
theorem q0 (a:D) (n:Nat) :(gP a n).toNat=fi a.toNat n:=by
 have:=wg a.toNat n;unfold gP; rw[aky]; exact akn (by omega)
theorem Ii (x y:D) (ai:x.toNat<1000000007) :(pU [x,y]).setWidth 32=BitVec.ofNat 32 (x.toNat*y.toNat % 1000000007) :=by
 apply akk;have aL:=y.isLt;have ad:x.toNat*y.toNat<1000000007*4294967296:=by
  calc x.toNat*y.toNat<=1000000007*y.toNat:=akc _ (by omega)
   _<1000000007*4294967296:=Nat.mul_lt_mul_of_pos_left (by simpa using aL) (by decide)
 have af:(1#64*x.setWidth 64 % 1000000007#64).toNat=x.toNat:=by
  rw[BitVec.one_mul,ak9,akq];rw[akn (show x.toNat<2 ^ 64 by omega),show (1000000007#64).toNat=1000000007 from rfl,akn ai]
 simp only[pU,ang,List.foldl_nil,akq,ak9,al3,af,aky];rw[akn (show y.toNat<2 ^ 64 by omega),akn (show x.toNat*y.toNat<2 ^ 64 by omega),akn (show 1000000007<2 ^ 64 by decide)]
theorem ZD (a:D) (n:Nat) :(pU [gP a n,gP a n]).setWidth 32=gP a (2*n) :=by
 rw[Ii _ _ (by rw[q0]; exact wg _ _),q0,Pv]; rfl
theorem mul_one (a:D) (n:Nat) :(pU [gP a n,a]).setWidth 32=gP a (n+1) :=by
 rw[Ii _ _ (by rw[q0]; exact wg _ _),q0,Pt]; rfl
theorem A7 {l:ap} {b:Nat} {x y:D} (h:l[b]? = some (.cells 2 [bp x,bp y])) :fR (bM l) (.ar 1 b 0 2 2 2) (ct 1 ej (some [x,y])) :=by
 refine Ef (rest:=[]) (es:=[[bp x],[bp y]]) (by simpa using h) rfl (by simp) (by simp[a1,U.closed])
theorem UN:j2 Tryz.prog 186=true:=by kernel_rfl
theorem acD {x:D} {l:ap} {K:U->ap->Prop} (bj:∀ v rest,K v (.cells 1 [bp ((pU [x,x]).setWidth 32)] ::rest)) :dg Tryz.prog GS 186 [.ptr 0 0 1] (.cells 1 [bp x] ::l) (c:=⟨K⟩) :=by
 apply bf Tryz.func186 [];simp;refine kQ (Ij [x,x] (by simp)) (.cons (.same _ rfl) (.cons (A7 (by simp)) .nil)) rfl ?_;simp;exact bj _ _
theorem Mz (n k:Nat) (ax:k<64) :n / 2 ^ (63 - k)=2*(n / 2 ^ (64 - k))+n / 2 ^ (63 - k) % 2:=by
 have:2 ^ (64 - k)=2 ^ (63 - k)*2:=by rw[<-Nat.pow_succ]; congr 1; omega
 rw[this,<-Nat.div_div_eq_div_mul]; omega
theorem ID (a:D) (n:Q) :bn Tryz.prog GS 151 [bp a,dI n] (bp (gP a n.toNat)) :=by
 refine bD Tryz.checked.mixed bx ?_;apply bf Tryz.func151 [];simp;refine cm 64 (fun k ae l=>ae 0=bp a/\ae 1=dI n/\ae 5=.ptr 0 0 1/\ae 6=.fn 186 [] [.ptr 0 0 1]/\ae 9=.int .i64 k/\∃ r,l=.cells 1 [bp (gP a (n.toNat / 2 ^ (64 - k)))] ::r) ?_ (by
  have:n.toNat / 2 ^ 64=0:=alq n.isLt;simp[this,gP,fi]; rfl)
 rintro k ae l ax ⟨cp,aN,bg,cq,gR,r,rfl⟩;obtain⟨ae,rfl⟩:=kq cp aN bg cq gR;clear cp aN bg cq gR;by_cases h:(k:Int)<64
 ·have eT:IntKind.i64.wrap ((k:Int)+1)=(k+1:Nat) :=wrap_i64 (by omega) (by omega);have vY:IntKind.i64.wrap (63 - (k:Int))=((63 - k:Nat) :Int) :=by rw[wrap_i64 (by omega) (by omega)]; omega
  have ag:=Mz n.toNat k (by omega);have nz:cj .shr .u64 (u n) .i64 ((63 - k:Nat) :Int)=some (.int .u64 (u (n >>> (63 - k)))) :=sO n .i64 (63 - k);have U9:64 - (k+1)=63 - k:=by omega
  simp[h,eT];refine⟨UN,?_⟩;simp;refine acD fun v rest=>?_
  simp[vY,nz,ZD];rw[U9];by_cases au:n.toNat / 2 ^ (63 - k) % 2=1
  ·have Gr:n >>> (63 - k) &&& 1#64=1#64:=by
    apply akk;rw[amI,akJ,akw];show _ &&& 1=1;rw[Nat.and_one_is_mod,au]
   rw[au] at ag;have a8:gP a (2*(n.toNat / 2 ^ (64 - k))+1)=gP a (n.toNat / 2 ^ (63 - k)) :=by rw[<-ag]
   simp[Gr,JD];refine kQ (Ij [gP a (2*(n.toNat / 2 ^ (64 - k))),a] (by simp)) (.cons (.same _ rfl) (.cons (A7 (by simp)) .nil)) rfl ?_;rw[mul_one,a8];simp[eT];omega
  ·have au:n.toNat / 2 ^ (63 - k) % 2=0:=by omega
   have Gr:n >>> (63 - k) &&& 1#64=0#64:=by
    apply akk;rw[amI,akJ,akw];show _ &&& 1=0;rw[Nat.and_one_is_mod,au]
   rw[au,amw] at ag;simp[Gr,eT];rw[<-ag];exact⟨by omega,rfl⟩
 ·have eG:k=64:=by omega
  subst eG;simp;exact aJ rfl rfl
theorem IJ (a b:Q) (ag:b≠0#64) :cj .quo .u64 (u a) .u64 (u b)=some (.int .u64 (u (a / b))) :=by
 have bN:(b.toNat:Int)≠0:=fun e=>ag (akk (by simpa using e))
 show (if IntKind.u64=IntKind.u64/\(b.toNat:Int)≠0 then some (U.int .u64 (IntKind.u64.wrap ((a.toNat:Int).tdiv b.toNat))) else none)=_;rw[if_pos ⟨rfl,bN⟩,ws];congr 2;have:((a.toNat:Int).tdiv b.toNat)=((a.toNat / b.toNat:Nat) :Int) :=rfl;rw[this,ak8];congr 1;apply akk;rw[aky,alC];exact akn (Nat.lt_of_le_of_lt (anh _ _) a.isLt)
theorem PO (x:Q) :cj .quo .u64 (u x) .u64 2=some (.int .u64 (u (x / 2#64))) :=IJ x 2#64 (by decide)
theorem Qd (x:Q) :cj .rem .u64 (u x) .u64 2=some (.int .u64 (u (x % 2#64))) :=wG x 2#64 (by decide)
theorem x3 (x y:Q) (ai:x.toNat<4294967296) (aL:y.toNat<4294967296) :(x*y % 1000000007#64).toNat=x.toNat*y.toNat % 1000000007:=by
 have ad:x.toNat*y.toNat<18446744073709551616:=by
  calc x.toNat*y.toNat<=4294967295*y.toNat:=akc _ (by omega)
   _<=4294967295*4294967295:=Nat.mul_le_mul_left _ (by omega)
   _<18446744073709551616:=by decide
 rw[ak9,al3,akn (show x.toNat*y.toNat<2 ^ 64 by omega)]; rfl
theorem aaE (o b m:Nat) (h:m % 2=1) :o*b % 1000000007*(b*b % 1000000007) ^ (m / 2) % 1000000007=o*b ^ m % 1000000007:=by
 have hm:m=2*(m / 2)+1:=by omega
 rw[amE,Nat.mod_mod,amS (b*b % 1000000007),Nat.mod_mod,<-amS,<-amE];congr 1;rw[Nat.mul_pow,Nat.mul_assoc,<-al0]
 conv=>rhs; rw[hm,Nat.pow_succ]
 rw[am7 b,show 2*(m / 2)=m / 2+m / 2 by omega]
theorem aaD (o b m:Nat) (h:m % 2=0) :o*(b*b % 1000000007) ^ (m / 2) % 1000000007=o*b ^ m % 1000000007:=by
 have hm:m=2*(m / 2) :=by omega
 rw[amE,amS (b*b % 1000000007),Nat.mod_mod,<-amS,<-amE];congr 1;rw[Nat.mul_pow,<-al0]
 conv=>rhs; rw[hm]
 rw[show 2*(m / 2)=m / 2+m / 2 by omega]
theorem Pw (a n:Q) (aC:a.toNat<4294967296) :bn Tryz.prog GS 216 [dI a,dI n,.int .u64 1000000007] (dI (BitVec.ofNat 64 (fi a.toNat n.toNat))) :=by
 refine bD Tryz.checked.mixed bx ?_;apply bf Tryz.func216 [];simp;refine AI (fun m ae _=>∃ o b c:Q,c.toNat=m/\o.toNat<1000000007/\b.toNat<4294967296/\o.toNat*b.toNat ^ m % 1000000007=fi a.toNat n.toNat/\ae 0=dI b/\ae 1=dI c/\ae 2=.int .u64 1000000007/\ae 7=dI o) ?_ n.toNat _ _ ⟨1#64,a,n,rfl,by decide,aC,by simp[fi],by simp; rfl⟩;rintro m ae l ⟨o,b,c,ah,au,ag,av,cp,aN,aT,ez⟩;obtain⟨ae,rfl⟩:=h1 cp aN aT ez;clear cp aN aT ez;have pD:(u c:Int)=(m:Int) :=by unfold u; rw[ah]
 by_cases hm:m=0
 ·subst hm;have aF:c=0#64:=akk (by simpa using ah);simp[aF];refine aJ ?_ rfl;rw[Nat.pow_zero,alM,akn au] at av;rw[<-av,amY,BitVec.setWidth_eq]
 ·have CJ:c≠0#64:=fun e=>hm (by rw[<-ah,e]; rfl)
  have aO:(0:Int)<u c:=by rw[pD]; omega
  have M2:(c / 2#64).toNat=m / 2:=by rw[alC,ah]; rfl
  have No:(c % 2#64).toNat=m % 2:=by rw[ak9,ah]; rfl
  have bX:(b*b % 1000000007#64).toNat<4294967296:=by
   rw[x3 b b ag ag]; have:=amc (b.toNat*b.toNat) (show 1000000007 > 0 by decide); omega
  by_cases Nz:m % 2=1
  ·have ad:c % 2#64=1#64:=akk (by rw[No,Nz]; rfl);simp[aO,Ei,PO,Qd,ad,JD];have eY:o.toNat<4294967296:=by omega
   refine⟨m / 2,by omega,_,_,_,M2,?_,bX,?_,rfl,rfl,rfl⟩
   ·rw[x3 o b eY ag]; exact amc _ (by decide)
   ·rw[x3 o b eY ag,x3 b b ag ag,aaE _ _ _ Nz,av]
  ·have ad:c % 2#64=0#64:=akk (by rw[No]; simp; omega);simp[aO,Ei,PO,Qd,ad,JD];refine⟨m / 2,by omega,_,_,_,M2,au,bX,?_,rfl,rfl,rfl⟩;rw[x3 b b ag ag,aaD _ _ _ (by omega),av]
def fL (a:D) :Bool:=decide (0<a.toNat)&&decide (a.toNat<1000000007)&&decide (fi a.toNat 500000003=1)
theorem HR (a:D) :bn Tryz.prog GS 136 [bp a] (.bool (fL a)) :=by
 refine bD Tryz.checked.mixed bx ?_;apply bf Tryz.func136 [];unfold fL;have ad:((0:Int)<u a)<->0<a.toNat:=by unfold u; omega
 have af:(u a<(1000000007:Int))<->a.toNat<1000000007:=by unfold u; omega
 by_cases aN:0<a.toNat
 ·by_cases aT:a.toNat<1000000007
  ·simp[ad,af,aN,aT];refine aY (ID a 500000003#64) rfl ?_;have al:(u (gP a 500000003)=(1:Int))<->fi a.toNat 500000003=1:=by unfold u; rw[q0]; omega
   have aG:(500000003#64:Q).toNat=500000003:=rfl;rw[aG];simp[al];exact aJ (by simp[aN,aT]) rfl
  ·simp[ad,af,aN,aT];exact aJ rfl rfl
 ·simp[ad,aN];exact aJ rfl rfl
theorem Qa (a:D) :bn Tryz.prog GS 196 [bp a] (.bool (fL a)) :=by
 refine bD Tryz.checked.mixed bx ?_;apply bf Tryz.func196 [];unfold fL;have ad:((1:Int)<=u a)<->0<a.toNat:=by unfold u; omega
 have af:(u a<(1000000007:Int))<->a.toNat<1000000007:=by unfold u; omega
 by_cases aN:0<a.toNat
 ·by_cases aT:a.toNat<1000000007
  ·simp[ad,af,aN,aT];refine aY (Pw (a.setWidth 64) 500000003#64 (by rw[akq]; omega)) rfl ?_;have a6:(a.setWidth 64:Q).toNat=a.toNat:=by rw[akq]; omega
   have aG:(500000003#64:Q).toNat=500000003:=rfl;have bK:=wg a.toNat 500000003;have al:(u (BitVec.ofNat 64 (fi a.toNat 500000003))=(1:Int))<->fi a.toNat 500000003=1:=by unfold u; rw[aky,akn (by omega)]; omega
   rw[aG,a6];simp[al];exact aJ (by simp[aN,aT]) rfl
  ·simp[ad,af,aN,aT];exact aJ rfl rfl
 ·simp[ad,aN];exact aJ rfl rfl
def iN (a:D) :Bool:=decide (a.toNat<500000003)
theorem Ca (a:D) :bn Tryz.prog GS 198 [bp a] (.bool (iN a)) :=by
 refine bD Tryz.checked.mixed bx ?_;apply bf Tryz.func198 [];unfold iN;have af:(u (a.setWidth 64)<(500000003:Int))<->a.toNat<500000003:=by unfold u; rw[akq]; omega
 simp[af];exact aJ rfl rfl
@[simp] theorem aeR (a b:List UInt8) :sM .eql a b=some (.bool (decide (a=b))) :=by
 by_cases h:a=b<;>simp[sM,h]
@[simp] theorem aeS (a b:List UInt8) :sM .neq a b=some (.bool (!decide (a=b))) :=by
 by_cases h:a=b<;>simp[sM,h]
abbrev mP (s:List UInt8) (pos:Nat) :Nat × Nat:=Utf8.decode ⟨s.toArray⟩ pos
theorem L6 (s:List UInt8) (pos:Nat) (b:UInt8) (h:s[pos]? = some b) :(ByteArray.get! ⟨s.toArray⟩ pos)=b:=by
 show (s.toArray)[pos]! = b;obtain⟨ad,af⟩:=aj7.1 h;simp[ad,af]
theorem TU {s:List UInt8} {pos:Nat} {b:UInt8} (h:s[pos]? = some b) (ag:b.toNat<128) :mP s pos=(b.toNat,1) :=by
 unfold mP;rw[Lib.decode_at,L6 s pos b h];unfold Lib.decodeN;rw[if_pos ag]
theorem TT {s:List UInt8} {pos:Nat} {b:UInt8} (h:s[pos]? = some b) (ag:128<=b.toNat) :128<=(mP s pos).1:=by
 unfold mP;rw[Lib.decode_at,L6 s pos b h];unfold Lib.decodeN;rw[if_neg (by omega)]
 repeat' split
 all_goals (simp only; omega)
theorem Lk (s:List UInt8) (pos:Nat) :1<=(mP s pos).2:=by
 unfold mP;rw[Lib.decode_at];unfold Lib.decodeN
 repeat' split
 all_goals simp only<;>omega
def kj (p:Nat->Bool) (s:List UInt8) :Nat->Nat->Int
 | 0,_=>-1
 | n+1,pos=>if pos<s.length then (if p (mP s pos).1 then (pos:Int) else kj p s n (pos+(mP s pos).2)) else -1
theorem HW (p:Nat->Bool) (s:List UInt8) :∀ (n pos:Nat),s.length - pos<=n->kj p s n pos=kj p s (s.length - pos) pos
 | 0,pos,h=>by rw[show s.length - pos=0 by omega]
 | n+1,pos,h=>by
  by_cases av:pos<s.length
  ·have aV:=Lk s pos;rw[show s.length - pos=(s.length - pos - 1)+1 by omega];unfold kj;rw[if_pos av,if_pos av,HW p s n _ (by omega),HW p s (s.length - pos - 1) _ (by omega)]
  ·rw[show s.length - pos=0 by omega];unfold kj;rw[if_neg av]
def lU (cE r:Nat) :Bool:=decide (r<cE)||decide (126<r)
def g5 (cE:Nat) (b:UInt8) :Bool:=decide (cE<=b.toNat)&&decide (b.toNat<=126)
theorem HV (cE:Nat) (cA:cE<=128) (s:List UInt8) :∀ (n pos:Nat),s.length - pos<=n->(kj (lU cE) s n pos<0<->(s.drop pos).all (g5 cE)=true)
 | 0,pos,h=>by
  rw[ak3 (by omega)];simp[kj]
 | n+1,pos,h=>by
  unfold kj;by_cases av:pos<s.length
  ·rw[if_pos av,ale av,anl];have fh:s[pos]? = some s[pos] :=aka av;obtain⟨b,ag⟩:∃ b,b=s[pos] :=⟨_,rfl⟩
   rw[<-ag] at fh ⊢;by_cases ak:b.toNat<128
   ·rw[TU fh ak];simp only;have c0:g5 cE b=!lU cE b.toNat:=by
     unfold g5 lU;by_cases ad:b.toNat<cE<;>by_cases af:126<b.toNat<;>simp[ad,af]<;>omega
    cases hu:lU cE b.toNat with
    | true=>rw[c0,hu]; simp
    | false=>
     rw[c0,hu];simp only[ala,if_false,amR,alx];exact HV cE cA s n (pos+1) (by omega)
   ·have aA:=TT fh (by omega);have hu:lU cE (mP s pos).1=true:=by unfold lU; simp; omega
    have c0:g5 cE b=false:=by unfold g5; simp; omega
    rw[hu,c0]; simp
  ·rw[if_neg av,ak3 (by omega)];simp
theorem ZJ {s:List UInt8} {pos:Nat} {r:ap} (h:pos<s.length) :tT (.iter s pos::r) (.it 0)=some (.bu [.bool true,.int .i64 pos,.int .i32 (mP s pos).1],.iter s (pos+(mP s pos).2) ::r) :=by
 unfold tT;simp only[akA];rw[show Nat.blt pos s.length=true from Nat.ble_eq_true_of_le h];rfl
theorem ZI {s:List UInt8} {pos:Nat} {r:ap} (h:¬ pos<s.length) :tT (.iter s pos::r) (.it 0)=some (.bu [.bool false],.iter s pos::r) :=by
 unfold tT;simp only[akA];rw[show Nat.blt pos s.length=false by cases ag:Nat.blt pos s.length with | false=>rfl | true=>exact absurd (alU ag) h]
theorem Yl {g:FuncId} {p:Nat->Bool} (aA:j2 Tryz.prog g=true) (av:∀ r:Nat,bn Tryz.prog GS g [.int .i32 r] (.bool (p r))) (s:List UInt8) :
  bn Tryz.prog GS 228 [.str s,.fn g [] [],.bool true] (.int .i64 (kj p s s.length 0)) :=by
 refine bD Tryz.checked.mixed bx ?_;apply bf Tryz.func228 [];simp[A6];refine AI (fun m ae l=>∃ pos,s.length - pos=m/\kj p s m pos=kj p s s.length 0/\ae 1=.fn g [] []/\ae 2=.bool true/\ae 10=.it 0/\l=[.iter s pos]) ?_ s.length _ _ ⟨0,by simp⟩;rintro m ae l ⟨pos,hm,aB,aN,aT,iq,rfl⟩;obtain⟨ae,rfl⟩:=jT aN aT iq;clear aN aT iq;by_cases h:pos<s.length
 ·have hh:m=(m - 1)+1:=by omega
  have aV:=Lk s pos;obtain⟨R,je⟩:∃ R,R=kj p s s.length 0:=⟨_,rfl⟩
  rw[<-je] at aB ⊢;rw[hh] at aB;unfold kj at aB;rw[if_pos h] at aB;simp[ZJ h];refine⟨aA,aY (av _) rfl ?_⟩;cases ag:p (mP s pos).1 with
  | true=>
   rw[ag] at aB;simp;exact aJ (by rw[<-aB]; simp) rfl
  | false=>
   rw[ag] at aB;simp;refine⟨s.length - (pos+(mP s pos).2),by omega,pos+(mP s pos).2,rfl,?_,by simp,by simp,by simp,by simp⟩;rw[<-aB];simp only[ala,if_false];rw[HW p s (m - 1) _ (by omega)]
 ·have lz:m=0:=by omega
  subst lz;simp[ZI h];exact aJ (by rw[<-aB]; rfl) rfl
theorem QZ {g:FuncId} {p:Nat->Bool} (aA:j2 Tryz.prog g=true) (av:∀ r:Nat,bn Tryz.prog GS g [.int .i32 r] (.bool (p r))) (s:List UInt8) :
  bn Tryz.prog GS 207 [.str s,.fn g [] []] (.int .i64 (kj p s s.length 0)) :=by
 refine bD Tryz.checked.mixed bx ?_;apply bf Tryz.func207 [];simp;refine aY (Yl aA av s) rfl ?_;simp;exact aJ rfl rfl
theorem YI (r:Nat) :bn Tryz.prog GS 208 [.int .i32 r] (.bool (lU 33 r)) :=by
 refine bD Tryz.checked.mixed bx ?_;apply bf Tryz.func208 [];unfold lU;have ad:((r:Int)<33)<->r<33:=by omega
 have af:((126:Int)<r)<->126<r:=by omega
 by_cases h:r<33
 ·simp[ad,h];exact aJ rfl rfl
 ·simp[ad,h,af];exact aJ rfl rfl
theorem acX (r:Nat) :bn Tryz.prog GS 211 [.int .i32 r] (.bool (lU 32 r)) :=by
 refine bD Tryz.checked.mixed bx ?_;apply bf Tryz.func211 [];unfold lU;have ad:((r:Int)<32)<->r<32:=by omega
 have af:((126:Int)<r)<->126<r:=by omega
 by_cases h:r<32
 ·simp[ad,h];exact aJ rfl rfl
 ·simp[ad,h,af];exact aJ rfl rfl
theorem UK:j2 Tryz.prog 208=true:=by kernel_rfl
theorem UO:j2 Tryz.prog 211=true:=by kernel_rfl
def iS (s:List UInt8) :Bool:=decide (1<=s.length)&&decide (s.length<=20)&&s.all (g5 33)
theorem H1 (s:List UInt8) :bn Tryz.prog GS 179 [.str s] (.bool (iS s)) :=by
 refine bD Tryz.checked.mixed bx ?_;apply bf Tryz.func179 [];unfold iS;have ad:((1:Int)<=s.length)<->1<=s.length:=by omega
 have af:((s.length:Int)<=20)<->s.length<=20:=by omega
 by_cases aN:1<=s.length
 ·by_cases aT:s.length<=20
  ·simp[ad,af,aN,aT];refine aY (QZ UK YI s) rfl ?_;have:=HV 33 (by omega) s s.length 0 (by omega);rw[alH] at this;have al:decide (kj (lU 33) s s.length 0<0)=s.all (g5 33) :=by
    cases ag:s.all (g5 33) with
    | true=>simpa using this.2 ag
    | false=>
     have:¬ kj (lU 33) s s.length 0<0:=fun h=>by rw[this.1 h] at ag; cases ag
     simpa using this
   simp;rw[al];exact aJ (by simp[aN,aT]) rfl
  ·simp[ad,af,aN,aT];exact aJ (by simp[aN,aT]) rfl
 ·simp[ad,aN];exact aJ (by simp[aN]) rfl
theorem Km {s:List UInt8} {p:UInt8->Bool} {k:Nat} {b:UInt8} (h:s[k]? = some b) :(s.take (k+1)).all p=((s.take k).all p&&p b) :=by
 rw[akC,h]; simp[List.all_append]
theorem BI {s:List UInt8} {p:UInt8->Bool} {k:Nat} {b:UInt8} (h:s[k]? = some b) (av:p b=false) :s.all p=false:=by
 rw[List.all_eq_false];exact⟨b,ake h,by simp[av]⟩
theorem Ik (s:List UInt8) :bn Tryz.prog GS 217 [.str s] (.bool (iS s)) :=by
 refine bD Tryz.checked.mixed bx ?_;apply bf Tryz.func217 [];have ad:((s.length:Int)<1)<->¬ 1<=s.length:=by omega
 have af:((20:Int)<s.length)<->¬ s.length<=20:=by omega
 by_cases aN:1<=s.length
 ·by_cases aT:s.length<=20
  ·simp[ad,af,aN,aT];refine cm s.length (fun k ae _=>ae 0=.str s/\ae 3=.int .i64 k/\(s.take k).all (g5 33)=true) ?_ (by simp);rintro k ae l ax ⟨hr,eR,eA⟩;obtain⟨ae,rfl⟩:=o6 hr eR;clear hr eR;by_cases h:k<s.length
   ·obtain⟨b,ag,_⟩:=bF h;have eT:IntKind.i64.wrap ((k:Int)+1)=(k+1:Nat) :=wrap_i64 (by omega) (by omega);have dn:((b.toNat:Int)<33)<->¬ 33<=b.toNat:=by omega
    have dc:((126:Int)<b.toNat)<->¬ b.toNat<=126:=by omega
    have de:xX (.str s) (.int .i64 k)=some (.int .u8 b.toNat) :=by simp[ag,iK]
    by_cases q1:33<=b.toNat
    ·by_cases cS:b.toNat<=126
     ·have c0:g5 33 b=true:=by simp[g5,q1,cS]
      simp[h,de,dn,dc,q1,cS,eT,Km ag,c0,-xY];simpa using eA
     ·have c0:g5 33 b=false:=by simp[g5,cS]
      simp[h,de,dn,dc,q1,cS,-xY];exact aJ (by simp[iS,BI ag c0]) rfl
    ·have c0:g5 33 b=false:=by simp[g5,q1]
     simp[h,de,dn,q1,-xY];exact aJ (by simp[iS,BI ag c0]) rfl
   ·have eG:k=s.length:=by omega
    subst eG;rw[akE] at eA;simp;exact aJ (by simp only[iS,eA]; simp[aN,aT]) rfl
  ·simp[ad,af,aN,aT];exact aJ (by simp[iS,aT]) rfl
 ·simp[ad,aN];exact aJ (by simp[iS,aN]) rfl
theorem aay (s:List UInt8) (am:s.length<=1000000000) :bn Tryz.prog GS 232 [.str s] (.bool (s.all (g5 32))) :=by
 refine bD Tryz.checked.mixed bx ?_;apply bf Tryz.func232 [];simp;refine cm s.length (fun k ae _=>ae 0=.str s/\ae 3=.int .i64 k/\(s.take k).all (g5 32)=true) ?_ (by simp);rintro k ae l ax ⟨hr,eR,eA⟩;obtain⟨ae,rfl⟩:=o6 hr eR;clear hr eR;by_cases h:k<s.length
 ·obtain⟨b,ag,_⟩:=bF h;have eT:IntKind.i64.wrap ((k:Int)+1)=(k+1:Nat) :=wrap_i64 (by omega) (by omega);have dn:((b.toNat:Int)<32)<->¬ 32<=b.toNat:=by omega
  have dc:((126:Int)<b.toNat)<->¬ b.toNat<=126:=by omega
  have de:xX (.str s) (.int .i64 k)=some (.int .u8 b.toNat) :=by simp[ag,iK]
  by_cases q1:32<=b.toNat
  ·by_cases cS:b.toNat<=126
   ·have c0:g5 32 b=true:=by simp[g5,q1,cS]
    simp[h,de,dn,dc,q1,cS,eT,Km ag,c0,-xY];simpa using eA
   ·have c0:g5 32 b=false:=by simp[g5,cS]
    simp[h,de,dn,dc,q1,cS,-xY];exact aJ (by simp only[BI ag c0]) rfl
  ·have c0:g5 32 b=false:=by simp[g5,q1]
   simp[h,de,dn,q1,-xY];exact aJ (by simp only[BI ag c0]) rfl
 ·have eG:k=s.length:=by omega
  subst eG;rw[akE] at eA;simp;exact aJ (by simp only[eA]) rfl
structure h3 where
 kind:B
 num:Int
 bits:Q
 text:List UInt8
def eO (v:h3) :List U:=[bz v.kind,.int .i64 v.num,dI v.bits,.str v.text]
def uN:h3:=⟨0#8,0,0#64,[]⟩
def jd (b:Q) :Nat:=b.toNat / 4503599627370496 % 2048
def om (b:Q) :Q:=b % 4503599627370496#64
def cls (b:Q) :B:=if jd b=2047 then (if om b=0#64 then 4#8 else 5#8) else if jd b=0 then (if om b=0#64 then 1#8 else 2#8) else 3#8
def lW (b:Q) :Q:=if cls b=5#8 then 9221120237041090560#64 else b
theorem h0 (k:B) :((u k:Int)=1)<->k=1#8:=uz k 1#8
theorem kS (k:B) :((u k:Int)=2)<->k=2#8:=uz k 2#8
theorem nU (k:B) :((u k:Int)=3)<->k=3#8:=uz k 3#8
theorem uy (k:B) :((u k:Int)=4)<->k=4#8:=uz k 4#8
theorem ED (k:B) :((u k:Int)=5)<->k=5#8:=uz k 5#8
theorem adl (k:B) :((u k:Int)=0)<->k=0#8:=uz k 0#8
theorem sl (k:Q) :((u k:Int)=0)<->k=0#64:=uz k 0#64
theorem Lx (b:Q) :jd b<2048:=amc _ (by decide)
theorem Sw (n:Nat) (h:n<9223372036854775808) :cj .and .i64 (n:Int) .i64 2047=some (.int .i64 ((n % 2048:Nat) :Int)) :=by
 show some (U.int .i64 (IntKind.i64.wrap ((BitVec.ofInt 64 (n:Int) &&& BitVec.ofInt 64 (2047:Int)).toNat:Int)))=_;have ad:(BitVec.ofInt 64 (n:Int) &&& BitVec.ofInt 64 (2047:Int)).toNat=n % 2048:=by
  rw[ak8,amI,aky,akn (by omega)];exact amM n 11
 have af:=amc n (show 2048 > 0 by decide);rw[ad];generalize n % 2048=q at af;rw[wrap_i64 (by omega) (by omega)]
theorem UR (b:Q) :b &&& 4503599627370495#64=om b:=by
 apply akk;unfold om;rw[amI,ak9];exact amM b.toNat 52
theorem acB (b:Q) :bn Tryz.prog GS 239 [dI b] (.bu [.int .i64 (jd b),dI (om b)]) :=by
 refine bD Tryz.checked.mixed bx ?_;apply bf Tryz.func239 [];have ag:=b.isLt;have ad:IntKind.i64.wrap (u (b >>> 52))=((b.toNat / 4503599627370496:Nat) :Int) :=by
  have:u (b >>> 52)=((b.toNat / 4503599627370496:Nat) :Int) :=by unfold u; rw[akJ,akw]
  rw[this,wrap_i64 (by omega) (by omega)]
 have af:=Sw (b.toNat / 4503599627370496) (by omega);have ao:jd b=b.toNat / 4503599627370496 % 2048:=rfl;rw[<-ao] at af;obtain⟨q,a8⟩:∃ q,b.toNat / 4503599627370496=q:=⟨_,rfl⟩
 rw[a8] at ad af;have al:cj .and .u64 (u b) .u64 4503599627370495=some (dI (om b)) :=by
  rw[KC,la,<-UR]; rfl
 have aG:cj .shr .u64 (u b) .u64 52=some (.int .u64 (u (b >>> 52))) :=sO b .u64 52;simp[aG,ad,af,al,-KC];exact aJ rfl rfl
theorem abt (b:Q) :bn Tryz.prog GS 241 [dI b] (.int .i64 (jd b)) :=by
 refine bD Tryz.checked.mixed bx ?_;apply bf Tryz.func241 [];have ag:=b.isLt;have ad:cj .rem .u64 (u b) .u64 9223372036854775808=some (dI (b % 9223372036854775808#64)) :=wG b 9223372036854775808#64 (by decide);have af:cj .quo .u64 (u (b % 9223372036854775808#64)) .u64 4503599627370496=some (dI (b % 9223372036854775808#64 / 4503599627370496#64)) :=IJ _ 4503599627370496#64 (by decide);have al:IntKind.i64.wrap (u (b % 9223372036854775808#64 / 4503599627370496#64))=(jd b:Int) :=by
  have:u (b % 9223372036854775808#64 / 4503599627370496#64)=(jd b:Int) :=by
   unfold u jd;rw[alC,ak9];show (((b.toNat % 9223372036854775808) / 4503599627370496:Nat) :Int)=_;congr 1;omega
  have aG:=Lx b;rw[this,wrap_i64 (by omega) (by omega)]
 simp[ad,af,al];exact aJ rfl rfl
theorem abu (b:Q) :bn Tryz.prog GS 242 [dI b] (dI (om b)) :=by
 refine bD Tryz.checked.mixed bx ?_;apply bf Tryz.func242 [];have ad:cj .rem .u64 (u b) .u64 4503599627370496=some (dI (om b)) :=wG b 4503599627370496#64 (by decide);simp[ad];exact aJ rfl rfl
theorem Tv (b:Q) :bn Tryz.prog GS 229 [dI b] (bz (cls b)) :=by
 refine bD Tryz.checked.mixed bx ?_;apply bf Tryz.func229 [];unfold cls;simp;refine aY (acB b) rfl ?_;have ad:((jd b:Int)=2047)<->jd b=2047:=by omega
 have af:((jd b:Int)=0)<->jd b=0:=by omega
 by_cases aN:jd b=2047
 ·by_cases aT:om b=0#64
  ·simp[ad,aN,aT];exact aJ rfl rfl
  ·simp[ad,aN,aT,sl];exact aJ rfl rfl
 ·by_cases aZ:jd b=0
  ·by_cases aT:om b=0#64
   ·simp[ad,af,aN,aT,aZ];exact aJ rfl rfl
   ·simp[ad,af,aN,aT,aZ,sl];exact aJ rfl rfl
  ·simp[ad,af,aN,aZ];exact aJ rfl rfl
theorem abs (b:Q) :bn Tryz.prog GS 240 [dI b] (bz (cls b)) :=by
 refine bD Tryz.checked.mixed bx ?_;apply bf Tryz.func240 [];unfold cls;simp;refine aY (abt b) rfl ?_;simp;refine aY (abu b) rfl ?_;have af:((jd b:Int)=0)<->jd b=0:=by omega
 have al:((jd b:Int)<2047)<->¬ jd b=2047:=by have:=Lx b; omega
 by_cases aZ:jd b=0
 ·by_cases aT:om b=0#64
  ·simp[af,aT,aZ];exact aJ rfl rfl
  ·simp[af,aT,aZ,sl];exact aJ rfl rfl
 ·by_cases aN:jd b=2047
  ·by_cases aT:om b=0#64
   ·simp[af,al,aN,aT];exact aJ rfl rfl
   ·simp[af,al,aN,aT,sl];exact aJ rfl rfl
  ·simp[af,al,aN,aZ];exact aJ rfl rfl
theorem Ti (b:Q) :bn Tryz.prog GS 210 [dI b] (dI (lW b)) :=by
 refine bD Tryz.checked.mixed bx ?_;apply bf Tryz.func210 [];unfold lW;simp;refine aY (Tv b) rfl ?_;by_cases h:cls b=5#8
 ·simp[ED,h];exact aJ rfl rfl
 ·simp[ED,h];exact aJ rfl rfl
theorem abq (b:Q) :bn Tryz.prog GS 231 [dI b] (dI (lW b)) :=by
 refine bD Tryz.checked.mixed bx ?_;apply bf Tryz.func231 [];unfold lW;simp;refine aY (abs b) rfl ?_;by_cases h:cls b=5#8
 ·simp[ED,h];exact aJ rfl rfl
 ·simp[ED,h];exact aJ rfl rfl
theorem adr (n:Int) :bn Tryz.prog GS 188 [.int .i64 n] (.aH (eO ⟨1#8,n,0#64,[]⟩)) :=by
 refine bD Tryz.checked.mixed bx ?_;apply bf Tryz.func188 [];simp;exact aJ rfl rfl
theorem adq (b:Q) :bn Tryz.prog GS 189 [dI b] (.aH (eO ⟨2#8,0,lW b,[]⟩)) :=by
 refine bD Tryz.checked.mixed bx ?_;apply bf Tryz.func189 [];simp;refine aY (Ti b) rfl ?_;simp;exact aJ rfl rfl
def q9 (s:List UInt8) :h3 × Int:=if s.length<=30 then (if s.all (g5 32) then (⟨3#8,0,0#64,s⟩,0) else (uN,8)) else (uN,4)
theorem ads (s:List UInt8) :bn Tryz.prog GS 190 [.str s] (.bu [.aH (eO (q9 s).1),.int .i64 (q9 s).2]) :=by
 refine bD Tryz.checked.mixed bx ?_;apply bf Tryz.func190 [];unfold q9;have af:((30:Int)<s.length)<->¬ s.length<=30:=by omega
 by_cases aT:s.length<=30
 ·simp[af,aT];refine aY (QZ UO acX s) rfl ?_;have al:=HV 32 (by omega) s s.length 0 (by omega);rw[alH] at al;have aG:((0:Int)<=kj (lU 32) s s.length 0)<->¬ (s.all (g5 32)=true) :=by rw[<-al]; omega
  cases ag:s.all (g5 32) with
  | true=>
   have a6:¬ (0:Int)<=kj (lU 32) s s.length 0:=by rw[aG,ag]; simp
   simp[a6];exact aJ (by simp[aT]; rfl) rfl
  | false=>
   have a6:(0:Int)<=kj (lU 32) s s.length 0:=by rw[aG,ag]; simp
   simp[a6];exact aJ (by simp[aT]; rfl) rfl
 ·simp[af,aT];exact aJ rfl rfl
def jU (v:h3) :Bool:=
 if v.kind=1#8 then decide (v.bits=0#64)&&decide (v.text=[])
 else if v.kind=2#8 then decide (v.num=0)&&decide (v.text=[])&&decide (lW v.bits=v.bits)
 else if v.kind=3#8 then decide (v.num=0)&&decide (v.bits=0#64)&&decide (v.text.length<=30)&&v.text.all (g5 32)
 else false
def lp (b:Bool) :Int:=if b then 0 else 8
def YG:List lS:=[.i .u8,.i .i64,.i .u64,.s]
theorem Oy:qR Tryz.prog 20 88=some YG:=by kernel_rfl
theorem adt (a b:h3) :fT Tryz.prog .eql 88 (.aH (eO a)) (.aH (eO b))=some (.bool (e0 (eO a) (eO b))) :=BP Oy (by kernel_rfl) (by kernel_rfl) rfl rfl
theorem adu (a b:h3) :fT Tryz.prog .neq 88 (.aH (eO a)) (.aH (eO b))=some (.bool (!e0 (eO a) (eO b))) :=KJ Oy (by kernel_rfl) (by kernel_rfl) rfl rfl
theorem KH (a b:h3) :e0 (eO a) (eO b)=(decide (a.kind=b.kind)&&(decide (a.num=b.num)&&(decide (a.bits=b.bits)&&decide (a.text=b.text)))) :=by
 simp[eO,e0,U.beq]
theorem JH {v:h3} (k:v.kind=1#8) :jU v=(decide (v.bits=0#64)&&decide (v.text=[])) :=by simp[jU,k]
theorem JI {v:h3} (k:v.kind=2#8) :jU v=(decide (v.num=0)&&(decide (v.bits=lW v.bits)&&decide (v.text=[]))) :=by
 unfold jU;rw[if_neg (by rw[k]; decide),if_pos k,show decide (lW v.bits=v.bits)=decide (v.bits=lW v.bits) from decide_eq_decide.2 eq_comm];cases decide (v.num=0)<;>cases decide (v.text=[])<;>cases decide (v.bits=lW v.bits)<;>rfl
theorem Ru {v:h3} (k:v.kind=3#8) :jU v=(decide (v.kind=(q9 v.text).1.kind)&&(decide (v.num=(q9 v.text).1.num)&&(decide (v.bits=(q9 v.text).1.bits)&&decide (v.text=(q9 v.text).1.text)))) :=by
 unfold jU q9;rw[if_neg (by rw[k]; decide),if_neg (by rw[k]; decide),if_pos k];by_cases ad:v.text.length<=30
 ·cases af:v.text.all (g5 32) with
  | true=>simp[ad,k]
  | false=>simp[ad,k,uN]
 ·simp[ad,k,uN]
theorem JJ {v:h3} (b4:v.kind≠1#8) (cx:v.kind≠2#8) (eB:v.kind≠3#8) :jU v=false:=by simp[jU,b4,cx,eB]
theorem Rs (v:h3) :bn Tryz.prog GS 154 [.aH (eO v)] (.int .i64 (lp (jU v))) :=by
 refine bD Tryz.checked.mixed bx ?_;apply bf Tryz.func154 [];have aw:∀ (k:B) (n:Int) (b:Q) (t:List UInt8),fT Tryz.prog .neq 88 (.aH [bz v.kind,.int .i64 v.num,dI v.bits,.str v.text]) (.aH [bz k,.int .i64 n,dI b,.str t])=some (.bool (!(decide (v.kind=k)&&(decide (v.num=n)&&(decide (v.bits=b)&&decide (v.text=t)))))) :=fun k n b t=>by rw[<-KH v ⟨k,n,b,t⟩]; exact adu v ⟨k,n,b,t⟩
 by_cases b4:v.kind=1#8
 ·have ad:=aw 1#8 v.num 0#64 [];simp only[b4] at ad;unfold eO;simp[h0,b4];refine aY (adr v.num) rfl ?_;unfold eO;simp[ad];rw[JH b4];cases decide (v.bits=0#64)<;>cases decide (v.text=[])<;>simp[b4]<;>exact aJ rfl rfl
 ·by_cases cx:v.kind=2#8
  ·have ad:=aw 2#8 0 (lW v.bits) [];simp only[cx] at ad;unfold eO;simp[h0,kS,cx];refine aY (adq v.bits) rfl ?_;unfold eO;simp[ad];rw[JI cx];cases decide (v.num=0)<;>cases decide (v.bits=lW v.bits)<;>cases decide (v.text=[])<;>simp[cx]<;>exact aJ rfl rfl
  ·by_cases eB:v.kind=3#8
   ·obtain⟨w,aV⟩:∃ w,w=(q9 v.text).1:=⟨_,rfl⟩
    have ad:=aw w.kind w.num w.bits w.text;have al:=Ru eB;rw[<-aV] at al;simp only[eB] at ad al;unfold eO;simp[h0,kS,nU,eB];refine aY (ads v.text) rfl ?_;rw[<-aV];unfold eO;simp[ad];rw[al];cases decide (3#8=w.kind)<;>cases decide (v.num=w.num)<;>cases decide (v.bits=w.bits)<;>cases decide (v.text=w.text)<;>simp[eB]<;>exact aJ rfl rfl
   ·have ad:fT Tryz.prog .neq 88 (.aH [bz v.kind,.int .i64 v.num,dI v.bits,.str v.text]) (.aH [.int .u8 0,.int .i64 0,.int .u64 0,.str []])=some (.bool (!(decide (v.kind=0#8)&&(decide (v.num=0)&&(decide (v.bits=0#64)&&decide (v.text=[])))))) :=aw 0#8 0 0#64 [];rw[JJ b4 cx eB];unfold eO;simp[h0,kS,nU,b4,cx,eB];by_cases iR:v.kind=0#8
    ·simp only[iR,decide_true,alx] at ad;simp[iR,ad];cases decide (v.num=0)<;>cases decide (v.bits=0#64)<;>cases decide (v.text=[])<;>simp[iR]<;>exact aJ rfl rfl
    ·simp only[iR,decide_false,alJ,amR] at ad;simp[ad];exact aJ rfl rfl
theorem abw (v:h3) :bn Tryz.prog GS 218 [.aH (eO v)] (.int .i64 (lp (jU v))) :=by
 refine bD Tryz.checked.mixed bx ?_;apply bf Tryz.func218 [[[0],[1],[2],[3],[4],[5],[6],[7],[8],[9],[10],[12],[13],[11,13]]];by_cases b4:v.kind=1#8
 ·rw[JH b4];unfold eO;simp[h0,b4,sl];by_cases aN:v.bits=0#64<;>by_cases aT:v.text=[]<;>simp[aN,aT,sl]<;>exact aJ rfl rfl
 ·by_cases cx:v.kind=2#8
  ·rw[JI cx];unfold eO;simp[h0,kS,cx];by_cases aN:v.num=0
   ·by_cases aT:v.text=[]
    ·simp[aN,aT];refine aY (abq v.bits) rfl ?_;by_cases aZ:v.bits=lW v.bits
     ·have a9:lW v.bits=v.bits:=aZ.symm;simp[a9];exact aJ (by simp[lp,aN,aT,a9]) rfl
     ·have a9:¬ lW v.bits=v.bits:=fun h=>aZ h.symm
      simp[aZ,a9];exact aJ (by simp[lp,aZ]) rfl
    ·simp[aN,aT];exact aJ rfl rfl
   ·simp[aN];exact aJ rfl rfl
  ·by_cases eB:v.kind=3#8
   ·have aq:jU v=(decide (v.num=0)&&decide (v.bits=0#64)&&decide (v.text.length<=30)&&v.text.all (g5 32)) :=by simp[jU,eB]
    have af:((v.text.length:Int)<=30)<->v.text.length<=30:=by omega
    rw[aq];unfold eO;simp[h0,kS,nU,eB,sl];by_cases aN:v.num=0
    ·by_cases aT:v.bits=0#64
     ·by_cases aZ:v.text.length<=30
      ·simp[aN,aT,af,aZ];refine aY (aay v.text (by omega)) rfl ?_;cases v.text.all (g5 32)<;>simp<;>exact aJ (by simp[lp,aN,aT,aZ]) rfl
      ·simp[aN,aT,af,aZ];exact aJ rfl rfl
     ·simp[aN,aT,sl];exact aJ rfl rfl
    ·simp[aN];exact aJ rfl rfl
   ·rw[JJ b4 cx eB];unfold eO;simp[h0,kS,nU,b4,cx,eB];exact aJ rfl rfl
structure Act where
 kind:B
 key:List UInt8
 val:h3
def iL (a:Act) :List U:=[bz a.kind,.str a.key,bz a.val.kind,.int .i64 a.val.num,dI a.val.bits,.str a.val.text]
def m5 (v:h3) :Bool:=decide (v.kind=0#8)&&(decide (v.num=0)&&(decide (v.bits=0#64)&&decide (v.text=[])))
def jY (a:Act) :Bool:=
 if a.kind=1#8 then decide (a.key=[])&&m5 a.val
 else if a.kind=2#8\/a.kind=3#8 then iS a.key&&m5 a.val
 else if a.kind=4#8 then iS a.key&&jU a.val
 else false
def DD:List lS:=[.i .u8,.s,.i .u8,.i .i64,.i .u64,.s]
theorem YK:qR Tryz.prog 20 90=some DD:=by kernel_rfl
theorem Kc (a b:Act) :fT Tryz.prog .eql 90 (.aH (iL a)) (.aH (iL b))=some (.bool (e0 (iL a) (iL b))) :=BP YK (by kernel_rfl) (by kernel_rfl) rfl rfl
theorem Sr (a:Act) (h:a.kind=1#8) :fT Tryz.prog .eql 90 (.aH [.int .u8 1,.str a.key,bz a.val.kind,.int .i64 a.val.num,dI a.val.bits,.str a.val.text]) (.aH [.int .u8 1,.str [],.int .u8 0,.int .i64 0,.int .u64 0,.str []])=some (.bool (decide (a.key=[])&&m5 a.val)) :=by
 have:=Kc a ⟨1#8,[],uN⟩;simp only[iL,h] at this;refine Eq.trans this ?_;simp[e0,U.beq,m5,uN,adl,sl];congr
theorem Rt (v:h3) :fT Tryz.prog .eql 88 (.aH [bz v.kind,.int .i64 v.num,dI v.bits,.str v.text]) (.aH [.int .u8 0,.int .i64 0,.int .u64 0,.str []])=some (.bool (m5 v)) :=by
 have:=adt v uN;rw[KH] at this;exact this
theorem Kg {a:Act} (k:a.kind=1#8) :jY a=(decide (a.key=[])&&m5 a.val) :=by simp[jY,k]
theorem E8 {a:Act} (k:a.kind=2#8) :jY a=(iS a.key&&m5 a.val) :=by simp[jY,k]
theorem E9 {a:Act} (k:a.kind=3#8) :jY a=(iS a.key&&m5 a.val) :=by simp[jY,k]
theorem yP {a:Act} (k:a.kind=4#8) :jY a=(iS a.key&&jU a.val) :=by simp[jY,k]
theorem Fa {a:Act} (b4:a.kind≠1#8) (cx:a.kind≠2#8) (eB:a.kind≠3#8) (gU:a.kind≠4#8) :jY a=false:=by simp[jY,b4,cx,eB,gU]
theorem Tq (a:Act) :bn Tryz.prog GS 137 [.aH (iL a)] (.int .i64 (lp (jY a))) :=by
 refine bD Tryz.checked.mixed bx ?_;apply bf Tryz.func137 [];by_cases b4:a.kind=1#8
 ·have ad:=Sr a b4;have aS:bz (1#8)=.int .u8 1:=rfl;rw[Kg b4];unfold iL;simp[h0,b4,aS,ad];by_cases aN:a.key=[]<;>cases aT:m5 a.val<;>simp[aN,aT]<;>exact aJ rfl rfl
 ·have ad:=Rt a.val;by_cases cx:a.kind=2#8
  ·rw[E8 cx];unfold iL;simp[h0,kS,nU,b4,cx];refine aY (H1 a.key) rfl ?_;cases iS a.key with
   | true=>simp[ad]; cases m5 a.val<;>simp<;>exact aJ rfl rfl
   | false=>simp; exact aJ rfl rfl
  ·by_cases eB:a.kind=3#8
   ·rw[E9 eB];unfold iL;simp[h0,kS,nU,b4,eB];refine aY (H1 a.key) rfl ?_;cases iS a.key with
    | true=>simp[ad]; cases m5 a.val<;>simp<;>exact aJ rfl rfl
    | false=>simp; exact aJ rfl rfl
   ·by_cases gU:a.kind=4#8
    ·rw[yP gU];unfold iL;simp[h0,kS,nU,uy,gU];refine aY (H1 a.key) rfl ?_;cases iS a.key with
     | true=>
      simp;refine aY (Rs a.val) rfl ?_;cases jU a.val<;>simp[lp]<;>exact aJ rfl rfl
     | false=>simp; exact aJ rfl rfl
    ·rw[Fa b4 cx eB gU];unfold iL;simp[h0,kS,nU,uy,b4,cx,eB,gU];exact aJ rfl rfl
theorem abr (a:Act) :bn Tryz.prog GS 197 [.aH (iL a)] (.int .i64 (lp (jY a))) :=by
 refine bD Tryz.checked.mixed bx ?_;apply bf Tryz.func197 [];have ad:=Rt a.val;by_cases b4:a.kind=1#8
 ·rw[Kg b4];unfold iL;simp[h0,b4,ad];by_cases aN:a.key=[]<;>cases aT:m5 a.val<;>simp[aN,aT]<;>exact aJ rfl rfl
 ·by_cases cx:a.kind=2#8
  ·rw[E8 cx];unfold iL;simp[h0,kS,nU,b4,cx,ad];refine aY (Ik a.key) rfl ?_;cases iS a.key with
   | true=>simp; cases m5 a.val<;>simp<;>exact aJ rfl rfl
   | false=>simp; exact aJ rfl rfl
  ·by_cases eB:a.kind=3#8
   ·rw[E9 eB];unfold iL;simp[h0,kS,nU,b4,eB,ad];refine aY (Ik a.key) rfl ?_;cases iS a.key with
    | true=>simp; cases m5 a.val<;>simp<;>exact aJ rfl rfl
    | false=>simp; exact aJ rfl rfl
   ·by_cases gU:a.kind=4#8
    ·rw[yP gU];unfold iL;simp[h0,kS,nU,uy,gU,ad];refine aY (Ik a.key) rfl ?_;cases iS a.key with
     | true=>
      simp;refine aY (abw a.val) rfl ?_;cases jU a.val<;>simp[lp]<;>exact aJ rfl rfl
     | false=>simp; exact aJ rfl rfl
    ·rw[Fa b4 cx eB gU];unfold iL;simp[h0,kS,nU,uy,b4,cx,eB,gU,ad];exact aJ rfl rfl
end Op

end Go.ca

namespace Go.ca
open Go Go.Proofs
set_option maxRecDepth 100000
def cz {α:Type} (z:Nat) (enc:α->List U) (l l1:ap) (v:U) (a:List α) (nl:Bool) :Prop:=
 ∃ j,bJ z l1 v j (a.map enc)/\l.length<=l1.length/\(∀ b,b<l.length->l1[b]? = l[b]?)/\(v=.aK\/l.length<=j)/\cw v=nl
section
variable {α:Type} {z:Nat} {enc:α->List U} {l l1:ap} {v:U} {a:List α} {nl:Bool}
theorem cz.nil:cz z enc l l .aK ([] :List α) true:=⟨0,.nil 0,akb _,fun _ _=>rfl,.inl rfl,rfl⟩
theorem cz.more (h:cz z enc l l1 v a nl) (r:ap) :cz z enc l (l1++r) v a nl:=by
 obtain⟨j,ad,af,al,aG,a6⟩:=h;exact⟨j,ad.more r,by simp; omega,fun b ag=>by rw[aj8 (by omega)]; exact al b ag,aG,a6⟩
theorem cz.len (h:cz z enc l l1 v a nl) :ch (.ar z) v=some (.int .i64 a.length) :=by
 obtain⟨j,ad,_⟩:=h;rw[ad.len,aki]
theorem cz.cells (h:cz z enc l l1 v a nl) :v.cells=some [v] :=by
 obtain⟨j,ad,_⟩:=h;exact ad.cells
theorem cz.contents (h:cz z enc l l1 v a nl) :dd l1 z v=some ((a.map enc).flatten,a.length) :=by
 obtain⟨j,ad,_⟩:=h;rw[ad.contents,aki]
theorem cz.le (h:cz z enc l l1 v a nl) :l.length<=l1.length:=by obtain⟨j,ad,af,_⟩:=h; exact af
theorem cz.same (h:cz z enc l l1 v a nl) :∀ b,b<l.length->l1[b]? = l[b]?:=by obtain⟨j,ad,af,al,_⟩:=h; exact al
theorem cz.q3 (h:cz z enc l l1 v a nl) (aI:∀ x,a1 (enc x)=true) (s:cT α) (ak:nl=s.isNone) (ai:s.l=a) :fR (bM l1) v (ct z enc s) :=by
 obtain⟨j,ad,af,al,aG,a6⟩:=h;exact ad.ug aI s (by rw[a6,ak]) ai
theorem cz.rd (h:cz z enc l l1 v a nl) (aI:∀ x,a1 (enc x)=true) (s:cT α) (ak:nl=s.isNone) (ai:s.l=a) :ii l1 v (ct z enc s) :=by
 obtain⟨j,ad,af,al,aG,a6⟩:=h;exact ad.q.q4 aI s (by rw[a6,ak]) ai
theorem cz.Eg (h:cz z enc l l1 v a nl) (aI:∀ x,kV (enc x)=true) (s:cT α) (ak:nl=s.isNone) (ai:s.l=a) :jX l1 v (ct z enc s) :=by
 obtain⟨j,ad,af,al,aG,a6⟩:=h;exact ad.A8 aI s (by rw[a6,ak]) ai
theorem cz.base (h:cz z enc l l1 v a nl) {e2:ap} (am:e2.length<=l.length) (ak:∀ b,b<e2.length->l[b]? = e2[b]?) :cz z enc e2 l1 v a nl:=by
 obtain⟨j,ad,af,al,aG,a6⟩:=h;exact⟨j,ad,by omega,fun b ag=>by rw[al b (by omega)]; exact ak b ag,aG.imp id (by omega),a6⟩
theorem cz.frame (h:cz z enc l l1 v a nl) {bt:ap} (am:l1.length<=bt.length) (ak:∀ b,b<l1.length->bt[b]? = l1[b]?) :cz z enc l bt v a nl:=by
 obtain⟨j,ad,af,al,aG,a6⟩:=h;exact⟨j,ad.frame fun aj=>ak j aj,by omega,fun b ag=>by rw[ak b (by omega)]; exact al b ag,aG,a6⟩
theorem cz.app (h:cz z enc l l1 v a nl) {by_:Nat} {x:U} {xs:List α} (ai:dd l1 z x=some ((xs.map enc).flatten,xs.length)) (aw:∀ y∈xs,(enc y).length=z) (aF:z≠0) (ep:by_≠0) (ed:(a.length+xs.length)*by_<=cF) :
  ∃ a4 l',fS l1 z by_ v x=some (a4,l')/\cz z enc l l' a4 (a++xs) (nl&&xs.isEmpty)/\l1.length<=l'.length:=by
 obtain⟨j,ad,af,al,aG,a6⟩:=h;obtain⟨a4,cb,l',aN,aT,aZ,a9,bg,cq⟩:=u4 (xs:=xs.map enc) ad (by simpa using ai) (fun e ao=>by obtain⟨y,aL,rfl⟩:=akz.1 ao; exact aw y aL) aF ep (by simpa using ed);refine⟨a4,l',aN,⟨cb,by rw[aks]; exact aT,by omega,fun b ag=>?_,?_,?_⟩,aZ⟩
 ·rw[a9 b (by omega)]
  ·exact al b ag
  ·rcases aG with h | h
   ·exact .inl h
   ·exact .inr (by omega)
 ·rcases bg with h | ⟨bK,c9⟩ | h
  ·exact .inr (by omega)
  ·rcases aG with h | h
   ·exact absurd h bK
   ·exact .inr (by omega)
  ·exact .inl h
 ·rw[cq,a6]; simp
end

namespace Op
open hN
theorem cz.push {l l1:ap} {v:U} {a:List B} {nl:Bool} (h:cz 1 b0 l l1 v a nl) (x:B) (ed:a.length<=1000000000) :
  ∃ a4 l',fS (l1++[.cells 1 [bz x]]) 1 1 v (.ar 1 l1.length 0 1 1 1)=some (a4,l')/\cz 1 b0 l l' a4 (a++[x]) false:=by
 have ay:cF=140737488355328:=rfl;obtain⟨a4,l',aN,aT,_⟩:=(h.more [.cells 1 [bz x]]).app (by_:=1) (x:=.ar 1 l1.length 0 1 1 1) (xs:=[x]) (by simp[dd,b0]) (by simp[b0]) (by omega) (by omega) (by rw[ay]; simp; omega);exact⟨a4,l',aN,by simpa using aT⟩
theorem zh:∀ a:List B,(a.map b0).flatten=a.map bz
 | []=>rfl
 | x::a=>by rw[akx,akT,zh a]; rfl
theorem pY {l:ap} {j n:Nat} {a:List B} (aC:a.length=n) (aj:l[j]? = some (.cells n (a.map bz))) :bJ 1 l (.ar 1 j 0 n n n) j (a.map b0) :=by
 refine .ar j n n n (a.map bz) _ aj (by simp[aC]) (by simp[aC]) (fun e ao=>?_) (akb _) (by omega) ?_
 ·obtain⟨x,_,rfl⟩:=akz.1 ao; rfl
 ·rw[aj9 (by simp[aC]),zh]
def kn (n:Nat) :Nat:=if n<256 then 1 else if n<65536 then 2 else if n<16777216 then 3 else if n<4294967296 then 4 else if n<1099511627776 then 5 else if n<281474976710656 then 6 else if n<72057594037927936 then 7 else 8
theorem DU (n:Nat) :1<=kn n/\kn n<=8:=by unfold kn; refine⟨?_,?_⟩<;>(repeat' split)<;>omega
def kU (n i:Nat) :B:=BitVec.ofNat 8 (n >>> (8*i))
def sq (n:Nat) :Nat->List B
 | 0=>[]
 | i+1=>kU n i::sq n i
theorem Jv (n:Nat) :∀ i,(sq n i).length=i
 | 0=>rfl
 | i+1=>by simp[sq,Jv n i]
def dS (n:Nat) :List B:=if n<=247 then [BitVec.ofNat 8 n] else BitVec.ofNat 8 (247+kn n) ::sq n (kn n)
def kP (x:Nat) :Nat:=if x<1 then 0 else if x<2 then 1 else if x<4 then 2 else if x<8 then 3 else if x<16 then 4 else if x<32 then 5 else if x<64 then 6 else if x<128 then 7 else 8
def Bi:List UInt8:=[0,1,2,2,3,3,3,3,4,4,4,4,4,4,4,4,5,5,5,5,5,5,5,5,5,5,5,5,5,5,5,5,6,6,6,6,6,6,6,6,6,6,6,6,6,6,6,6,6,6,6,6,6,6,6,6,6,6,6,6,6,6,6,6,7,7,7,7,7,7,7,7,7,7,7,7,7,7,7,7,7,7,7,7,7,7,7,7,7,7,7,7,7,7,7,7,7,7,7,7,7,7,7,7,7,7,7,7,7,7,7,7,7,7,7,7,7,7,7,7,7,7,7,7,7,7,7,7,8,8,8,8,8,8,8,8,8,8,8,8,8,8,8,8,8,8,8,8,8,8,8,8,8,8,8,8,8,8,8,8,8,8,8,8,8,8,8,8,8,8,8,8,8,8,8,8,8,8,8,8,8,8,8,8,8,8,8,8,8,8,8,8,8,8,8,8,8,8,8,8,8,8,8,8,8,8,8,8,8,8,8,8,8,8,8,8,8,8,8,8,8,8,8,8,8,8,8,8,8,8,8,8,8,8,8,8,8,8,8,8,8,8,8,8,8,8,8,8,8,8,8,8,8,8,8,8]
def Jt:Nat->List UInt8->Bool
 | _,[]=>true
 | i,x::r=>Nat.beq x.toNat (kP i)&&Jt (i+1) r
theorem Q6:∀ (i:Nat) (l:List UInt8),Jt i l=true->∀ (j:Nat) (x:UInt8),l[j]? = some x->x.toNat=kP (i+j)
 | i,[],_,j,x,h=>by simp at h
 | i,y::r,h,j,x,ai=>by
  simp only[Jt,akh] at h;cases j with
  | zero=>simp at ai; subst ai; exact alh h.1
  | succ j=>simp at ai; rw[Q6 (i+1) r h.2 j x ai]; congr 1; omega
theorem uv (i:Nat) (h:i<256) :∃ x,Bi[i]? = some x/\x.toNat=kP i:=by
 have am:Bi.length=256:=by kernel_rfl
 have aA:=Q6 0 Bi (by kernel_rfl) i _ (aka (by omega));exact⟨_,aka (by omega),by rw[aA]; congr 1; omega⟩
theorem r7 (x:Nat) :kP x<=8:=by unfold kP; (repeat' split)<;>omega
def jJ (n:Nat) :Nat:=
 if n<256 then kP n else if n<65536 then 8+kP (n / 256) else if n<16777216 then 16+kP (n / 65536) else if n<4294967296 then 24+kP (n / 16777216)
 else if n<1099511627776 then 32+kP (n / 4294967296) else if n<281474976710656 then 40+kP (n / 1099511627776) else if n<72057594037927936 then 48+kP (n / 281474976710656) else 56+kP (n / 72057594037927936)
theorem Y1 (n:Nat) (h:1<=n) :(jJ n+7) / 8=kn n:=by
 have am:∀ x,1<=x->1<=kP x/\kP x<=8:=fun x ai=>⟨by unfold kP; rw[if_neg (by omega)]; (repeat' split)<;>omega,r7 x⟩
 unfold jJ kn
 repeat' split
 ·have:=am n h; omega
 ·have:=am (n / 256) (by omega); omega
 ·have:=am (n / 65536) (by omega); omega
 ·have:=am (n / 16777216) (by omega); omega
 ·have:=am (n / 4294967296) (by omega); omega
 ·have:=am (n / 1099511627776) (by omega); omega
 ·have:=am (n / 281474976710656) (by omega); omega
 ·have:=am (n / 72057594037927936) (by omega); omega
theorem Je (x:Q) (k:Nat) :cj .shr .u64 (u x) .u64 (k:Int)=some (.int .u64 (u (x >>> k))) :=sO x .u64 k
theorem sG {i:Nat} {y:UInt8} {k:UInt8->Prop} (h:Bi[i]? = some y) (ax:k y) :W Bi[i]? (c:=⟨k⟩) :=by rw[h]; exact ax
set_option maxHeartbeats 4000000 in
theorem Y2 (n:Q) :bn Tryz.prog GS 149 [dI n] (.int .i64 (jJ n.toNat)) :=by
 refine bD Tryz.checked.mixed bx ?_;apply bf Tryz.func149 [];have iU:IntKind.i64.wrap 8=8:=rfl;have uC:IntKind.i64.wrap 16=16:=rfl;have uD:IntKind.i64.wrap 24=24:=rfl;have uE:IntKind.i64.wrap 32=32:=rfl;have uF:IntKind.i64.wrap 40=40:=rfl;have uG:IntKind.i64.wrap 48=48:=rfl;have uH:IntKind.i64.wrap 56=56:=rfl;have b5:∀ x:Q,((4294967296:Int)<=u x)<->4294967296<=x.toNat:=fun x=>by unfold u; omega
 have ce:∀ x:Q,((65536:Int)<=u x)<->65536<=x.toNat:=fun x=>by unfold u; omega
 have il:∀ x:Q,((256:Int)<=u x)<->256<=x.toNat:=fun x=>by unfold u; omega
 have ul:∀ x:Q,cj .shr .u64 (u x) .u64 32=some (.int .u64 (u (x >>> 32))) :=fun x=>Je x 32
 have uj:∀ x:Q,cj .shr .u64 (u x) .u64 16=some (.int .u64 (u (x >>> 16))) :=fun x=>Je x 16
 have um:∀ x:Q,cj .shr .u64 (u x) .u64 8=some (.int .u64 (u (x >>> 8))) :=fun x=>Je x 8
 have t32:n.toNat >>> 32=n.toNat / 4294967296:=by rw[akw]
 have t48:n.toNat >>> 48=n.toNat / 281474976710656:=by rw[akw]
 have t16:n.toNat >>> 16=n.toNat / 65536:=by rw[akw]
 have Gt:=n.isLt;by_cases ad:4294967296<=n.toNat
 ·by_cases af:65536<=n.toNat >>> 32
  ·by_cases al:256<=n.toNat >>> 48
   ·have cy:n.toNat >>> 56 % 256=n.toNat / 72057594037927936:=by rw[akw]; exact akn (by omega)
    obtain⟨y,aN,aT⟩:=uv (n.toNat / 72057594037927936) (by omega);have aZ:=r7 (n.toNat / 72057594037927936);rw[<-aT] at aZ;have bV:IntKind.i64.wrap (y.toNat:Int)=y.toNat:=wrap_i64 (by omega) (by omega);have w2:IntKind.i64.wrap (56+(y.toNat:Int))=((56+y.toNat:Nat) :Int) :=by rw[wrap_i64 (by omega) (by omega)]; omega
    have eM:jJ n.toNat=56+y.toNat:=by unfold jJ; rw[aT]; (repeat' split)<;>first | omega | rfl
    simp[b5,ce,il,ul,uj,um,ad,af,al];refine sG (y:=y) (by rw[cy]; exact aN) ?_;rw[eM];simp[iK,bV,w2];exact aJ (by simp[iU,uC,uD,uE,uF,uG,uH,w2]) rfl
   ·have cy:n.toNat >>> 48 % 256=n.toNat / 281474976710656:=by rw[akw]; exact akn (by omega)
    obtain⟨y,aN,aT⟩:=uv (n.toNat / 281474976710656) (by omega);have aZ:=r7 (n.toNat / 281474976710656);rw[<-aT] at aZ;have bV:IntKind.i64.wrap (y.toNat:Int)=y.toNat:=wrap_i64 (by omega) (by omega);have w2:IntKind.i64.wrap (48+(y.toNat:Int))=((48+y.toNat:Nat) :Int) :=by rw[wrap_i64 (by omega) (by omega)]; omega
    have eM:jJ n.toNat=48+y.toNat:=by unfold jJ; rw[aT]; (repeat' split)<;>first | omega | rfl
    simp[b5,ce,il,ul,uj,um,ad,af,al];refine sG (y:=y) (by rw[cy]; exact aN) ?_;rw[eM];simp[iK,bV,w2];exact aJ (by simp[iU,uC,uD,uE,uF,uG,uH,w2]) rfl
  ·by_cases al:256<=n.toNat >>> 32
   ·have cy:n.toNat >>> 40 % 256=n.toNat / 1099511627776:=by rw[akw]; exact akn (by omega)
    obtain⟨y,aN,aT⟩:=uv (n.toNat / 1099511627776) (by omega);have aZ:=r7 (n.toNat / 1099511627776);rw[<-aT] at aZ;have bV:IntKind.i64.wrap (y.toNat:Int)=y.toNat:=wrap_i64 (by omega) (by omega);have w2:IntKind.i64.wrap (40+(y.toNat:Int))=((40+y.toNat:Nat) :Int) :=by rw[wrap_i64 (by omega) (by omega)]; omega
    have eM:jJ n.toNat=40+y.toNat:=by unfold jJ; rw[aT]; (repeat' split)<;>first | omega | rfl
    simp[b5,ce,il,ul,uj,um,ad,af,al];refine sG (y:=y) (by rw[cy]; exact aN) ?_;rw[eM];simp[iK,bV,w2];exact aJ (by simp[iU,uC,uD,uE,uF,uG,uH,w2]) rfl
   ·have cy:n.toNat >>> 32 % 256=n.toNat / 4294967296:=by rw[akw]; exact akn (by omega)
    obtain⟨y,aN,aT⟩:=uv (n.toNat / 4294967296) (by omega);have aZ:=r7 (n.toNat / 4294967296);rw[<-aT] at aZ;have bV:IntKind.i64.wrap (y.toNat:Int)=y.toNat:=wrap_i64 (by omega) (by omega);have w2:IntKind.i64.wrap (32+(y.toNat:Int))=((32+y.toNat:Nat) :Int) :=by rw[wrap_i64 (by omega) (by omega)]; omega
    have eM:jJ n.toNat=32+y.toNat:=by unfold jJ; rw[aT]; (repeat' split)<;>first | omega | rfl
    simp[b5,ce,il,ul,uj,um,ad,af,al];refine sG (y:=y) (by rw[cy]; exact aN) ?_;rw[eM];simp[iK,bV,w2];exact aJ (by simp[iU,uC,uD,uE,uF,uG,uH,w2]) rfl
 ·by_cases af:65536<=n.toNat
  ·by_cases al:256<=n.toNat >>> 16
   ·have cy:n.toNat >>> 24 % 256=n.toNat / 16777216:=by rw[akw]; exact akn (by omega)
    obtain⟨y,aN,aT⟩:=uv (n.toNat / 16777216) (by omega);have aZ:=r7 (n.toNat / 16777216);rw[<-aT] at aZ;have bV:IntKind.i64.wrap (y.toNat:Int)=y.toNat:=wrap_i64 (by omega) (by omega);have w2:IntKind.i64.wrap (24+(y.toNat:Int))=((24+y.toNat:Nat) :Int) :=by rw[wrap_i64 (by omega) (by omega)]; omega
    have eM:jJ n.toNat=24+y.toNat:=by unfold jJ; rw[aT]; (repeat' split)<;>first | omega | rfl
    simp[b5,ce,il,ul,uj,um,ad,af,al];refine sG (y:=y) (by rw[cy]; exact aN) ?_;rw[eM];simp[iK,bV,w2];exact aJ (by simp[iU,uC,uD,uE,uF,uG,uH,w2]) rfl
   ·have cy:n.toNat >>> 16 % 256=n.toNat / 65536:=by rw[akw]; exact akn (by omega)
    obtain⟨y,aN,aT⟩:=uv (n.toNat / 65536) (by omega);have aZ:=r7 (n.toNat / 65536);rw[<-aT] at aZ;have bV:IntKind.i64.wrap (y.toNat:Int)=y.toNat:=wrap_i64 (by omega) (by omega);have w2:IntKind.i64.wrap (16+(y.toNat:Int))=((16+y.toNat:Nat) :Int) :=by rw[wrap_i64 (by omega) (by omega)]; omega
    have eM:jJ n.toNat=16+y.toNat:=by unfold jJ; rw[aT]; (repeat' split)<;>first | omega | rfl
    simp[b5,ce,il,ul,uj,um,ad,af,al];refine sG (y:=y) (by rw[cy]; exact aN) ?_;rw[eM];simp[iK,bV,w2];exact aJ (by simp[iU,uC,uD,uE,uF,uG,uH,w2]) rfl
  ·by_cases al:256<=n.toNat
   ·have cy:n.toNat >>> 8 % 256=n.toNat / 256:=by rw[akw]; exact akn (by omega)
    obtain⟨y,aN,aT⟩:=uv (n.toNat / 256) (by omega);have aZ:=r7 (n.toNat / 256);rw[<-aT] at aZ;have bV:IntKind.i64.wrap (y.toNat:Int)=y.toNat:=wrap_i64 (by omega) (by omega);have w2:IntKind.i64.wrap (8+(y.toNat:Int))=((8+y.toNat:Nat) :Int) :=by rw[wrap_i64 (by omega) (by omega)]; omega
    have eM:jJ n.toNat=8+y.toNat:=by unfold jJ; rw[aT]; (repeat' split)<;>first | omega | rfl
    simp[b5,ce,il,ul,uj,um,ad,af,al];refine sG (y:=y) (by rw[cy]; exact aN) ?_;rw[eM];simp[iK,bV,w2];exact aJ (by simp[iU,uC,uD,uE,uF,uG,uH,w2]) rfl
   ·have cy:n.toNat % 256=n.toNat:=akn (by omega);obtain⟨y,aN,aT⟩:=uv (n.toNat) (by omega);have aZ:=r7 (n.toNat);rw[<-aT] at aZ;have bV:IntKind.i64.wrap (y.toNat:Int)=y.toNat:=wrap_i64 (by omega) (by omega);have w2:IntKind.i64.wrap (0+(y.toNat:Int))=((0+y.toNat:Nat) :Int) :=by rw[wrap_i64 (by omega) (by omega)]; omega
    have eM:jJ n.toNat=0+y.toNat:=by unfold jJ; rw[aT]; (repeat' split)<;>first | omega | rfl
    simp[b5,ce,il,ul,uj,um,ad,af,al];refine sG (y:=y) (by rw[cy]; exact aN) ?_;rw[eM];simp[iK,bV,w2];exact aJ (by simp[iU,uC,uD,uE,uF,uG,uH,w2]) rfl
theorem BV (n:Q) (i:Nat) :(n >>> (8*i)).setWidth 8=kU n.toNat i:=by
 apply akk;unfold kU;rw[akq,akJ,aky]
theorem acf (l:ap) (c d:aU) :(l++[c]).set l.length d=l++[d] :=by rw[alc _ _ (akb _)]; simp
def pV (n k i:Nat) :List B:=BitVec.ofNat 8 (247+k) ::(List.replicate (k - i) 0#8++sq n i)
theorem OY (n k i:Nat) (h:i<=k) :(pV n k i).length=k+1:=by simp[pV,Jv]; omega
theorem ZR (n k i:Nat) (h:i<k) :(pV n k i).set (k - i) (kU n i)=pV n k (i+1) :=by
 unfold pV;obtain⟨m,hm⟩:∃ m,k - i=m+1:=⟨k - i - 1,by omega⟩
 rw[hm,amW,show k - (i+1)=m by omega,List.replicate_succ',akU];congr 1;rw[alc _ _ (by simp)];simp[sq]
theorem adH (n:Q) {l:ap} {K:U->ap->Prop} (bj:∀ v j l',bJ 1 l' v j ((dS n.toNat).map b0)->l.length<=l'.length->(∀ b,b<l.length->l'[b]? = l[b]?)->l.length<=j->cw v=false->K v l') :
  dg Tryz.prog GS 111 [dI n] l (c:=⟨K⟩) :=by
 apply bf Tryz.func111 [];have b5:((u n:Int)<=247)<->n.toNat<=247:=by unfold u; omega
 by_cases h:n.toNat<=247
 ·have oH:dS n.toNat=[n.setWidth 8] :=by
   unfold dS; rw[if_pos h]; rfl
  simp[b5,h];refine bj _ l.length _ (pY (n:=1) (a:=dS n.toNat) (by rw[oH]; rfl) (by rw[oH]; simp)) (by simp) (fun b ag=>aj8 ag) (akb _) rfl
 ·have ax:=DU n.toNat
  obtain⟨k,qw⟩:∃ k,kn n.toNat=k:=⟨_,rfl⟩
  have oH:dS n.toNat=pV n.toNat k k:=by unfold dS pV; rw[if_neg h,qw]; simp
  have zZ:=Y1 n.toNat (by omega)
  rw[qw] at zZ ax;obtain⟨L,dO⟩:∃ L,jJ n.toNat=L:=⟨_,rfl⟩
  rw[dO] at zZ;have bV:IntKind.i64.wrap ((L:Int)+7)=((L+7:Nat) :Int) :=by rw[wrap_i64 (by omega) (by omega)]; omega
  have q1:cj .quo .i64 ((L+7:Nat) :Int) .i64 8=some (.int .i64 (k:Int)) :=by rw[Fq _ 8 (by omega) (by omega)]; rw[show (8:Int).toNat=8 from rfl,zZ]
  have w2:IntKind.i64.wrap ((k:Int)+1)=((k+1:Nat) :Int) :=by rw[wrap_i64 (by omega) (by omega)]; omega
  have eM:IntKind.i64.wrap (247+(k:Int))=((247+k:Nat) :Int) :=by rw[wrap_i64 (by omega) (by omega)]; omega
  have dJ:sb 1 1 [.int .u8 0] l (.int .i64 ((k+1:Nat) :Int)) (.int .i64 ((k+1:Nat) :Int))=some (.ar 1 l.length 0 (k+1) (k+1) (k+1),l++[.cells (k+1) ((List.replicate (k+1) 0#8).map bz)]) :=by
   unfold sb;have ay:cF=140737488355328:=rfl;simp only[];rw[if_pos ⟨by omega,by omega,by omega,by rw[ay]; omega⟩,A9];simp
  simp[b5,h];refine aY (Y2 n) rfl ?_;rw[dO];have hr:bi (List.replicate (k+1) (bz 0#8)) 0 [bz (BitVec.ofNat 8 (247+k))]=(pV n.toNat k 0).map bz:=by
   rw[akW,acy,acA]; simp[pV,sq]
  simp[bV,q1,w2,eM,dJ,-Int.natCast_add];refine cm k (fun i ae l1=>ae 0=dI n/\ae 3=.int .i64 k/\ae 4=.ar 1 l.length 0 (k+1) (k+1) (k+1)/\ae 23=.int .i64 k/\ae 24=.int .i64 i/\l1=l++[.cells (k+1) ((pV n.toNat k i).map bz)]) ?_ ?_
  ·rintro i ae l1 aB ⟨cp,aZ,a9,ru,s5,rfl⟩;obtain⟨ae,rfl⟩:=kq cp aZ a9 ru s5;clear cp aZ a9 ru s5;by_cases xw:i<k
   ·have iF:IntKind.i64.wrap ((k:Int) - i)=((k - i:Nat) :Int) :=by rw[wrap_i64 (by omega) (by omega)]; omega
    have jW:IntKind.i64.wrap (8*(i:Int))=((8*i:Nat) :Int) :=by rw[wrap_i64 (by omega) (by omega)]; omega
    have yD:IntKind.i64.wrap ((i:Int)+1)=((i+1:Nat) :Int) :=by rw[wrap_i64 (by omega) (by omega)]; omega
    have o7:cj .shr .u64 (u n) .i64 ((8*i:Nat) :Int)=some (.int .u64 (u (n >>> (8*i)))) :=sO n .i64 (8*i);have p7:=BV n i;have Bt:=nP bz (pV n.toNat k i) (k - i) (kU n.toNat i) (by rw[OY _ _ _ aB]; omega);rw[ZR _ _ _ xw] at Bt;obtain⟨d,bh⟩:∃ d,k - i=d:=⟨_,rfl⟩
    obtain⟨e,ao⟩:∃ e,8*i=e:=⟨_,rfl⟩
    rw[bh] at iF Bt;rw[ao] at jW o7 p7;have zP:d<=k:=by omega
    simp[xw,iF,jW,yD,o7,p7,Bt,zP,-Int.natCast_add,acf];omega
   ·have fW:i=k:=by omega
    subst fW;simp;refine bj _ l.length _ (pY (n:=i+1) (a:=dS n.toNat) (by rw[oH,OY _ _ _ (akb _)]) (by rw[oH]; simp)) (by simp) (fun b ag=>aj8 ag) (akb _) rfl
  ·simp;exact hr
theorem ZM {n:Nat} (h:n<18446744073709551616) :n<256 ^ kn n:=by
 unfold kn; (repeat' split)<;>simp<;>omega
theorem ZN {n k:Nat} (ad:1<=n) (h:k<kn n) :256 ^ k<=n:=by
 have gg:=(DU n).2;have ax:k=0\/k=1\/k=2\/k=3\/k=4\/k=5\/k=6\/k=7:=by omega
 rcases ax with rfl | rfl | rfl | rfl | rfl | rfl | rfl | rfl<;>simp<;>unfold kn at h<;>(repeat' split at h)<;>omega
theorem acp {n k:Nat} (ad:1<=n) (h:n<18446744073709551616) (ax:k<=kn n) :n >>> (8*k)=0<->k=kn n:=by
 have av:2 ^ (8*k)=256 ^ k:=by rw[Nat.pow_mul]
 rw[akw,av,Nat.div_eq_zero_iff];constructor
 ·rintro (af | af)
  ·exact absurd af (by have:0<256 ^ k:=Nat.pow_pos (by decide); omega)
  ·rcases akX k (kn n) with al | al
   ·have:=ZN ad al; omega
   ·omega
 ·rintro rfl;exact .inr (ZM h)
theorem Q8 (n:Nat) :∀ k,sq n k=((List.range k).map (kU n)).reverse
 | 0=>rfl
 | k+1=>by rw[sq,Q8 n k,amd,aks,List.reverse_append]; rfl
def oh (n k:Nat) :List B:=(List.range k).map (kU n)
theorem TZ (n k:Nat) :oh n (k+1)=oh n k++[kU n k] :=by simp[oh,amd]
theorem wW (n k:Nat) :(oh n k).length=k:=by simp[oh]
theorem Ll (n k i:Nat) (h:i<k) :(oh n k)[i]? = some (kU n i) :=by simp[oh,h]
theorem abC (x:Q) :cj .rem .u64 (u x) .u64 256=some (.int .u64 (u (x % 256#64))) :=wG x 256#64 (by decide)
theorem aaF (x:Q) :cj .quo .u64 (u x) .u64 256=some (.int .u64 (u (x / 256#64))) :=IJ x 256#64 (by decide)
theorem Ze (n:Q) (i:Nat) :((n >>> (8*i)) % 256#64).setWidth 8=kU n.toNat i:=by
 rw[<-BV];apply akk;rw[akq,ak9,akq];show _ % 256 % 2 ^ 8=_ % 2 ^ 8;omega
theorem ZK (n:Q) (i:Nat) :(n >>> (8*i)) / 256#64=n >>> (8*(i+1)) :=by
 apply akk;rw[alC,akJ,akJ,akw,akw,show 8*(i+1)=8*i+8 by omega,al0,<-Nat.div_div_eq_div_mul]; rfl
theorem cz.get {l l1:ap} {v:U} {a:List B} {nl:Bool} (h:cz 1 b0 l l1 v a nl) {k:IntKind} {i:Nat} {x:B} (ai:a[i]? = some x) :∃ p cs o,cN (.ar 1) v (.int k (i:Int))=some p/\gW l1 p=some (cs,o)/\cs[o]? = some (bz x) :=by
 obtain⟨j,h,_⟩:=h;obtain⟨p,cs,o,ad,af,al,aG⟩:=h.q.get (k:=k) (i:=i) (e:=b0 x) (by rw[akd,ai]; rfl);refine⟨p,cs,o,ad,af,?_⟩;have:=congrArg (fun l=>l[0]?) aG;simp[List.getElem?_take,akG,b0] at this;exact this
theorem wr (n:Q) {l:ap} {K:U->ap->Prop} (bj:∀ v l',cz 1 b0 l l' v (dS n.toNat) false->K v l') :dg Tryz.prog GS 111 [dI n] l (c:=⟨K⟩) :=
 adH n fun v j l' ad af al aG a6=>bj v l' ⟨j,ad,af,al,.inr aG,a6⟩
structure Se (l:ap) (n:Q) (i:Nat) (ae:a7) (l1:ap) :Prop where
 cp:ae 0=dI (n >>> (8*i))
 x8:∃ v,ae 3=v/\cz 1 b0 l l1 v (oh n.toNat i) (decide (i=0))
structure Sf (l1:ap) (v:U) (n:Q) (k i:Nat) (ae:a7) (bt:ap) :Prop where
 aZ:ae 3=v
 bg:ae 5=.int .i64 ((k:Int) - 1 - i)
 x8:∃ w,ae 4=w/\cz 1 b0 l1 bt w (BitVec.ofNat 8 (247+k) ::((oh n.toNat k).reverse.take i)) false
theorem uf (n:Q) {l:ap} {K:U->ap->Prop} (bj:∀ v l',cz 1 b0 l l' v (dS n.toNat) false->K v l') :
  dg Tryz.prog GS 205 [dI n] l (c:=⟨K⟩) :=by
 apply bf Tryz.func205 [];have b5:((u n:Int)<=247)<->n.toNat<=247:=by unfold u; omega
 by_cases h:n.toNat<=247
 ·have oH:dS n.toNat=[n.setWidth 8] :=by
   unfold dS; rw[if_pos h]; rfl
  simp[b5,h];exact bj _ _ ⟨l.length,pY (n:=1) (a:=dS n.toNat) (by rw[oH]; rfl) (by rw[oH]; simp),by simp,fun b ag=>aj8 ag,.inr (akb _),rfl⟩
 ·have Gt:=n.isLt;have ax:=DU n.toNat
  simp[b5,h];refine cm (kn n.toNat) (Se l n) ?_ ⟨by simp,.aK,by simp,cz.nil⟩;rintro i ae l1 aB ⟨cp,v,aZ,eY⟩;obtain⟨ae,rfl⟩:=o6 cp aZ;clear cp aZ;have aw:=acp (n:=n.toNat) (k:=i) (by omega) (by omega) aB;have pD:((0:Int)<u (n >>> (8*i)))<->¬ i=kn n.toNat:=by
   rw[<-aw]; unfold u; rw[akJ]; generalize n.toNat >>> (8*i)=q; omega
  by_cases xw:i=kn n.toNat
  ·obtain⟨k,qw⟩:∃ k,kn n.toNat=k:=⟨_,rfl⟩
   rw[qw] at xw pD ax;subst xw;have Xc:dS n.toNat=BitVec.ofNat 8 (247+i) ::(oh n.toNat i).reverse:=by
    unfold dS; rw[if_neg h,qw,Q8]; rfl
   have bC:=eY.len;rw[wW] at bC;have bV:IntKind.i64.wrap (247+(i:Int))=((247+i:Nat) :Int) :=by rw[wrap_i64 (by omega) (by omega)]; omega
   have w2:IntKind.i64.wrap ((i:Int) - 1)=(i:Int) - 1:=wrap_i64 (by omega) (by omega);have f1:(dS n.toNat)=BitVec.ofNat 8 (247+i) ::(oh n.toNat i).reverse.take i:=by rw[Xc,aj9 (by rw[List.length_reverse,wW]; omega)]
   simp[pD,bC,bV,w2,-Int.natCast_add];refine cm i (Sf l1 v n i) ?_ ⟨by simp,by simp,_,by simp,⟨l1.length,pY (n:=1) (a:=[BitVec.ofNat 8 (247+i)]) rfl (by simp),by simp,fun b ag=>aj8 ag,.inr (akb _),rfl⟩⟩;rintro j ae bt aj ⟨aZ,bg,w,a9,sf⟩;have gM:=eY.frame sf.le sf.same;obtain⟨ae,rfl⟩:=jT aZ a9 bg;clear aZ a9 bg;by_cases h7:j=i
   ·have iZ:¬ (j:Int)<=(i:Int) - 1:=by omega
    rw[h7,<-f1] at sf;simp[iZ];exact bj _ _ (sf.base eY.le eY.same)
   ·have tf:(j:Int)<=(i:Int) - 1:=by omega
    have tg:((i:Int) - 1 - j)=((i - 1 - j:Nat) :Int) :=by omega
    have eM:IntKind.i64.wrap ((i:Int) - 1 - j - 1)=(i:Int) - 1 - (j+1:Nat) :=by rw[wrap_i64 (by omega) (by omega)]; omega
    obtain⟨p,cs,o,q1,cS,fp⟩:=cz.get gM (k:=.i64) (Ll n.toNat i (i - 1 - j) (by omega));rw[<-tg] at q1;have ai:(oh n.toNat i).reverse[j]? = some (kU n.toNat (i - 1 - j)) :=by
     rw[List.getElem?_reverse (by rw[wW]; omega),wW,Ll _ _ _ (by omega)]
    have C4:=wW n.toNat i;obtain⟨w',l',a2,bb⟩:=cz.push sf (kU n.toNat (i - 1 - j)) (by simp; omega);simp[tf,q1,cS,fp,a2];refine cM.cc ?_;simp[eM];exact⟨by omega,by simp,by simp,w',by simp,by rw[akC,ai]; simpa using bb⟩
  ·have db:=wW n.toNat i;obtain⟨a4,l',a2,bb⟩:=cz.push eY (kU n.toNat i) (by omega);rw[<-TZ] at bb;have a8:cj .quo .u64 (u (n >>> (8*i))) .u64 256=some (dI (n >>> (8*(i+1)))) :=by rw[aaF,ZK]
   simp[pD,xw,abC,a8,Ze,a2];refine cM.cc ?_;simp[a8];exact⟨by omega,by simp,a4,by simp,by simpa using bb⟩
end Op

end Go.ca

namespace Go.ca
open Go Go.Proofs
set_option maxRecDepth 100000
namespace Op
open hN
def lN (n:Int) :Q:=if 0<=n then BitVec.ofNat 64 (2*n.toNat) else BitVec.ofNat 64 (2*(-(n+1)).toNat+1)
theorem adI (n:Int) (ad:-9223372036854775808<=n) (af:n<9223372036854775808) {l:ap} {K:U->ap->Prop} (bj:∀ v l',cz 1 b0 l l' v (dS (lN n).toNat) false->K v l') :
  dg Tryz.prog GS 155 [.int .i64 n] l (c:=⟨K⟩) :=by
 apply bf Tryz.func155 [];have aS:cj .shl .u64 (u (BitVec.ofInt 64 n)) .u64 1=some (.int .u64 (u (BitVec.ofInt 64 n <<< 1))) :=KO _ .u64 1;have bv:cj .shr .i64 n .u64 63=some (.int .i64 (if 0<=n then 0 else -1)) :=by
  show (if (63:Int)<0 then none else some (U.int .i64 (n.fdiv (2 ^ min (63:Int).toNat 64))))=_;rw[if_neg (by omega)];congr 2;have:(2:Int) ^ min (63:Int).toNat 64=9223372036854775808:=by decide
  rw[this,alF _ (by omega)];split<;>omega
 have aw:BitVec.ofInt 64 n <<< 1 ^^^ BitVec.ofInt 64 (if 0<=n then 0 else -1)=lN n:=by
  unfold lN;by_cases h:0<=n
  ·rw[if_pos h,if_pos h];obtain⟨m,rfl⟩:=akF h;rw[ak8,akr];have:BitVec.ofInt 64 (0:Int)=0#64:=rfl;rw[this,BitVec.xor_zero];apply akk;rw[alp,aky,aky,alm];omega
  ·rw[if_neg h,if_neg h];obtain⟨m,hm⟩:=akF (show 0<=-(n+1) by omega);have aD:n=-((m:Int)+1) :=by omega
   have a2:BitVec.ofInt 64 (-1:Int)=BitVec.allOnes 64:=by decide
   have bb:BitVec.ofInt 64 n = ~~~ BitVec.ofNat 64 m:=by
    apply akk;rw[aD,amb,am9,aky];omega
   have g3:m<9223372036854775808:=by omega
   rw[a2,bb,BitVec.xor_allOnes,hm,akr];apply akk;rw[am9,alp,am9,aky,aky,alm];omega
 simp[aS,bv,aw];refine wr _ fun v l' h=>?_
 simp;exact bj v l' h
theorem aa5 (n:Int) (ad:-9223372036854775808<=n) (af:n<9223372036854775808) {l:ap} {K:U->ap->Prop} (bj:∀ v l',cz 1 b0 l l' v (dS (lN n).toNat) false->K v l') :
  dg Tryz.prog GS 236 [.int .i64 n] l (c:=⟨K⟩) :=by
 apply bf Tryz.func236 [];by_cases h:0<=n
 ·obtain⟨m,rfl⟩:=akF h;have aw:2#64*BitVec.ofNat 64 m=lN m:=by
   unfold lN; rw[if_pos h,akr];apply akk;simp only[al3,aky];omega
  simp[aw];refine uf _ fun v l' h=>?_
  simp;exact bj v l' h
 ·have bV:IntKind.i64.wrap (n+1)=n+1:=wrap_i64 (by omega) (by omega);have w2:IntKind.i64.wrap (0 - (n+1))=0 - (n+1) :=wrap_i64 (by omega) (by omega);have w2:IntKind.i64.wrap (-(n+1))=-(n+1) :=wrap_i64 (by omega) (by omega);have aw:2#64*BitVec.ofInt 64 (-(n+1))+1#64=lN n:=by
   obtain⟨m,hm⟩:=akF (show 0<=-(n+1) by omega);unfold lN; rw[if_neg h,hm,akr,ak8];apply akk;simp only[al3,aky,am8];omega
  simp[h,bV,w2,aw];refine uf _ fun v l' h=>?_
  simp;exact bj v l' h
def iB (s:List B) :List B:=dS s.length++s
theorem hI (n:Nat) :(dS n).length<=9:=by
 unfold dS;have:=(DU n).2;split
 ·simp
 ·simp[Jv]; omega
theorem UI (s:List B) :(s.map b0).flatten=s.map bz:=zh s
theorem Lf (l:ap) (s:eN) :dd l 1 (cu s)=some ((s.l.map b0).flatten,s.l.length) :=s1 l 1 b0 s
theorem Ry (s:eN) (ak:s.l.length<=10000) {x:U} {l:ap} (ai:dd l 1 x=some ((s.l.map b0).flatten,s.l.length)) (bC:ch (.ar 1) x=some (.int .i64 s.l.length)) (bY:∀ l',l.length<=l'.length->(∀ b,b<l.length->l'[b]? = l[b]?)->dd l' 1 x=some ((s.l.map b0).flatten,s.l.length))
  {K:U->ap->Prop} (bj:∀ v l',cz 1 b0 l l' v (iB s.l) false->K (.bu [v,.int .i64 0]) l') :dg Tryz.prog GS 112 [x] l (c:=⟨K⟩) :=by
 apply bf Tryz.func112 [];have ad:¬ ((10000:Int)<s.l.length) :=by omega
 have ay:cF=140737488355328:=rfl;simp[bC,ad];refine wr _ fun v l' h=>?_
 have aD:(BitVec.ofNat 64 s.l.length).toNat=s.l.length:=by rw[aky]; exact akn (by omega)
 rw[aD] at h;have jB:=hI s.l.length;obtain⟨a4,bt,a2,bb,_⟩:=h.app (by_:=1) (x:=x) (xs:=s.l) (bY l' h.le h.same) (by simp[b0]) (by omega) (by omega) (by rw[ay]; omega);simp[a2];refine cM.cc ?_;simp;exact bj a4 bt (by simpa [iB] using bb)
theorem P3 (s:eN) (ak:s.l.length<=10000) {x:U} {l:ap} (ai:dd l 1 x=some ((s.l.map b0).flatten,s.l.length)) (bC:ch (.ar 1) x=some (.int .i64 s.l.length)) (bY:∀ l',l.length<=l'.length->(∀ b,b<l.length->l'[b]? = l[b]?)->dd l' 1 x=some ((s.l.map b0).flatten,s.l.length))
  {K:U->ap->Prop} (bj:∀ v l',cz 1 b0 l l' v (iB s.l) false->K v l') :dg Tryz.prog GS 225 [x] l (c:=⟨K⟩) :=by
 apply bf Tryz.func225 [];have ay:cF=140737488355328:=rfl;simp[bC];refine uf _ fun v l' h=>?_
 have aD:(BitVec.ofNat 64 s.l.length).toNat=s.l.length:=by rw[aky]; exact akn (by omega)
 rw[aD] at h;have jB:=hI s.l.length;obtain⟨a4,bt,a2,bb,_⟩:=h.app (by_:=1) (x:=x) (xs:=s.l) (bY l' h.le h.same) (by simp[b0]) (by omega) (by omega) (by rw[ay]; omega);simp[a2];refine cM.cc ?_;simp;exact bj a4 bt (by simpa [iB] using bb)
def aX (i:List B) :List U:=i.map bz
abbrev eE:=cT (List B)
def az (s:eE) :U:=ct 32 aX s
def eh (s:eE) :Prop:=∀ i∈s.l,i.length=32
theorem fU (i:List B) :a1 (aX i)=true:=ln bz (fun _=>rfl) _
theorem cW (s:eE) :(az s).closed=true:=y3 fU s
theorem K7:∀ a b:List B,a.length=b.length->np (a.map fun x=>UInt8.ofNat x.toNat) (b.map fun x=>UInt8.ofNat x.toNat)=b6 a b
 | [],[],_=>rfl
 | [],_::_,h=>by simp at h
 | _::_,[],h=>by simp at h
 | x::a,y::b,h=>by
  have aQ:=K7 a b (by simpa using h);have ai:=x.isLt;have aL:=y.isLt;rw[K6];simp only[akx,np,aQ];have aS:(UInt8.ofNat x.toNat=UInt8.ofNat y.toNat)<->x.toNat=y.toNat:=by
   constructor
   ·intro h;have:=congrArg UInt8.toNat h;simp only[UInt8.toNat_ofNat'] at this;omega
   ·intro h; rw[h]
  have bv:(UInt8.ofNat x.toNat<UInt8.ofNat y.toNat)<->x.toNat<y.toNat:=by
   rw[UInt8.lt_iff_toNat_lt]; simp only[UInt8.toNat_ofNat'];rw[akn (by omega),akn (by omega)]
  by_cases ad:x.toNat=y.toNat
  ·rw[if_pos (aS.2 ad),if_neg (by omega),if_neg (by omega)]
  ·rw[if_neg (fun h=>ad (aS.1 h))];by_cases af:x.toNat<y.toNat
   ·rw[if_pos (bv.2 af),if_pos af]
   ·rw[if_neg (fun h=>af (bv.1 h)),if_neg af,if_pos (by omega)]
@[simp ↓] theorem aik {P:Program} {aE:Operand->U} {l:ap} (f:FuncId) (vn x y:Operand) :bO P aE l (.b6 f vn x y)=(match Dw f (aE vn) with | true=>dr l (cmpL l (aE x) (aE y)) | false=>none) :=id rfl
@[simp ↓] theorem aht (f:FuncId) (vn x y:Operand) (v:U) (l:ap) (K:U->ap->Prop) :eg (.b6 f vn x y) v l K=K v l:=id rfl
@[simp] theorem agJ (f:FuncId) :Dw f (.fn f [] [])=true:=am3 f
theorem KR:∀ a:List B,mN (a.map bz)=some (a.map fun x=>UInt8.ofNat x.toNat)
 | []=>rfl
 | x::a=>by
  simp only[akx,mN,KR a,akg];simp[u]
theorem KS (l:ap) (s:eN) :pe l (cu s)=some (s.l.map fun x=>UInt8.ofNat x.toNat) :=by
 have h:=Lf l s;rw[UI] at h;cases s with
 | none=>simp[pe,ct,dd,mN]
 | some a=>
  unfold pe;simp only[ct];have af:dd l 1 (U.b1 1 (a.map b0))=some (a.map bz,a.length) :=h;rw[af];exact KR a
theorem SF (a b:eN) (h:a.l.length=b.l.length) :bn Tryz.prog GS 104 [cu a,cu b] (.int .i64 (b6 a.l b.l)) :=by
 refine bD Tryz.checked.mixed bx ?_;apply U0 Tryz.func104 [];have ah:cmpL [] (cu a) (cu b)=some (.int .i64 (b6 a.l b.l)) :=by
  unfold cmpL;rw[KS,KS];simp only[K7 _ _ h]
 simp[ah];exact aJ rfl rfl
theorem Jg {n b:Nat} (cA:0<n) :e3 (.arr n 1) (.ptr b 0 n) none none none=some (.ar 1 b 0 n n n) :=by
 have:gp n n none none none=some (0,n,n) :=rfl;simp only[e3,this];rw[if_pos (by omega),if_neg (by omega)];simp
theorem sW (a b:List B) (aC:a.length=32) (ag:b.length=32) :bn Tryz.prog GS 75 [fY a,fY b] (.int .i64 (b6 a b)) :=by
 refine bD Tryz.checked.mixed bx ?_;apply bf Tryz.func75 [];have ak:=Jg (n:=32) (b:=1) (by omega);have Hl:=Jg (n:=32) (b:=0) (by omega);simp[fY,aC,ag,ak,Hl];have ah:=SF (some a) (some b) (by simp[aC,ag]);refine kQ ah ?_ rfl ?_
 ·exact .cons ((pY (j:=0) aC rfl).ug (fun _=>rfl) (some a) rfl rfl) (.cons ((pY (j:=1) ag rfl).ug (fun _=>rfl) (some b) rfl rfl) .nil)
 ·simp;exact aJ rfl rfl
theorem IX (a b:List B) (aC:a.length=32) (ag:b.length=32) :bn Tryz.prog GS 106 [fY a,fY b] (.int .i64 (b6 a b)) :=by
 refine bD Tryz.checked.mixed bx ?_;apply bf Tryz.func106 [];obtain⟨A,dQ⟩:∃ A,A=a.map bz:=⟨_,rfl⟩
 obtain⟨C,F6⟩:∃ C,C=b.map bz:=⟨_,rfl⟩
 have j4:A.length=32:=by rw[dQ,aki,aC]
 have Cp:C.length=32:=by rw[F6,aki,ag]
 unfold fY;rw[<-dQ,<-F6];simp[j4,Cp];refine cm 32 (fun k ae l=>ae 2=.ptr 0 0 32/\ae 3=.ptr 1 0 32/\ae 5=.int .i64 k/\l=[.cells 32 A,.cells 32 C]/\∀ j,j<k->a[j]? = b[j]?) ?_ (by simp);rintro k ae l ax ⟨aT,aZ,bg,rfl,heq⟩;obtain⟨ae,rfl⟩:=jT aT aZ bg;clear aT aZ bg;have vB:=TE k heq (by omega) (by omega);by_cases h:(k:Int)<32
 ·have dR:k<32:=by omega
  have eT:IntKind.i64.wrap ((k:Int)+1)=(k+1:Nat) :=wrap_i64 (by omega) (by omega);obtain⟨x,ai,_⟩:=bF (l:=a) (k:=k) (by omega);obtain⟨y,aL,_⟩:=bF (l:=b) (k:=k) (by omega);have Vc:A[k]? = some (bz x) :=by rw[dQ,akd,ai]; rfl
  have Vh:C[k]? = some (bz y) :=by rw[F6,akd,aL]; rfl
  obtain⟨_,F4⟩:=aj7.1 Vc;obtain⟨_,F7⟩:=aj7.1 Vh;have V0:a.drop k=x::a.drop (k+1) :=by
   obtain⟨ad,af⟩:=aj7.1 ai;rw[ale ad,af]
  have V2:b.drop k=y::b.drop (k+1) :=by
   obtain⟨ad,af⟩:=aj7.1 aL;rw[ale ad,af]
  rw[V0,V2,K6] at vB;have yt:((u x:Int)<u y)<->x.toNat<y.toNat:=by unfold u; omega
  have yu:((u y:Int)<u x)<->y.toNat<x.toNat:=by unfold u; omega
  by_cases b5:x.toNat<y.toNat
  ·rw[if_pos b5] at vB;have BW:x<y:=b5;simp[h,dR,j4,Cp,F4,F7,BW];exact aJ (by rw[<-vB]) rfl
  ·have BW:¬ x<y:=b5;rw[if_neg b5] at vB;by_cases ce:y.toNat<x.toNat
   ·rw[if_pos ce] at vB;have Fu:y<x:=ce;simp[h,dR,j4,Cp,F4,F7,BW,Fu];exact aJ (by rw[<-vB]) rfl
   ·have Fu:¬ y<x:=ce;simp[h,dR,j4,Cp,F4,F7,BW,Fu,eT];intro j aj;by_cases fX:j=k
    ·subst fX;rw[ai,aL];have:x=y:=akk (by omega);rw[this]
    ·exact heq j (by omega)
 ·have eG:k=32:=by omega
  subst eG;have:b6 a b=0:=by
   rw[<-vB,alR (by omega),alR (by omega)]; rfl
  simp;exact aJ (by rw[this]) rfl
end Op

end Go.ca

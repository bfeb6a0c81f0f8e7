/-
  Graphs: an id looked for; the order, one after the other; walked.
-/
import Derived.Test.YtginfboibgolaaaGreatDoorRi
import Derived.Sort.Walk0
set_option linter.unusedVariables false
set_option linter.unusedSimpArgs false
set_option linter.unnecessarySimpa false
namespace Go.bJ
open Go Go.Proofs
set_option maxRecDepth 100000
namespace Op
open eX
theorem Zs (g:bM) (au:hS g) (ay:eB g.ids.l=true) (x:List B) (ag:x.length=32) :bi Tryz.prog GS 231 [c3 g,.aI (aY x)] (.bu [.int .i64 (we g.ids.l x),.bool (decide (x∈g.ids.l))]) :=by
 refine bt Tryz.checked.mixed bp ?_;apply bb Tryz.func231 [];have er:=gC g.ids;have c7:=mr g.ops;have kD:=hX x;have bB:=dk ag;have al:=UZ g.ids au.ids au.li x ag ay;obtain⟨X,dy⟩:∃ X,X=aY x:=⟨_,rfl⟩
 rw[<-dy] at al kD bB ⊢;simp[c3,dB,bB,aqs];refine aU al (by simp[aV,U.closed,er,kD]) ?_;simp;exact aH rfl rfl
def g3 (n:Nat) :List U:=[.int .i64 (n:Int)]
def hG (b:Bool) :List U:=[.bool b]
def i8 {α:Type} (l:List α) :ez α:=match l with | []=>none | x::r=>some (x::r)
theorem kv {α:Type} (l:List α) :(i8 l).l=l:=by cases l<;>rfl
theorem xX {α:Type} (l:List α) :(i8 l).isNone=l.isEmpty:=by cases l<;>rfl
def Ij (l:ez Nat) :U:=cy 1 g3 l
theorem LC {α:Type} (zero:U) (n:Nat) :c4 [zero] n=List.replicate n zero:=by
 rw[Gt]
 induction n with
 | zero=>rfl
 | succ n aJ=>rw[arq,aro,aJ,arq]; rfl
theorem CA {z by_ n:Nat} {k k' : IntKind} {zero:List U} {l:am} (av:zero.length=z) (h1:n<9223372036854775808) (ad:by_*n<=cx) :
  qC z by_ zero l (.int k (n:Int)) (.int k' (n:Int))=some (.ar z l.length 0 n n (n*z),l++[.cells (n*z) (c4 zero n)])/\bG z (l++[.cells (n*z) (c4 zero n)]) (.ar z l.length 0 n n (n*z)) l.length (List.replicate n zero) :=by
 constructor
 ·have aj:(by_:Int)*(n:Int)<=(cx:Int) :=by rw[<-Int.natCast_mul]; omega
  simp only[qC,arG];rw[if_pos ⟨by omega,by omega,by omega,aj⟩]
 ·refine .ar l.length n n (n*z) (c4 zero n) _ (by rw[aqB (aqv _)]; simp) (by rw[zY,av]) (by simp) (fun e ap=>by rw[arL ap]; exact av) (aqv _) (aqv _) ?_;rw[aqs (by rw[zY,av]; omega),Gt]
def pU (n:Nat) (out:List Nat) :List Bool:=(List.range n).map fun i=>decide (i∈out)
theorem D6 {n:Nat} {out:List Nat} {i:Nat} (h:i<n) :(pU n out)[i]? = some (decide (i∈out)) :=by
 unfold pU; rw[aqx,aq1 h]; rfl
theorem A2 (n:Nat) (out:List Nat) :(pU n out).length=n:=by simp[pU]
theorem YC {n:Nat} {out:List Nat} {i:Nat} (h:i<n) :(pU n out).set i true=pU n (out++[i]) :=by
 apply arp;intro j;by_cases ai:j<n
 ·rw[D6 ai,arO];by_cases hx:i=j
  ·subst hx; simp[A2,h]
  ·rw[if_neg hx,D6 ai];simp[Ne.symm hx]
 ·rw[aqJ (by simp[A2]; omega),aqJ (by simp[A2]; omega)]
theorem YB (n:Nat) :pU n []=List.replicate n false:=by
 apply arp;intro j;by_cases ai:j<n
 ·rw[D6 ai]; simp[ai]
 ·rw[aqJ (by simp[A2]; omega),aqJ (by simp; omega)]
theorem one_cell {cs:List U} {o:Nat} {c:U} (h:(cs.drop o).take 1=[c]) :cs[o]? = some c:=by
 have h1:((cs.drop o).take 1)[0]? = some c:=by rw[h]; rfl
 rw[aqY (by omega),aq3] at h1;exact h1
structure Wx (g:bM) (out:List Nat) (v3 v4 v5:U) (rest:am) :Prop where
 fB:∃ lo jL hN,bG 1 (.cells 2 (dB g) ::rest) v3 lo (out.map g3)/\bG 32 (.cells 2 (dB g) ::rest) v4 jL ((out.map (bU g.ids.l)).map aY)/\bG 1 (.cells 2 (dB g) ::rest) v5 hN ((pU g.ops.l.length out).map hG) ∧
  1<=hN/\cq v5=false/\cq v3=out.isEmpty/\cq v4=out.isEmpty/\(out=[]\/(1<=lo/\1<=jL/\lo≠jL/\lo≠hN/\jL≠hN))
set_option maxHeartbeats 4000000 in
theorem agv (g:bM) (au:hS g) (ak:g.ids.l.length=g.ops.l.length) (ai:mc g.ids.l) :bi Tryz.prog GS 125 [c3 g] (Ij (i8 (qG g.ids.l g.ops.l))) :=by
 refine bt Tryz.checked.mixed bp ?_;apply bb Tryz.func125 [[[0],[1],[2],[3],[4],[6],[7],[8],[9],[10],[11],[12],[5,12,11,8]]];have kK:cx=140737488355328:=rfl;have er:=gC g.ids;have c7:=mr g.ops;have dL:cL (.ar 11) (b1 g.ops)=some (.int .i64 g.ops.l.length) :=by simp[b1]
 have bc:=au.cB;obtain⟨fQ,jo⟩:=CA (z:=1) (by_:=1) (n:=g.ops.l.length) (k:=.i64) (k':=.i64) (zero:=[U.bool false]) (l:=[bg.cells 2 (dB g)]) rfl (by omega) (by rw[kK]; omega);simp only[dB,arS,LC (α:=Nat)] at fQ jo;simp[c3,dB,dL,fQ];refine zF (fun m ae l=>∃ (k:Nat) (rest:am),l=.cells 2 (dB g) ::rest/\ae 1=.ptr 0 0 2/\Wx g (ev g.ids.l g.ops.l k) (ae 3) (ae 4) (ae 5) rest ∧
  ((ae 6=.bool true/\(ev g.ids.l g.ops.l k).length=k/\m=g.ops.l.length - k+1)\/(ae 6=.bool false/\iO g.ids.l g.ops.l (ev g.ids.l g.ops.l k)=none/\k<=g.ops.l.length/\m=0))) ?_ (g.ops.l.length+1) _ _ ?_
 ·rintro m ae l ⟨k,rest,rfl,aF,p0,al⟩;obtain⟨v3,aW⟩:∃ v,ae 3=v:=⟨_,rfl⟩
  obtain⟨v4,bd⟩:∃ v,ae 4=v:=⟨_,rfl⟩
  obtain⟨v5,bh⟩:∃ v,ae 5=v:=⟨_,rfl⟩
  rw[aW,bd,bh] at p0;obtain⟨out,kJ⟩:∃ out,out=ev g.ids.l g.ops.l k:=⟨_,rfl⟩
  rw[<-kJ] at p0 al;obtain⟨BT,dN,E9⟩:=xD g.ids.l g.ops.l ak ai k;rw[<-kJ] at BT dN E9;have ds:out.length<=g.ops.l.length:=by
   have:=tF (b:=List.range g.ops.l.length) BT (fun x ag=>aqZ.2 (E9 x ag).1);simpa using this
  rcases al with ⟨cc,hk,rfl⟩ | ⟨cc,eU,gv,rfl⟩
  ·obtain⟨ae,rfl⟩:=lC aF aW bd bh cc;clear aF aW bd bh cc;simp;refine cE g.ops.l.length (fun i ae l=>l=.cells 2 (dB g) ::rest/\ae 1=.ptr 0 0 2/\ae 3=v3/\ae 4=v4/\ae 5=v5/\ae 6=.bool false/\ae 7=.int .i64 i/\∀ j,j<i->su g.ids.l g.ops.l out j=false) ?_ (by simp);rintro i ae l ax ⟨rfl,aF,aW,bd,bh,cc,eR,al⟩;obtain⟨ae,rfl⟩:=Af aF aW bd bh cc eR;clear aF aW bd bh cc eR;by_cases fl:i<g.ops.l.length
   ·obtain⟨o,aq,ef⟩:=bW fl;have aR:IntKind.i64.wrap ((i:Int)+1)=((i+1:Nat) :Int) :=by rw[IntKind.wrap_i64]; omega
    have cg:cv (.ar 11) (b1 g.ops) (.int .i64 (i:Int))=some (.b5 (bj o) 0) :=by simp[b1,aq]
    obtain⟨lo,jL,hN,pq,rK,vp,aZ,xv,qE,rI,br⟩:=p0;obtain⟨TS,akX,qN,a7,bl,a3,a4⟩:=vp.q.get (k:=.i64) (i:=i) (e:=hG (decide (i∈out))) (by rw[aqx,D6 fl]; rfl);have a5:=one_cell (c:=.bool (decide (i∈out))) (by simpa [hG] using a4);have iF:=rK.mT (enc:=aY) (xs:=out.map (bU g.ids.l)) (fun x=>hX x) (i8 (out.map (bU g.ids.l))) (by rw[rI,xX]; simp) (kv _);have acz:g7 (i8 (out.map (bU g.ids.l))) :=fun x ag=>by
     rw[kv] at ag;obtain⟨t,aP,rfl⟩:=aqR.1 ag;obtain⟨y,aG,dg⟩:=bW (l:=g.ids.l) (k:=t) (by have:=(E9 t aP).1; omega);rw[gG aG]; exact au.ids y dg
    have eT:=Uk (i8 (out.map (bU g.ids.l))) acz (by rw[kv]; simp; omega) o.bo (au.ops o ef).ids (au.ops o ef).len;rw[kv] at eT;have BA:=gC o.bo;have Bw:su g.ids.l g.ops.l out i=(decide (i∉out)&&sn (out.map (bU g.ids.l)) o.bo.l) :=by unfold su; rw[xJ aq]
    simp only[dB] at bl pq rK vp iF;by_cases Fe:i∈out
    ·simp[dB,dL,fl,a7,bl,a5,Fe,aR];intro j ai;by_cases ni:j=i
     ·subst ni; rw[Bw]; simp[Fe]
     ·exact al j (by omega)
    ·simp[dB,dL,fl,a7,bl,a5,Fe,aR,cg,bj];refine il eT (.cons iF (.cons (.same _ BA) .nil)) rfl ?_;by_cases h2:sn (out.map (bU g.ids.l)) o.bo.l=true
     ·rw[h2] at Bw;obtain⟨y,aG,dg⟩:=bW (l:=g.ids.l) (k:=i) (by omega);have BL:cv (.ar 32) (aT g.ids) (.int .i64 (i:Int))=some (.b5 (aY y) 0) :=by simp[aT,aG]
      have df:=dk (au.ids y dg);obtain⟨Y,gQ⟩:∃ Y,Y=aY y:=⟨_,rfl⟩
      rw[<-gQ] at BL df;have ac5:bn (rep 32 (.int .u8 0)) 0 Y=Y:=eC (by rw[df]; rfl);obtain⟨l1,gl⟩:∃ l1,l1=bg.cells 2 [aT g.ids,b1 g.ops] ::(rest++[bg.cells 1 [U.int IntKind.i64 (i:Int)],bg.cells 32 Y]) :=⟨_,rfl⟩
      have JA:l1.length=rest.length+3:=by rw[gl]; simp
      have vj:bG 1 l1 v3 lo (out.map g3) :=by rw[gl]; exact pq.more _
      have KS:bG 32 l1 v4 jL ((out.map (bU g.ids.l)).map aY) :=by rw[gl]; exact rK.more _
      have aeM:bG 1 l1 v5 hN ((pU g.ops.l.length out).map hG) :=by rw[gl]; exact vp.more _
      have s1:out=[]->v3=.aX/\v4=.aX:=fun h=>by rw[h] at qE rI; exact⟨iK.1 qE,iK.1 rI⟩
      have aor:hN<rest.length+1:=by
       rcases vp.lt with h | h
       ·rw[h] at xv; cases xv
       ·simpa using h
      obtain⟨lo,vj,q1,fZ,pt,Uf⟩:∃ lo,bG 1 l1 v3 lo (out.map g3)/\1<=lo/\lo≠hN/\(out=[]\/lo≠jL)/\(lo<rest.length+1\/l1.length<=lo) :=by
       by_cases h:out=[]
       ·have ao:=(s1 h).1;rw[ao,h];exact⟨l1.length,.nil _,by omega,by omega,.inl rfl,.inr (aqv _)⟩
       ·obtain⟨h1,ad,aj,aC,aZ⟩:=br.resolve_left h;refine⟨lo,vj,h1,aC,.inr aj,.inl ?_⟩;rcases pq.lt with gk | gk
        ·rw[gk] at qE;cases out with
         | nil=>exact absurd rfl h
         | cons=>cases qE
        ·simpa using gk
      obtain⟨VH,u7,bZ,aF,aQ,aW,bd,bh,cc⟩:=nK (by_:=8) vj (x:=.ar 1 (rest.length+1) 0 1 1 1) (xs:=[g3 i]) (by rw[gl]; simp[c8,g3]) (by simp[g3]) (by omega) (by omega) (by rw[kK]; simp; omega);obtain⟨fc,rfl⟩:∃ fc,bZ=bg.cells 2 [aT g.ids,b1 g.ops] ::fc:=CI (by rw[bd 0 (by omega) (by omega),gl]; rfl);have Bq:(bg.cells 2 [aT g.ids,b1 g.ops] ::fc)[rest.length+2]? = some (.cells 32 Y) :=by rw[bd (rest.length+2) (by omega) (by omega),gl]; simp
      have fI:(bg.cells 2 [aT g.ids,b1 g.ops] ::fc)[rest.length+1]? = some (.cells 1 [.int .i64 (i:Int)]) :=by rw[bd (rest.length+1) (by omega) (by omega),gl]; simp
      have g6:=aeM.frame (l':=bg.cells 2 [aT g.ids,b1 g.ops] ::fc) (fun h=>bd hN h (Ne.symm fZ));rw[gl] at aF;simp[h2,BL,df,ac5,aqs,aF];refine dq.cr ?_;simp;have QR:fc[rest.length+1]? = some (.cells 32 Y) :=by simpa using Bq
      refine⟨⟨QR,by omega,aqs (by omega)⟩,?_⟩;have Sq:VH≠.aX:=fun h=>by have:=(cc.1 h).2; cases this
      have amz:u7<fc.length+1:=by have:=aQ.lt.resolve_left Sq; simpa using this
      have Ju:1<=u7/\u7≠hN:=by rcases bh with h | h<;>omega
      obtain⟨jL,KS,t1,t2,t3,t4⟩:∃ jL,bG 32 (bg.cells 2 [aT g.ids,b1 g.ops] ::fc) v4 jL ((out.map (bU g.ids.l)).map aY)/\1<=jL/\jL≠hN/\jL≠u7/\(jL<fc.length+1\/fc.length+1<=jL) :=by
       by_cases h:out=[]
       ·have ao:=(s1 h).2;rw[ao,h];simp at aW;exact⟨fc.length+1,.nil _,by omega,by omega,by omega,.inr (aqv _)⟩
       ·obtain⟨h1,ad,aj,aC,aZ⟩:=br.resolve_left h;have bx:jL<rest.length+1:=by
         rcases rK.lt with gk | gk
         ·rw[gk] at rI;cases out with
          | nil=>exact absurd rfl h
          | cons=>cases rI
         ·simpa using gk
        have de:=pt.resolve_left h;refine⟨jL,KS.frame (fun h=>bd jL h (Ne.symm de)),ad,aZ,by rcases bh with h | h<;>omega,.inl (by simp at aW; omega)⟩
      obtain⟨VI,u9,dQ,f1,f2,f3,f4,f5,f6⟩:=nK (by_:=32) KS (x:=.ar 32 (rest.length+1+1) 0 1 1 32) (xs:=[Y]) (by simp[c8,df,QR,aqs]) (by simp[df]) (by omega) (by omega) (by rw[kK]; simp; omega);obtain⟨tx,rfl⟩:∃ tx,dQ=bg.cells 2 [aT g.ids,b1 g.ops] ::tx:=CI (by rw[f4 0 (by simp) (by omega)]; rfl);have Sr:VI≠.aX:=fun h=>by have:=(f6.1 h).2; cases this
      have amA:u9<tx.length+1:=by have:=f2.lt.resolve_left Sr; simpa using this
      have dT:=aQ.frame (l':=bg.cells 2 [aT g.ids,b1 g.ops] ::tx) (fun h=>f4 u7 h (Ne.symm t3));have r6:=g6.frame (l':=bg.cells 2 [aT g.ids,b1 g.ops] ::tx) (fun h=>f4 hN h (Ne.symm t2));obtain⟨p,oi,tL,tM,VA,Mw,Ae⟩:=Ge (k:=i) (x:=true) (X:=.bool true) (enc:=hG) rfl r6 (fun _ _=>rfl) (by rw[A2]; exact fl) rfl;simp[f1];refine dq.cr ?_;simp[tL,tM];have Io:u9=jL\/fc.length+1<=u9:=by simpa using f5
      have alV:rest.length+3<=fc.length+1:=by rw[JA] at aW; simpa using aW
      have l8:1<=u9:=by rcases Io with h | h<;>omega
      have hQ:u9≠hN:=by rcases Io with h | h<;>omega
      have z3:u7≠u9:=by rcases Io with h | h<;>omega
      obtain⟨xK,rfl⟩:∃ xK,oi=bg.cells 2 [aT g.ids,b1 g.ops] ::xK:=CI (by rw[Ae 0 (by omega)]; rfl);have lS:iO g.ids.l g.ops.l out=some i:=afp fl (by rw[Bw]; simp[Fe]) al;have uO:ev g.ids.l g.ops.l (k+1)=out++[i] :=by rw[xF (by rw[<-kJ]; exact lS),<-kJ]
      have aL:k<g.ops.l.length:=by
       have gk:=(xD g.ids.l g.ops.l ak ai (k+1)).1;rw[uO] at gk;have:=tF (b:=List.range g.ops.l.length) gk (fun x ag=>aqZ.2 (by
        rw[arz,aq6] at ag;rcases ag with ag | rfl
        ·exact (E9 x ag).1
        ·exact fl))
       simp at this; omega
      have dJ:(out++[i]).map g3=out.map g3++[g3 i] :=by simp
      have kB:((out++[i]).map (bU g.ids.l)).map aY=(out.map (bU g.ids.l)).map aY++[Y] :=by
       have abN:bU g.ids.l i=y:=gG aG;rw[aqV,aqV,List.map_singleton,List.map_singleton,abN,gQ]
      refine⟨g.ops.l.length - (k+1)+1,by omega,k+1,xK,rfl,?_,by rw[uO]; simp[hk],rfl⟩;rw[uO];refine⟨⟨u7,u9,hN,?_,?_,?_,aZ,xv,?_,?_,.inr ⟨Ju.1,l8,z3,Ju.2,hQ⟩⟩⟩
      ·rw[dJ]; exact dT.frame (fun h=>Ae u7 Ju.2)
      ·rw[kB]; exact f2.frame (fun h=>Ae u9 hQ)
      ·rw[<-YC fl]; exact VA
      ·cases ao:cq VH with
       | true=>exact absurd (iK.1 ao) Sq
       | false=>simp
      ·cases ao:cq VI with
       | true=>exact absurd (iK.1 ao) Sr
       | false=>simp
     ·rw[asQ] at h2;rw[h2] at Bw;simp[h2,fl,aR];refine⟨rfl,fun j ai=>?_⟩;by_cases ni:j=i
      ·subst ni; rw[Bw]; simp
      ·exact al j (by omega)
   ·have amy:i=g.ops.l.length:=by omega
    simp[dB,dL,fl];have eU:iO g.ids.l g.ops.l out=none:=afq fun j ai=>al j (by omega)
    refine⟨0,by omega,k,by rw[<-kJ]; exact p0,by rw[<-kJ]; exact eU,by omega,rfl⟩
  ·obtain⟨ae,rfl⟩:=lC aF aW bd bh cc;clear aF aW bd bh cc;simp;obtain⟨lo,jL,hN,pq,rK,vp,aZ,xv,qE,rI,br⟩:=p0;have b4:qG g.ids.l g.ops.l=out:=by
    unfold qG;have:=Lc (k:=k) (by rw[<-kJ]; exact eU) (g.ops.l.length - k);rw[show k+(g.ops.l.length - k)=g.ops.l.length by omega,<-kJ] at this;exact this
   rw[b4];exact pq.q.xO (fun x=>rfl) (i8 out) (by rw[qE,xX]) (kv _)
 ·refine⟨0,_,rfl,by simp,?_,.inl ⟨by simp,rfl,rfl⟩⟩;simp;refine⟨⟨0,0,1,.nil 0,.nil 0,?_,by omega,rfl,rfl,rfl,.inl rfl⟩⟩;show bG _ _ _ _ ((pU g.ops.l.length []).map hG);have:(pU g.ops.l.length []).map hG=List.replicate g.ops.l.length [U.bool false] :=by rw[YB,atd]; rfl
  rw[this];exact jo
def CJ (ids:List (List B)) (ops:List bA) :Bool:=decide (∀ o∈ops,sn ids o.bo.l=true)
def pw (ids:List (List B)) (ops:List bA) :Int:=if eB ids=true then (if CJ ids ops=true then (if (qG ids ops).length=ops.length then 0 else 36) else 40) else 32
theorem agy (g:bM) (au:hS g) (ak:g.ids.l.length=g.ops.l.length) :bi Tryz.prog GS 82 [c3 g] (.int .i64 (pw g.ids.l g.ops.l)) :=by
 refine bt Tryz.checked.mixed bp ?_;apply bb Tryz.func82 [[],[[0],[3],[4],[5],[1,4],[2]]];have er:=gC g.ids;have c7:=mr g.ops;have nX:=DY g;have dL:cL (.ar 11) (b1 g.ops)=some (.int .i64 g.ops.l.length) :=by simp[b1]
 have bc:=au.cB;have Ft:=Uq g.ids au.ids au.li;simp[c3,dB,dL];refine aU Ft (by simp[aV,er]) ?_;by_cases ay:eB g.ids.l=true
 ·have ai:=u4 ay;have mJ:=agv g au ak ai;unfold c3 dB at mJ nX;simp[ay];refine cE g.ops.l.length (fun k ae l=>l=[.cells 2 [aT g.ids,b1 g.ops]]/\ae 1=.ptr 0 0 2/\ae 3=.int .i64 k/\∀ (j:Nat) (o:bA),j<k->g.ops.l[j]? = some o->sn g.ids.l o.bo.l=true) ?_ (by simp);rintro k ae l hk ⟨rfl,aF,aW,al⟩;obtain⟨ae,rfl⟩:=nA aF aW;clear aF aW;by_cases cI:k<g.ops.l.length
  ·obtain⟨o,aq,ef⟩:=bW cI;have aR:IntKind.i64.wrap ((k:Int)+1)=((k+1:Nat) :Int) :=by rw[IntKind.wrap_i64]; omega
   have cg:cv (.ar 11) (b1 g.ops) (.int .i64 (k:Int))=some (.b5 (bj o) 0) :=by simp[b1,aq]
   have eT:=Uk g.ids au.ids au.li o.bo (au.ops o ef).ids (au.ops o ef).len;have BA:=gC o.bo;simp[dL,cI,cg,bj];refine aU eT (by simp[aV,er,BA]) ?_;by_cases h2:sn g.ids.l o.bo.l=true
   ·simp[h2,cI,aR];intro j cW e4 dM;by_cases h5:j=k
    ·subst h5; rw[aq] at dM; obtain rfl:=Option.some.inj dM; exact h2
    ·exact al j cW (by omega) dM
   ·rw[asQ] at h2;simp[h2];refine aH (congrArg (U.int .i64) ?_) rfl;have eU:¬ CJ g.ids.l g.ops.l=true:=fun h=>by
     have:=of_decide_eq_true h o ef;rw[h2] at this; cases this
    unfold pw;rw[if_pos ay,if_neg eU]
  ·have n2:k=g.ops.l.length:=by omega
   have hL:CJ g.ids.l g.ops.l=true:=decide_eq_true fun o ef=>by
    obtain⟨j,e4⟩:=aqU.1 ef;exact al j o (by rw[n2]; exact (aqr.1 e4).1) e4
   have eu:(qG g.ids.l g.ops.l).length<=g.ops.l.length:=(xD g.ids.l g.ops.l ak ai _).2.1;have qd:cL (.ar 1) (Ij (i8 (qG g.ids.l g.ops.l)))=some (.int .i64 (qG g.ids.l g.ops.l).length) :=by unfold Ij; rw[nt,kv]
   simp[dL,cI];refine aU mJ (by simp[aV,nX]) ?_;by_cases aL:(qG g.ids.l g.ops.l).length<g.ops.l.length
   ·simp[dL,qd,aL];refine aH (congrArg (U.int .i64) ?_) rfl;unfold pw;rw[if_pos ay,if_pos hL,if_neg (by omega)]
   ·simp[dL,qd,aL];refine aH (congrArg (U.int .i64) ?_) rfl;unfold pw;rw[if_pos ay,if_pos hL,if_pos (by omega)]
 ·rw[asQ] at ay;simp[ay];refine aH (congrArg (U.int .i64) ?_) rfl;unfold pw;rw[ay]; rfl
def nS (g:bM) (k:Nat) :Bool:=match g.ops.l[k]?,g.ids.l[k]? with
 | some o,some x=>decide (pD o=0)&&decide (lm o=x)
 | _,_=>true
def Et (g:bM) :Bool:=decide (∀ k,k<g.ops.l.length->nS g k=true)
theorem yO (g:bM) :Et g=true<->∀ k,k<g.ops.l.length->nS g k=true:=by unfold Et; rw[decide_eq_true_eq]
def fv (g:bM) :Int:=if 60<g.ops.l.length then 4 else if g.ids.l.length=g.ops.l.length then (if Et g=true then pw g.ids.l g.ops.l else 8) else 8
theorem Eu {g:bM} {k:Nat} {o:bA} {x:List B} (aq:g.ops.l[k]? = some o) (ag:g.ids.l[k]? = some x) :nS g k=(decide (pD o=0)&&decide (lm o=x)) :=by
 unfold nS; rw[aq,ag]
theorem Dj {o:bA} (h:pD o=0) :fY o=0:=by
 unfold pD at h;by_cases aE:fY o=0
 ·exact aE
 ·rw[if_neg aE] at h; exact h
theorem Kh (o:bA) :(lm o).length=32:=by
 unfold lm;split
 ·exact vH _
 ·simp
set_option maxHeartbeats 4000000 in
theorem Up (g:bM) (au:hS g) :bi Tryz.prog GS 40 [c3 g] (.int .i64 (fv g)) :=by
 refine bt Tryz.checked.mixed bp ?_;apply bb Tryz.func40 [[[0],[1],[2],[3],[4],[5],[6],[7],[8],[9],[10],[11],[12],[14],[15],[16],[17],[18],[13,18,15]]];have er:=gC g.ids;have c7:=mr g.ops;have nX:=DY g;have dL:cL (.ar 11) (b1 g.ops)=some (.int .i64 g.ops.l.length) :=by simp[b1]
 have hz:cL (.ar 32) (aT g.ids)=some (.int .i64 g.ids.l.length) :=by simp[aT]
 have bc:=au.cB;by_cases pZ:60<(g.ops.l.length:Int)
 ·simp[c3,dB,dL,pZ];refine aH (congrArg (U.int .i64) ?_) rfl;unfold fv; rw[if_pos (by omega)]
 by_cases ak:g.ids.l.length=g.ops.l.length
 ·have od:=agy g au ak;unfold c3 dB at od nX;have cN:(g.ids.l.length:Int)=(g.ops.l.length:Int) :=by omega
  simp[c3,dB,dL,hz,pZ,cN];refine cE g.ops.l.length (fun k ae l=>l=[.cells 2 [aT g.ids,b1 g.ops]]/\ae 1=.ptr 0 0 2/\ae 3=.int .i64 k/\∀ j,j<k->nS g j=true) ?_ (by simp);rintro k ae l hk ⟨rfl,aF,aW,al⟩;obtain⟨ae,rfl⟩:=nA aF aW;clear aF aW;by_cases cI:k<g.ops.l.length
  ·obtain⟨o,aq,ef⟩:=bW cI;obtain⟨x,ag,dm⟩:=bW (l:=g.ids.l) (k:=k) (by omega);have fX:=Eu aq ag;have aR:IntKind.i64.wrap ((k:Int)+1)=((k+1:Nat) :Int) :=by rw[IntKind.wrap_i64]; omega
   have cg:cv (.ar 11) (b1 g.ops) (.int .i64 (k:Int))=some (.b5 (bj o) 0) :=by simp[b1,aq]
   have wR:cv (.ar 32) (aT g.ids) (.int .i64 (k:Int))=some (.b5 (aY x) 0) :=by simp[aT,ag]
   have ao:=agD o (au.ops o ef);have p6:=pR o;have bB:=dk (au.ids x dm);have ds:(bj o).length=11:=rfl;have p2:¬ nS g k=true->fv g=8:=fun h=>by
    unfold fv;rw[if_neg (by omega),if_pos ak,if_neg fun aM=>h ((yO g).1 aM k cI)]
   by_cases nn:pD o=0
   ·have aE:=Dj nn;have s5:=agt o (au.ops o ef) (by have:=xC aE; omega);have hv:lm o=ia (hO o) :=by unfold lm; rw[if_pos aE]
    rw[<-hv] at s5;have heq:=FE (Kh o) (au.ids x dm);change bi Tryz.prog GS 30 [.aI (bj o)] (.aI (aY (lm o))) at s5;obtain⟨I,p0⟩:∃ I,I=aY (lm o) :=⟨_,rfl⟩
    rw[<-p0] at s5 heq;rw[nn] at ao;obtain⟨O,fh⟩:∃ O,O=bj o:=⟨_,rfl⟩
    obtain⟨X,dy⟩:∃ X,X=aY x:=⟨_,rfl⟩
    rw[<-fh] at cg ao s5 p6 ds;rw[<-dy] at wR bB heq;simp[dL,cI,cg,ds,aqs];refine aU ao (by simp[aV,U.closed,p6]) ?_;simp[ds,wR,bB,cg,aqs];refine aU s5 (by simp[aV,U.closed,p6]) ?_;by_cases fm:lm o=x
    ·simp[heq,fm,cI,aR,bB,aqs];intro j ai;by_cases h5:j=k
     ·subst h5; rw[fX]; simp[nn,fm]
     ·exact al j (by omega)
    ·have af:¬ nS g k=true:=fun h=>by rw[fX] at h; simp[fm] at h
     simp[heq,fm,bB,aqs];exact aH (congrArg (U.int .i64) (p2 af).symm) rfl
   ·have af:¬ nS g k=true:=fun h=>by rw[fX] at h; simp[nn] at h
    simp[dL,cI,cg,ds,aqs];refine aU ao (by simp[aV,U.closed,p6]) ?_;simp[nn];exact aH (congrArg (U.int .i64) (p2 af).symm) rfl
  ·have n2:k=g.ops.l.length:=by omega
   simp[dL,cI];refine aU od (by simp[aV,nX]) ?_;simp;refine aH (congrArg (U.int .i64) ?_) rfl;unfold fv;rw[if_neg (by omega),if_pos ak,if_pos ((yO g).2 fun j ai=>al j (by omega))]
 ·have cN:¬ (g.ids.l.length:Int)=(g.ops.l.length:Int) :=by omega
  simp[c3,dB,dL,hz,pZ,cN];refine aH (congrArg (U.int .i64) ?_) rfl;unfold fv; rw[if_neg (by omega),if_neg ak]
def n1 (ids:List (List B)) (D:List Nat) (p:List B) :Nat:=(D.map fun a=>if p == bU ids a then 1 else 0).sum
def l4 (ids:List (List B)) (D:List Nat) (L:List (List B)) :Nat:=(D.map fun a=>L.count (bU ids a)).sum
theorem aih (ids:List (List B)) (D:List Nat) :l4 ids D []=0:=by
 unfold l4
 induction D with
 | nil=>rfl
 | cons a D aJ=>rw[aqP,ash,aJ]; rfl
theorem Vj (ids:List (List B)) (p:List B) (L:List (List B)) :∀ D,l4 ids D (p::L)=l4 ids D L+n1 ids D p
 | []=>rfl
 | a::D=>by
  have aJ:=Vj ids p L D;unfold l4 n1 at aJ ⊢;rw[aqP,ash,aqP,ash,aqP,ash,aJ,List.count_cons];omega
theorem Md (ids:List (List B)) (D:List Nat) (a:Nat) (L:List (List B)) :l4 ids (D++[a]) L=l4 ids D L+L.count (bU ids a) :=by
 unfold l4; rw[aqV,List.sum_append]; simp
theorem Nx {ids:List (List B)} (ai:mc ids) {i j:Nat} (ax:i<ids.length) (eN:j<ids.length) (h:bU ids i=bU ids j) :i=j:=by
 obtain⟨x,ag,_⟩:=bW ax;obtain⟨y,aG,_⟩:=bW eN;rw[gG ag,gG aG] at h;subst h;exact ai i j x ag aG
theorem Ry {ids:List (List B)} {p:List B}:∀ {D:List Nat},(∀ a∈D,bU ids a≠p)->n1 ids D p=0
 | [],_=>rfl
 | a::D,h=>by
  have aJ:=Ry (ids:=ids) (p:=p) (D:=D) fun b af=>h b (by simp[af])
  have az:(p == bU ids a)=false:=by rw[beq_eq_false_iff_ne]; exact Ne.symm (h a (by simp))
  unfold n1 at aJ ⊢;rw[aqP,ash,aJ,az]; rfl
theorem Rx {ids:List (List B)} (ai:mc ids) {p:List B}:∀ {D:List Nat},D.Nodup->(∀ a∈D,a<ids.length)->n1 ids D p<=1/\(n1 ids D p=1<->∃ a∈D,bU ids a=p)
 | [],_,_=>⟨arE _,Iff.intro (fun h=>(by cases h)) (fun ⟨a,az,_⟩=>(by cases az))⟩
 | a::D,aD,af=>by
  rw[aty] at aD;obtain⟨cU,eA⟩:=Rx (p:=p) ai aD.2 (fun b bH=>af b (by simp[bH]));by_cases h:bU ids a=p
  ·have av:n1 ids D p=0:=Ry fun b QZ aaX=>aD.1 (by rw[Nx ai (af a (by simp)) (af b (by simp[QZ])) (h.trans aaX.symm)]; exact QZ)
   have az:(p == bU ids a)=true:=by rw[h]; simp
   have e:n1 ids (a::D) p=1:=by
    unfold n1 at av ⊢;rw[aqP,ash,av,az]; rfl
   rw[e];exact⟨aqv _,fun _=>⟨a,by simp,h⟩,fun _=>rfl⟩
  ·have az:(p == bU ids a)=false:=by rw[beq_eq_false_iff_ne]; exact Ne.symm h
   have e:n1 ids (a::D) p=n1 ids D p:=by
    unfold n1;rw[aqP,ash,az]; simp
   rw[e];refine⟨cU,eA.trans ⟨fun ⟨b,gE,fI⟩=>⟨b,by simp[gE],fI⟩,fun ⟨b,gE,fI⟩=>?_⟩⟩;rw[arI] at gE;rcases gE with rfl | gE
   ·exact absurd fI h
   ·exact⟨b,gE,fI⟩
theorem Me {ids:List (List B)} (ai:mc ids) {D:List Nat} (aD:D.Nodup) (af:∀ a∈D,a<ids.length) :∀ L:List (List B),l4 ids D L<=L.length/\(l4 ids D L=L.length<->∀ p∈L,∃ a∈D,bU ids a=p)
 | []=>by rw[aih]; exact⟨aqv _,Iff.intro (fun _ p aB=>by cases aB) (fun _=>rfl)⟩
 | p::L=>by
  obtain⟨cU,eA⟩:=Me ai aD af L;obtain⟨h1,ad⟩:=Rx (p:=p) ai aD af;rw[Vj,aqH];refine⟨by omega,fun h=>?_,fun h=>?_⟩
  ·have aR:l4 ids D L=L.length:=by omega
   have bI:n1 ids D p=1:=by omega
   intro q bm;rw[arI] at bm;rcases bm with rfl | bm
   ·exact ad.1 bI
   ·exact eA.1 aR q bm
  ·have aR:=eA.2 fun q bm=>h q (by simp[bm])
   have bI:=ad.2 (h p (by simp));omega
structure Ha (ids:List (List B)) (ops:List bA) (cb:List (List Nat)) :Prop where
 len:cb.length=ops.length
 cnt:∀ (a:Nat) (row:List Nat),cb[a]? = some row->∀ k,k<ops.length->row.count k=(dX ops k).count (bU ids a)
 lt:∀ (a:Nat) (row:List Nat),cb[a]? = some row->∀ k∈row,k<ops.length
structure qW (ids:List (List B)) (ops:List bA) (row:List Nat) (d j:Nat) (R:List Nat) (W:List Int) :Prop where
 po:R.Nodup
 nR:∀ k∈R,k<ops.length/\pI ids ops k
 dl:d<=R.length
 wl:W.length=ops.length
 w:∀ k,k<ops.length->W[k]? = some (((dX ops k).length:Int) - l4 ids (R.take d) (dX ops k) - (row.take j).count k)
 r:∀ k,k<ops.length->(k∈R<->W[k]? = some 0)
theorem aei {ids:List (List B)} {ops:List bA} (ak:ids.length=ops.length) (ai:mc ids) {cb:List (List Nat)} (af:Ha ids ops cb) {a:Nat} {row:List Nat} {d j:Nat} {R:List Nat} {W:List Int}
  (h:qW ids ops row d j R W) (az:R[d]? = some a) (cj:cb[a]? = some row) {k:Nat} (hk:row[j]? = some k) :
  ∃ x:Int,W[k]? = some x/\1<=x/\x<=(dX ops k).length/\qW ids ops row d (j+1) (if x - 1=0 then R++[k] else R) (W.set k (x - 1)) :=by
 have gv:=af.lt a row cj k (aqI hk);have EZ:=af.cnt a row cj k gv;have wK:=(aqr.1 az).1;have h7:R.take (d+1)=R.take d++[a] :=by rw[aqN,az]; rfl
 have acj:(R.take (d+1)).Nodup:=List.Sublist.nodup (List.take_sublist _ _) h.po;have pa:∀ b∈R.take (d+1),b<ids.length:=fun b bH=>by have:=(h.nR b (ard bH)).1; omega
 obtain⟨cQ,g8⟩:=Me ai acj pa (dX ops k);rw[h7,Md,<-EZ] at cQ;have ng:(row.take (j+1)).count k=(row.take j).count k+1:=by
  rw[aqN,hk,asr]; simp
 have iY:(row.take (j+1)).count k<=row.count k:=List.Sublist.count_le _ (List.take_sublist _ _);have hw:=h.w k gv;obtain⟨x,ag⟩:∃ x:Int,x=((dX ops k).length:Int) - l4 ids (R.take d) (dX ops k) - (row.take j).count k:=⟨_,rfl⟩
 rw[<-ag] at hw;have zt:1<=x:=by omega
 have RF:k∉R:=fun hm=>by
  have:=(h.r k gv).1 hm;rw[hw] at this;have:=Option.some.inj this;omega
 refine⟨x,hw,zt,by omega,?_⟩;have RG:k<W.length:=by rw[h.wl]; exact gv
 have B7:(if x - 1=0 then R++[k] else R).take d=R.take d:=by
  split
  ·rw[aqT (by omega)]
  ·rfl
 have s4:x - 1=0->pI ids ops k:=fun aE=>by
  have heq:l4 ids (R.take (d+1)) (dX ops k)=(dX ops k).length:=by rw[h7,Md,<-EZ]; omega
  have eT:=g8.1 heq;have eM:∀ t,t<ids.length->ids[t]? = some (bU ids t) :=fun t aP=>by
   obtain⟨y,aG,_⟩:=bW (l:=ids) aP;rw[aG,gG aG]
  refine .mk k (by omega) (fun p aB=>?_) fun p aB lk fP=>?_
  ·obtain⟨t,aP,rfl⟩:=eT p aB;exact aqI (eM t (pa t aP))
  ·obtain⟨t,aP,rfl⟩:=eT p aB;rw[ai lk t _ fP (eM t (pa t aP))];exact (h.nR t (ard aP)).2
 refine⟨?_,fun y aG=>?_,?_,by simpa using h.wl,fun y aG=>?_,fun y aG=>?_⟩
 ·split
  ·rw[ati];refine⟨h.po,by simp,fun u aK v ao e=>?_⟩;rw[aq6] at ao;subst e;rw[ao] at aK;exact RF aK
  ·exact h.po
 ·split at aG
  ·rename_i aE;rw[arz,aq6] at aG;rcases aG with aG | rfl
   ·exact h.nR y aG
   ·exact⟨gv,s4 aE⟩
  ·exact h.nR y aG
 ·split
  ·simp; have:=h.dl; omega
  ·exact h.dl
 ·rw[B7,arO];by_cases wU:k=y
  ·subst wU;rw[if_pos rfl,if_pos RG,ng];congr 1;omega
  ·rw[if_neg wU,h.w y aG,aqN,hk,asr];have:([k] :List Nat).count y=0:=by rw[asz]; simp[wU]
   simp only[Option.toList_some,this,asU]
 ·rw[arO];by_cases wU:k=y
  ·subst wU;rw[if_pos rfl,if_pos RG];by_cases aE:x - 1=0
   ·rw[if_pos aE]; simp[aE]
   ·rw[if_neg aE];exact⟨fun hm=>absurd hm RF,fun aM=>absurd (Option.some.inj aM) aE⟩
  ·rw[if_neg wU,<-h.r y aG];split
   ·rw[arz,aq6];exact⟨fun h=>h.resolve_right (Ne.symm wU),.inl⟩
   ·exact Iff.rfl
theorem aef {ids:List (List B)} {ops:List bA} {cb:List (List Nat)} (af:Ha ids ops cb) {a:Nat} {row tB:List Nat} {d:Nat} {R:List Nat} {W:List Int}
  (h:qW ids ops row d row.length R W) (az:R[d]? = some a) (cj:cb[a]? = some row) :qW ids ops tB (d+1) 0 R W:=by
 have h7:R.take (d+1)=R.take d++[a] :=by rw[aqN,az]; rfl
 refine⟨h.po,h.nR,(aqr.1 az).1,h.wl,fun k hk=>?_,h.r⟩;rw[h.w k hk,h7,Md,aq0,af.cnt a row cj k hk,arJ,List.count_nil];congr 1;omega
theorem aeg {ids:List (List B)} {ops:List bA} {row tB:List Nat} {d:Nat} {R:List Nat} {W:List Int} (h:qW ids ops row d 0 R W) :qW ids ops tB d 0 R W:=
 ⟨h.po,h.nR,h.dl,h.wl,fun k hk=>by rw[h.w k hk,arJ,arJ],h.r⟩
theorem aeh {ids:List (List B)} {ops:List bA} (ak:ids.length=ops.length) :qW ids ops [] 0 0 ((List.range ops.length).filter fun k=>(dX ops k).isEmpty) ((List.range ops.length).map fun k=>((dX ops k).length:Int)) :=by
 refine⟨List.Sublist.nodup List.filter_sublist ats,fun k hk=>?_,arE _,by simp,fun k hk=>?_,fun k hk=>?_⟩
 ·rw[asl,aqZ] at hk;have aE:dX ops k=[] :=att.1 hk.2;exact⟨hk.1,.mk k (by omega) (fun p aB=>by rw[aE] at aB; cases aB) fun p aB=>by rw[aE] at aB; cases aB⟩
 ·rw[aqx,aq1 hk];simp[l4]
 ·rw[asl,aqZ,aqx,aq1 hk];simp only[aqy,Option.some.injEq,hk,true_and,att];constructor
  ·intro h; rw[h]; rfl
  ·intro h; exact arf.1 (by omega)
theorem aee {ids:List (List B)} {ops:List bA} (ak:ids.length=ops.length) (ai:mc ids) {row:List Nat} {R:List Nat} {W:List Int} (h:qW ids ops row R.length 0 R W) :
  R.length<=ops.length/\(R.length=ops.length<->(qG ids ops).length=ops.length) :=by
 have eu:R.length<=ops.length:=by
  have:=tF (b:=List.range ops.length) h.po fun x ag=>aqZ.2 (h.nR x ag).1
  simpa using this
 refine⟨eu,?_⟩;rw[Ld ak ai];constructor
 ·intro ap i ax;exact (h.nR i (K5 h.po ap (fun i ax=>(h.nR i ax).1) i ax)).2
 ·intro eT;have fl:∀ i,pI ids ops i->i<ops.length->i∈R:=by
   intro i au
   induction au with
   | mk i ax aB au aJ=>
    intro aL;rw[h.r i aL,h.w i aL,aq0];have EO:=(Me ai h.po (fun a az=>by have:=(h.nR a az).1; omega) (dX ops i)).2.2 fun p B2=>by
     obtain⟨cP,e4⟩:=aqU.1 (aB p B2);exact⟨cP,aJ p B2 cP e4 (by have:=(aqr.1 e4).1; omega),gG e4⟩
    rw[EO];simp
  have:=tF (a:=List.range ops.length) (b:=R) ats fun i ax=>fl i (eT i (aqZ.1 ax)) (aqZ.1 ax)
  simp at this;omega
structure kx (l:am) (vs:List U) (cb:List (List Nat)) (dh:Nat->Nat) :Prop where
 nC:vs.length=cb.length
 own:∀ (a:Nat) (v:U) (row:List Nat),vs[a]? = some v->cb[a]? = some row->bG 1 l v (dh a) (row.map g3)/\cq v=row.isEmpty/\(row=[]\/3<=dh a)
 apart:∀ (a b:Nat) (lA js:List Nat),a≠b->cb[a]? = some lA->cb[b]? = some js->lA≠[]->js≠[]->dh a≠dh b
def nH (cb:List (List Nat)) (dh:Nat->Nat) (b:Nat) :Prop:=∀ (a:Nat) (row:List Nat),cb[a]? = some row->row≠[]->dh a≠b
theorem kx.lt {l:am} {vs:List U} {cb:List (List Nat)} {dh:Nat->Nat} (h:kx l vs cb dh) {a:Nat} {row:List Nat} (ay:cb[a]? = some row) (bY:row≠[]) :dh a<l.length:=by
 have az:a<vs.length:=by rw[h.nC]; exact (aqr.1 ay).1
 obtain⟨o,n,_⟩:=h.own a vs[a] row (aqu az) ay;rcases o.lt with h1 | h1
 ·rw[h1] at n;cases row with
  | nil=>exact absurd rfl bY
  | cons=>cases n
 ·exact h1
theorem kx.frame {l l' : am} {vs:List U} {cb:List (List Nat)} {dh:Nat->Nat} (h:kx l vs cb dh) (aA:∀ b,b<l.length->(∃ a row,cb[a]? = some row/\row≠[]/\dh a=b)->l'[b]? = l[b]?) :kx l' vs cb dh:=by
 refine⟨h.nC,fun a v row ao ay=>?_,h.apart⟩;obtain⟨o,n,t⟩:=h.own a v row ao ay;refine⟨?_,n,t⟩;by_cases bY:row=[]
 ·subst bY;have:=iK.1 n;subst this;exact .nil _
 ·exact o.frame fun ak=>aA _ ak ⟨a,row,ay,bY,rfl⟩
theorem kx.more {l:am} {vs:List U} {cb:List (List Nat)} {dh:Nat->Nat} (h:kx l vs cb dh) (x:am) :kx (l++x) vs cb dh:=h.frame fun b af _=>aqt af
theorem kx.app {l:am} {vs:List U} {cb:List (List Nat)} {dh:Nat->Nat} (h:kx l vs cb dh) {a k b:Nat} {v:U} {row:List Nat} (ao:vs[a]? = some v) (ay:cb[a]? = some row) (af:l[b]? = some (.cells 1 [.int .i64 (k:Int)])) (aj:3<=l.length) (du:(row.length+1)*8<=cx) :
  ∃ a8 l' Cs,iR l 1 8 v (.ar 1 b 0 1 1 1)=some (a8,l')/\kx l' (vs.set a a8) (cb.set a (row++[k])) Cs/\l.length<=l'.length/\a8.cells=some [a8] ∧
   ∀ c,c<l.length->nH cb dh c->l'[c]? = l[c]?/\nH (cb.set a (row++[k])) Cs c:=by
 obtain⟨o,n,t⟩:=h.own a v row ao ay;have fO:a<cb.length:=(aqr.1 ay).1;obtain⟨j,TB,lo,Kz,SQ⟩:∃ j,bG 1 l v j (row.map g3)/\3<=j/\(∀ eD tB,eD≠a->cb[eD]? = some tB->tB≠[]->dh eD≠j)/\∀ c,c<l.length->nH cb dh c->j≠c:=by
  by_cases bY:row=[]
  ·subst bY;have:=iK.1 n;subst this;exact⟨l.length,.nil _,aj,fun eD tB _ ob s3=>by have:=h.lt ob s3; omega,fun c ah _=>by omega⟩
  ·exact⟨dh a,o,t.resolve_left bY,fun eD tB RV ob s3=>h.apart eD a tB row RV ob ay s3 bY,fun c _ aq=>aq a row ay bY⟩
 obtain⟨a8,cP,l',aF,aQ,aW,bd,bh,cc⟩:=nK (by_:=8) TB (x:=.ar 1 b 0 1 1 1) (xs:=[g3 k]) (by simp[c8,af,g3]) (by simp[g3]) (by omega) (by omega) (by simpa using du);have ih:cq a8=false:=by
  cases aM:cq a8 with
  | true=>have:=(cc.1 (iK.1 aM)).2; cases this
  | false=>rfl
 refine⟨a8,l',fun x=>if x=a then cP else dh x,aF,⟨by simp[h.nC],fun x w LV hw ob=>?_,fun x y vB UY kM ag aG lS JH=>?_⟩,aW,aQ.cells,fun c ah aq=>⟨bd c ah (fun e=>SQ c ah aq e.symm),fun x vB ag lS=>?_⟩⟩
 ·by_cases jI:x=a
  ·subst jI;rw[aqL (by rw[h.nC]; exact fO)] at hw;rw[aqL fO] at ob;obtain rfl:=Option.some.inj hw;obtain rfl:=Option.some.inj ob;simp only[if_true];refine⟨by rw[aqV]; exact aQ,by rw[ih]; simp,.inr ?_⟩;rcases bh with e | e<;>omega
  ·rw[aqG (Ne.symm jI)] at hw ob;simp only[if_neg jI];obtain⟨cW,gH,fN⟩:=h.own x w LV hw ob;refine⟨?_,gH,fN⟩;by_cases bY:LV=[]
   ·subst bY;have:=iK.1 gH;subst this;exact .nil _
   ·exact cW.frame fun ak=>bd _ ak (Kz x LV jI ob bY)
 ·by_cases jI:x=a
  ·subst jI;rw[aqG kM] at aG;simp only[if_true,if_neg (Ne.symm kM)];have:=h.lt aG JH;have:=Kz y UY (Ne.symm kM) aG JH;rcases bh with e | e<;>omega
  ·rw[aqG (Ne.symm jI)] at ag;simp only[if_neg jI];by_cases Cc:y=a
   ·subst Cc;simp only[if_true];have:=h.lt ag lS;have:=Kz x vB jI ag lS;rcases bh with e | e<;>omega
   ·rw[aqG (Ne.symm Cc)] at aG;simp only[if_neg Cc];exact h.apart x y vB UY kM ag aG lS JH
 ·by_cases jI:x=a
  ·subst jI;simp only[if_true];have:=SQ c ah aq;rcases bh with e | e<;>omega
  ·rw[aqG (Ne.symm jI)] at ag;simp only[if_neg jI];exact aq x vB ag lS
def wd (ids:List (List B)) (ops:List bA) (m q a k:Nat) :Nat:=if k<m then (dX ops k).count (bU ids a) else if k=m then ((dX ops m).take q).count (bU ids a) else 0
structure tT (ids:List (List B)) (ops:List bA) (m q:Nat) (cb:List (List Nat)) :Prop where
 len:cb.length=ops.length
 cnt:∀ (a:Nat) (row:List Nat),cb[a]? = some row->∀ k,row.count k=wd ids ops m q a k
 CZ:∀ (a:Nat) (row:List Nat),cb[a]? = some row->row.length<=5*m+q
theorem afR (ids:List (List B)) (ops:List bA) :tT ids ops 0 0 (List.replicate ops.length []) :=by
 refine⟨by simp,fun a row h k=>?_,fun a row h=>?_⟩
 ·have:=arL (aqI h);subst this;simp[wd]
 ·have:=arL (aqI h);subst this;simp
theorem afS {ids:List (List B)} {ops:List bA} (ai:mc ids) (ak:ids.length=ops.length) {m q a:Nat} {cb:List (List Nat)} {row:List Nat} {p:List B} (h:tT ids ops m q cb) (aB:(dX ops m)[q]? = some p) (az:ids[a]? = some p) (ay:cb[a]? = some row) :
  tT ids ops m (q+1) (cb.set a (row++[m])) :=by
 have fO:=(aqr.1 ay).1;have uH:=(aqr.1 az).1;have h7:(dX ops m).take (q+1)=(dX ops m).take q++[p] :=by rw[aqN,aB]; rfl
 refine⟨by simp[h.len],fun x vB ag k=>?_,fun x vB ag=>?_⟩
 ·by_cases jI:x=a
  ·subst jI;rw[aqL fO] at ag;obtain rfl:=Option.some.inj ag;rw[asr,h.cnt x row ay k];unfold wd;by_cases h1:k<m
   ·rw[if_pos h1,if_pos h1,asz];have:(m == k)=false:=by rw[beq_eq_false_iff_ne]; omega
    simp[this]
   ·rw[if_neg h1,if_neg h1];by_cases ad:k=m
    ·subst ad;rw[if_pos rfl,if_pos rfl,h7,asr,gG az]; simp
    ·rw[if_neg ad,if_neg ad,asz];have:(m == k)=false:=by rw[beq_eq_false_iff_ne]; omega
     simp[this]
  ·rw[aqG (Ne.symm jI)] at ag;rw[h.cnt x vB ag k];unfold wd;by_cases h1:k<m
   ·rw[if_pos h1,if_pos h1]
   ·rw[if_neg h1,if_neg h1];by_cases ad:k=m
    ·subst ad;rw[if_pos rfl,if_pos rfl,h7,asr,asz];have bB:x<ids.length:=by rw[ak,<-h.len]; exact (aqr.1 ag).1
     have:(p == bU ids x)=false:=by
      rw[beq_eq_false_iff_ne];intro e;rw[<-gG az] at e;exact jI (Nx ai uH bB e).symm
     rw[this]; simp
    ·rw[if_neg ad,if_neg ad]
 ·by_cases jI:x=a
  ·subst jI;rw[aqL fO] at ag;obtain rfl:=Option.some.inj ag;have:=h.CZ x row ay;simp; omega
  ·rw[aqG (Ne.symm jI)] at ag;have:=h.CZ x vB ag;omega
theorem afQ {ids:List (List B)} {ops:List bA} {m:Nat} {cb:List (List Nat)} (h:tT ids ops m (dX ops m).length cb) (aC:(dX ops m).length<=4) :tT ids ops (m+1) 0 cb:=by
 refine⟨h.len,fun a row ay k=>?_,fun a row ay=>by have:=h.CZ a row ay; omega⟩;rw[h.cnt a row ay k];unfold wd;by_cases h1:k<m
 ·rw[if_pos h1,if_pos (by omega)]
 ·rw[if_neg h1];by_cases ad:k=m
  ·subst ad;rw[if_pos rfl,if_pos (by omega),aq0]
  ·rw[if_neg ad,if_neg (by omega)];by_cases aj:k=m+1
   ·rw[if_pos aj]; simp
   ·rw[if_neg aj]
theorem afP {ids:List (List B)} {ops:List bA} {cb:List (List Nat)} (h:tT ids ops ops.length 0 cb) :Ha ids ops cb:=by
 refine⟨h.len,fun a row ay k hk=>?_,fun a row ay k hk=>?_⟩
 ·rw[h.cnt a row ay k]; unfold wd; rw[if_pos hk]
 ·have h1:0<row.count k:=as6.2 hk;rw[h.cnt a row ay k] at h1;unfold wd at h1;by_cases ad:k<ops.length
  ·exact ad
  ·rw[if_neg ad] at h1;split at h1<;>simp at h1
def ex (ops:List bA) (m:Nat) :List Int:=(List.range ops.length).map fun k=>if k<m then ((dX ops k).length:Int) else 0
def im (ops:List bA) (m:Nat) :List Nat:=(List.range m).filter fun k=>(dX ops k).isEmpty
theorem VY (ops:List bA) (m:Nat) :(ex ops m).length=ops.length:=by simp[ex]
theorem G3 {ops:List bA} {m k:Nat} (h:k<ops.length) :(ex ops m)[k]? = some (if k<m then ((dX ops k).length:Int) else 0) :=by
 unfold ex; rw[aqx,aq1 h]; rfl
theorem ajK {ops:List bA} {m:Nat} (h:m<ops.length) :(ex ops m).set m ((dX ops m).length:Int)=ex ops (m+1) :=by
 apply arp;intro j;by_cases ai:j<ops.length
 ·rw[G3 ai,arO];by_cases RR:m=j
  ·subst RR;rw[if_pos rfl,if_pos (by rw[VY]; exact ai),if_pos (by omega)]
  ·rw[if_neg RR,G3 ai];by_cases h1:j<m
   ·rw[if_pos h1,if_pos (by omega)]
   ·rw[if_neg h1,if_neg (by omega)]
 ·rw[aqJ (by simp[ex]; omega),aqJ (by simp[ex]; omega)]
theorem ajJ (ops:List bA) :ex ops ops.length=(List.range ops.length).map fun k=>((dX ops k).length:Int) :=by
 unfold ex;apply arW;intro k hk;rw[if_pos (aqZ.1 hk)]
theorem ajL (ops:List bA) :ex ops 0=List.replicate ops.length 0:=by
 apply arp;intro j;by_cases ai:j<ops.length
 ·rw[G3 ai]; simp[ai]
 ·rw[aqJ (by simp[ex]; omega),aqJ (by simp; omega)]
theorem Uz (ops:List bA) (m:Nat) :im ops (m+1)=im ops m++(if (dX ops m).isEmpty then [m] else []) :=by
 unfold im;rw[arQ,asI];congr 1;by_cases h:(dX ops m).isEmpty=true
 ·simp[h]
 ·simp[h]
def jh (n:Int) :U:=.int .i64 n
theorem ahY {l:List U} {i:Nat} {x:U} (h:i<l.length) :bn l i [x]=l.set i x:=by
 have:=ny (fun c:U=>c) l i x h;simpa using this
def cw (g:bM) (wl:List Int) (vs:List U) (rest:am) :am:=.cells 2 [aT g.ids,b1 g.ops] ::.cells g.ops.l.length (wl.map jh) ::.cells g.ops.l.length vs::rest
theorem Ml {l:am} {a b c:bg} (aE:l[0]? = some a) (h1:l[1]? = some b) (ad:l[2]? = some c) :∃ r,l=a::b::c::r:=by
 match l,aE,h1,ad with
 | eD::bf::c'::r,aE,h1,ad=>
  simp at aE h1 ad;subst aE h1 ad;exact⟨r,rfl⟩
theorem zb {g:bM} {w w' : List Int} {vs GU:List U} {r:am}:∀ {b:Nat},3<=b->(cw g w vs r)[b]? = (cw g w' GU r)[b]?
 | 0,h=>by omega
 | 1,h=>by omega
 | 2,h=>by omega
 | b+3,_=>rfl
theorem JM {g:bM} {w:List Int} {vs:List U} {r x:am} {b:Nat} (h:b<(cw g w vs r).length) :(cw g w vs (r++x))[b]? = (cw g w vs r)[b]?:=by
 show ((cw g w vs r)++x)[b]? = _;exact aqt h
structure WB (g:bM) (m q:Nat) (eH:U) (l:am) :Prop where
 fB:∃ (vs:List U) (cb:List (List Nat)) (dh:Nat->Nat) (gS:Nat) (rest:am),l=cw g (ex g.ops.l m) vs rest/\kx l vs cb dh/\tT g.ids.l g.ops.l m q cb/\bG 1 l eH gS ((im g.ops.l m).map g3) ∧
  cq eH=(im g.ops.l m).isEmpty/\(im g.ops.l m=[]\/(3<=gS/\nH cb dh gS))
structure WA (g:bM) (m q:Nat) (eH:U) (b:Nat) (O:List U) (l:am) :Prop where
 fB:∃ (vs:List U) (cb:List (List Nat)) (dh:Nat->Nat) (gS:Nat) (rest:am),l=cw g (ex g.ops.l m) vs rest/\kx l vs cb dh/\tT g.ids.l g.ops.l m q cb/\bG 1 l eH gS ((im g.ops.l m).map g3) ∧
  cq eH=(im g.ops.l m).isEmpty/\(im g.ops.l m=[]\/(3<=gS/\nH cb dh gS))/\l[b]? = some (.cells 11 O)/\3<=b/\nH cb dh b
theorem zT {cb:List (List Nat)} {l:am} {vs:List U} {dh:Nat->Nat} {c:Nat} (eP:kx l vs cb dh) (ah:c<3) :nH cb dh c:=fun a row ay bY=>by
 have az:a<vs.length:=by rw[eP.nC]; exact (aqr.1 ay).1
 have:=(eP.own a vs[a] row (aqu az) ay).2.2.resolve_left bY;omega
theorem CK {cb:List (List Nat)} {l:am} {vs:List U} {dh:Nat->Nat} {c:Nat} (eP:kx l vs cb dh) (ah:l.length<=c) :nH cb dh c:=fun a row ay bY=>by
 have:=eP.lt ay bY;omega
structure qX (g:bM) (vs:List U) (cb:List (List Nat)) (dh:Nat->Nat) (W:List Int) (R:List Nat) (eH:U) (rest:am) :Prop where
 fB:∃ gS,kx (cw g W vs rest) vs cb dh/\bG 1 (cw g W vs rest) eH gS (R.map g3)/\cq eH=R.isEmpty/\(R=[]\/(3<=gS/\nH cb dh gS))
theorem qX.setW {g:bM} {vs:List U} {cb:List (List Nat)} {dh:Nat->Nat} {W sl:List Int} {R:List Nat} {eH:U} {rest:am} (h:qX g vs cb dh W R eH rest) :qX g vs cb dh sl R eH rest:=by
 obtain⟨gS,eP,hK,j8,k7⟩:=h;refine⟨⟨gS,eP.frame fun b af ⟨a,tC,h1,ad,aj⟩=>zb (atu fun h=>zT eP h a tC h1 ad aj),?_,j8,k7⟩⟩;by_cases bY:R=[]
 ·subst bY;rw[iK.1 j8];exact .nil _
 ·exact hK.frame fun _=>zb (k7.resolve_left bY).1
theorem qX.push {g:bM} {vs:List U} {cb:List (List Nat)} {dh:Nat->Nat} {W:List Int} {R:List Nat} {eH:U} {rest:am} (h:qX g vs cb dh W R eH rest) (m:Nat) (du:(R.length+1)*8<=cx) :
  ∃ a8 fc,iR (cw g W vs (rest++[.cells 1 [.int .i64 (m:Int)]])) 1 8 eH (.ar 1 (rest.length+3) 0 1 1 1)=some (a8,cw g W vs fc)/\qX g vs cb dh W (R++[m]) a8 fc:=by
 obtain⟨gS,uF,EK,j8,k7⟩:=h;obtain⟨km,KT,l8,hQ⟩:∃ km,bG 1 (cw g W vs (rest++[.cells 1 [.int .i64 (m:Int)]])) eH km (R.map g3)/\3<=km/\nH cb dh km:=by
  by_cases bY:R=[]
  ·subst bY;rw[iK.1 j8];exact⟨(cw g W vs (rest++[.cells 1 [.int .i64 (m:Int)]])).length,.nil _,by simp[cw],CK uF (by simp[cw])⟩
  ·exact⟨gS,EK.more _,(k7.resolve_left bY).1,(k7.resolve_left bY).2⟩
 obtain⟨Ag,Ky,bZ,aF,aQ,aW,bd,bh,cc⟩:=nK (by_:=8) KT (x:=.ar 1 (rest.length+3) 0 1 1 1) (xs:=[g3 m]) (by simp[c8,cw,g3]) (by simp[g3]) (by omega) (by omega) (by simpa using du);have JB:(cw g W vs (rest++[.cells 1 [.int .i64 (m:Int)]])).length=rest.length+4:=by simp[cw]
 have Fi:(cw g W vs rest).length=rest.length+3:=by simp[cw]
 obtain⟨fc,rfl⟩:∃ r,bZ=cw g W vs r:=Ml ((bd 0 (by omega) (by omega)).trans rfl) ((bd 1 (by omega) (by omega)).trans rfl) ((bd 2 (by omega) (by omega)).trans rfl);have Kc:cq Ag=false:=by
  cases aM:cq Ag with
  | true=>have:=(cc.1 (iK.1 aM)).2; cases this
  | false=>rfl
 refine⟨Ag,fc,aF,⟨⟨Ky,?_,?_,?_,.inr ⟨?_,?_⟩⟩⟩⟩
 ·exact uF.frame fun b af ⟨a,tC,h1,ad,aj⟩=>(bd b (by omega) (fun e=>hQ a tC h1 ad (by omega))).trans (JM af)
 ·rw[aqV]; exact aQ
 ·rw[Kc]; simp
 ·rcases bh with e | e<;>omega
 ·rcases bh with e | e
  ·rw[e]; exact hQ
  ·exact CK uF (by omega)
set_option maxHeartbeats 8000000 in
theorem ahC (g:bM) (au:hS g) (ak:g.ids.l.length=g.ops.l.length) (pZ:g.ops.l.length<=60) (aC:∀ o∈g.ops.l,o.bo.l.length<=4) :bi Tryz.prog GS 180 [c3 g] (.int .i64 (pw g.ids.l g.ops.l)) :=by
 refine bt Tryz.checked.mixed bp ?_;apply bb Tryz.func180 [];have kK:cx=140737488355328:=rfl;have er:=gC g.ids;have c7:=mr g.ops;have nX:=DY g;have dL:cL (.ar 11) (b1 g.ops)=some (.int .i64 g.ops.l.length) :=by simp[b1]
 have hz:cL (.ar 32) (aT g.ids)=some (.int .i64 g.ops.l.length) :=by simp[aT,ak]
 simp[c3,dB];refine cE (g.ops.l.length - 1) (fun k ae l=>l=[.cells 2 [aT g.ids,b1 g.ops]]/\ae 1=.ptr 0 0 2/\ae 3=.int .i64 ((k+1:Nat) :Int)/\∀ j,j<k+1->j<g.ids.l.length->1<=j->cd (bU g.ids.l (j - 1)) (bU g.ids.l j)<0) ?_ ⟨by simp,by simp,by simp,fun j h1 _ ad=>by omega⟩;rintro k ae l hk ⟨rfl,aF,aW,al⟩;obtain⟨ae,rfl⟩:=nA aF aW;clear aF aW;obtain⟨m,hm⟩:∃ m,m=k+1:=⟨_,rfl⟩
 rw[<-hm] at al ⊢;by_cases aL:m<g.ops.l.length
 ·obtain⟨x,ag,dm⟩:=bW (l:=g.ids.l) (k:=k) (by omega);obtain⟨y,aG,dg⟩:=bW (l:=g.ids.l) (k:=m) (by omega);have aR:IntKind.i64.wrap ((m:Int) - 1)=(k:Int) :=by rw[IntKind.wrap_i64]; omega
  have bI:IntKind.i64.wrap ((m:Int)+1)=((m+1:Nat) :Int) :=by rw[IntKind.wrap_i64]; omega
  have fR:=gG ag;have oh:=gG aG;have fm:cv (.ar 32) (aT g.ids) (.int .i64 (k:Int))=some (.b5 (aY x) 0) :=by simp[aT,ag]
  have BL:cv (.ar 32) (aT g.ids) (.int .i64 (m:Int))=some (.b5 (aY y) 0) :=by simp[aT,aG]
  have bB:=dk (au.ids x dm);have df:=dk (au.ids y dg);have h4:=yy x y (au.ids x dm) (au.ids y dg);unfold fJ at h4;change bi Tryz.prog GS 204 [.aI (aY x),.aI (aY y)] _ at h4;have kD:=hX x;have nh:=hX y;obtain⟨X,dy⟩:∃ X,X=aY x:=⟨_,rfl⟩
  obtain⟨Y,gQ⟩:∃ Y,Y=aY y:=⟨_,rfl⟩
  rw[<-dy] at fm bB h4 kD;rw[<-gQ] at BL df h4 nh;simp[hz,aL,aR,fm,BL,bB,df,aqs];refine aU h4 (by simp[aV,U.closed,kD,nh]) ?_;by_cases ah:cd x y<0
  ·have e8:¬ (0<=cd x y) :=by omega
   simp[e8,bI];refine⟨by omega,fun j h1 ad aj=>?_⟩;have e4:cd (bU g.ids.l (j - 1)) (bU g.ids.l j)<0:=by
    by_cases ai:j=m
    ·rw[ai,show m - 1=k by omega,fR,oh]; exact ah
    ·exact al j (by omega) ad aj
   simpa [bU] using e4
  ·have e8:0<=cd x y:=by omega
   simp[e8];refine aH (congrArg (U.int .i64) ?_) rfl;have eU:eB g.ids.l=false:=UN (k:=m) (by omega) (by omega) (by rw[show m - 1=k by omega,fR,oh]; exact ah);unfold pw;rw[eU]; rfl
 ·have ay:eB g.ids.l=true:=LG fun j h1 ad=>al j (by omega) h1 ad
  have ai:=u4 ay;obtain⟨a7,_⟩:=CA (z:=1) (by_:=8) (n:=g.ops.l.length) (k:=.i64) (k':=.i64) (zero:=[U.int .i64 0]) (l:=[bg.cells 2 [aT g.ids,b1 g.ops]]) rfl (by omega) (by rw[kK]; omega);obtain⟨bl,_⟩:=CA (z:=1) (by_:=24) (n:=g.ops.l.length) (k:=.i64) (k':=.i64) (zero:=[U.aX]) (l:=[bg.cells 2 [aT g.ids,b1 g.ops],bg.cells g.ops.l.length (List.replicate g.ops.l.length (U.int .i64 0))]) rfl (by omega) (by rw[kK]; omega);simp only[arS,LC (α:=Nat)] at a7 bl;simp[hz,dL,aL,a7,bl];refine cE g.ops.l.length (fun m ae l=>ae 1=.ptr 0 0 2/\ae 4=.ar 1 1 0 g.ops.l.length g.ops.l.length g.ops.l.length/\ae 5=.ar 1 2 0 g.ops.l.length g.ops.l.length g.ops.l.length/\ae 45=b1 g.ops/\ae 46=.int .i64 g.ops.l.length/\ae 47=.int .i64 m ∧
   WB g m 0 (ae 6) l/\∀ i,i<m->sn g.ids.l (dX g.ops.l i)=true) ?_ ?_
  ·rintro m ae l hm ⟨aF,bd,bh,sH,sI,sJ,jC,eT⟩;obtain⟨eH,cc⟩:∃ v,ae 6=v:=⟨_,rfl⟩
   rw[cc] at jC;obtain⟨ae,rfl⟩:=VE aF bd bh cc sH sI sJ;clear aF bd bh cc sH sI sJ;by_cases n9:m<g.ops.l.length
   ·obtain⟨o,aq,ef⟩:=bW n9;have aR:IntKind.i64.wrap ((m:Int)+1)=((m+1:Nat) :Int) :=by rw[IntKind.wrap_i64]; omega
    have cg:cv (.ar 11) (b1 g.ops) (.int .i64 (m:Int))=some (.b5 (bj o) 0) :=by simp[b1,aq]
    have ze:=au.ops o ef;have jp:=aC o ef;have uV:dX g.ops.l m=o.bo.l:=xJ aq;have qe:cL (.ar 32) (aT o.bo)=some (.int .i64 o.bo.l.length) :=by simp[aT]
    have rg:(bj o).length=11:=rfl;have k5:∀ h:1<(bj o).length,(bj o)[1]'h=aT o.bo:=fun _=>rfl
    obtain⟨O,fh⟩:∃ O,O=bj o:=⟨_,rfl⟩
    rw[<-fh] at cg rg k5;have oe:bn [U.int .u32 0,.aX,.int .u64 0,.int .u8 0,.str [],.int .u8 0,.int .i64 0,.int .u64 0,.str [],.int .u32 0,.int .u32 0] 0 O=O:=eC (by rw[rg]; rfl);simp[n9,cg,rg,k5,qe,oe,aqs];obtain⟨ym,EQ⟩:∃ ym,ym=l.length:=⟨_,rfl⟩
    rw[<-EQ];refine cE o.bo.l.length (fun q ae l=>ae 1=.ptr 0 0 2/\ae 4=.ar 1 1 0 g.ops.l.length g.ops.l.length g.ops.l.length/\ae 5=.ar 1 2 0 g.ops.l.length g.ops.l.length g.ops.l.length/\ae 6=eH/\ae 7=.int .i64 m/\ae 8=.ptr ym 0 11/\ae 45=b1 g.ops/\ae 46=.int .i64 g.ops.l.length/\ae 47=.int .i64 m ∧
     ae 53=aT o.bo/\ae 54=.int .i64 o.bo.l.length/\ae 55=.int .i64 q/\WA g m q eH ym O l/\∀ (j:Nat) (p:List B),j<q->o.bo.l[j]? = some p->p∈g.ids.l) ?_ ?_
    ·rintro q ae l bm ⟨aF,bd,bh,cc,eR,eS,sH,sI,sJ,Qc,Qd,Qe,nd,Sc⟩;obtain⟨ae,rfl⟩:=aiV aF bd bh cc eR eS sH sI sJ Qc Qd Qe;clear aF bd bh cc eR eS sH sI sJ Qc Qd Qe;obtain⟨vs,cb,dh,gS,rest,rfl,eP,mB,hK,j8,k7,af,sR,aaW⟩:=nd;by_cases w8:q<o.bo.l.length
     ·obtain⟨p,aB,w7⟩:=bW w8;have bI:IntKind.i64.wrap ((q:Int)+1)=((q+1:Nat) :Int) :=by rw[IntKind.wrap_i64]; omega
      have kH:cv (.ar 32) (aT o.bo) (.int .i64 (q:Int))=some (.b5 (aY p) 0) :=by simp[aT,aB]
      have R8:=ze.ids p w7;have bB:=dk R8;have kD:=hX p;have y3:=Zs g au ay p R8;unfold c3 dB at y3 nX;obtain⟨X,dy⟩:∃ X,X=aY p:=⟨_,rfl⟩
      rw[<-dy] at kH bB kD y3;have mL:bn (rep 32 (.int .u8 0)) 0 X=X:=eC (by rw[bB]; rfl);simp[cw,w8,kH,bB,mL,aqs];refine aU y3 (by simp[aV,U.closed,kD,er,c7]) ?_;by_cases B0:p∈g.ids.l
      ·obtain⟨at_,fi⟩:=aqU.1 B0;have aa2:=Pc ay fi;have ame:=(aqr.1 fi).1;have amf:at_<g.ops.l.length:=by omega
       have kg:vs.length=g.ops.l.length:=by rw[eP.nC,mB.len]
       obtain⟨hE,zl,_⟩:=bW (l:=vs) (k:=at_) (by omega);obtain⟨row,cj,_⟩:=bW (l:=cb) (k:=at_) (by rw[mB.len]; omega);obtain⟨l1,gl⟩:∃ l1,l1=cw g (ex g.ops.l m) vs (rest++[.cells 32 X,.cells 1 [.int .i64 (m:Int)]]) :=⟨_,rfl⟩
       have rf:kx l1 vs cb dh:=by rw[gl]; exact eP.more _
       have JA:l1.length=rest.length+5:=by rw[gl]; simp[cw]
       have pg:=mB.CZ at_ row cj;obtain⟨a8,bZ,Cs,aF,aQ,aW,bd,bh⟩:=rf.app (b:=rest.length+4) (k:=m) zl cj (by rw[gl]; simp[cw]) (by omega) (by rw[kK]; omega);have eO:=bh 0 (by omega) (zT rf (by omega));have q1:=bh 1 (by omega) (zT rf (by omega));have fZ:=bh 2 (by omega) (zT rf (by omega));obtain⟨fc,rfl⟩:∃ r,bZ=cw g (ex g.ops.l m) vs r:=Ml (eO.1.trans (by rw[gl]; rfl)) (q1.1.trans (by rw[gl]; rfl)) (fZ.1.trans (by rw[gl]; rfl));have Fc:cv (.ar 1) (.ar 1 2 0 g.ops.l.length g.ops.l.length g.ops.l.length) (.int .i64 (at_:Int))=some (.ptr 2 at_ g.ops.l.length) :=by
        simp only[cv];rw[if_pos ⟨trivial,by omega,by omega⟩];simp
       rw[gl] at aF;unfold cw at aF;simp[B0,aa2,Fc,zl,aF];refine dq.cr ?_;have ac4:bn vs at_ [a8]=vs.set at_ a8:=ahY (by omega);simp[cw,bd,Fc,ac4,kg];have g5:∀ c,3<=c->c<(cw g (ex g.ops.l m) vs rest).length->nH cb dh c->(cw g (ex g.ops.l m) (vs.set at_ a8) fc)[c]? = (cw g (ex g.ops.l m) vs rest)[c]?/\nH (cb.set at_ (row++[m])) Cs c:=by
        intro c aj di aq;obtain⟨bL,bz⟩:=bh c (by simp[cw] at di; omega) aq;exact⟨(zb aj).trans (bL.trans (by rw[gl]; exact JM di)),bz⟩
       have Jv:im g.ops.l m≠[]->gS<(cw g (ex g.ops.l m) vs rest).length:=fun bY=>by
        rcases hK.lt with h | h
        ·rw[h] at j8;cases ec:im g.ops.l m with
         | nil=>exact absurd ec bY
         | cons=>rw[ec] at j8; cases j8
        ·exact h
       have fV:=(aqr.1 af).1;obtain⟨f1,f2⟩:=g5 ym sR fV aaW;refine⟨by omega,w8,by rw[IntKind.wrap_i64]; omega,⟨⟨vs.set at_ a8,cb.set at_ (row++[m]),Cs,gS,fc,rfl,?_,afS ai ak mB (by rw[uV]; exact aB) fi cj,?_,j8,?_,f1.trans af,sR,f2⟩⟩,fun j bT e4 gR=>?_⟩
       ·exact aQ.frame fun b af ⟨a,tC,h1,ad,aj⟩=>by
         have aC:3<=b:=atu fun h=>zT aQ h a tC h1 ad aj
         exact zb aC
       ·by_cases bY:im g.ops.l m=[]
        ·rw[bY] at j8 hK ⊢;rw[iK.1 j8];exact .nil _
        ·obtain⟨h1,ad⟩:=k7.resolve_left bY;exact hK.frame fun h=>(g5 gS h1 (Jv bY) ad).1
       ·by_cases bY:im g.ops.l m=[]
        ·exact .inl bY
        ·obtain⟨h1,ad⟩:=k7.resolve_left bY;exact .inr ⟨h1,(g5 gS h1 (Jv bY) ad).2⟩
       ·by_cases abS:j=q
        ·subst abS; rw[aB] at gR; obtain rfl:=Option.some.inj gR; exact B0
        ·exact Sc j bT (by omega) gR
      ·simp[B0];refine aH (congrArg (U.int .i64) ?_) rfl;have eU:¬ CJ g.ids.l g.ops.l=true:=fun h=>by
        have:=of_decide_eq_true h o ef;exact B0 (of_decide_eq_true this p w7)
       unfold pw;rw[if_pos ay,if_neg eU]
     ·have pf:q=o.bo.l.length:=by omega
      rw[pf] at mB;rw[<-uV] at mB;have QH:=afQ mB (by rw[uV]; exact jp);have kg:vs.length=g.ops.l.length:=by rw[eP.nC,mB.len]
      have Si:dY (cw g (ex g.ops.l m) vs rest) (.ptr ym 1 11)=some (O,1) :=by simp only[dY,af]; rfl
      have BJ:cv (.ar 1) (.ar 1 1 0 g.ops.l.length g.ops.l.length g.ops.l.length) (.int .i64 (m:Int))=some (.ptr 1 m g.ops.l.length) :=by
       simp only[cv];rw[if_pos ⟨trivial,by omega,by omega⟩];simp
      have J5:jT 1 (cw g (ex g.ops.l m) vs rest) (.ptr 1 m g.ops.l.length) (.int .i64 o.bo.l.length)=some (cw g (ex g.ops.l (m+1)) vs rest) :=by
       have h1:(cw g (ex g.ops.l m) vs rest)[1]? = some (.cells g.ops.l.length ((ex g.ops.l m).map jh)) :=rfl;simp only[jT,U.cells,h1];rw[if_pos (by simp; omega)];have ad:bn ((ex g.ops.l m).map jh) m [U.int .i64 o.bo.l.length]=(ex g.ops.l (m+1)).map jh:=by
        rw[<-ajK n9,uV];exact ny jh (ex g.ops.l m) m _ (by rw[VY]; exact n9)
       rw[ad]; rfl
      have B3:dY (cw g (ex g.ops.l (m+1)) vs rest) (.ptr 1 m g.ops.l.length)=some ((ex g.ops.l (m+1)).map jh,m) :=by
       have h1:(cw g (ex g.ops.l (m+1)) vs rest)[1]? = some (.cells g.ops.l.length ((ex g.ops.l (m+1)).map jh)) :=rfl;simp only[dY,h1]; simp
      have Fb:((ex g.ops.l (m+1)).map jh)[m]? = some (.int .i64 o.bo.l.length) :=by
       rw[aqx,G3 n9,if_pos (by omega),uV]; rfl
      have amv:∀ h:m<((ex g.ops.l (m+1)).map jh).length,((ex g.ops.l (m+1)).map jh)[m]'h=.int .i64 o.bo.l.length:=fun h=>(aqr.1 Fb).2
      have QF:O[1]? = some (aT o.bo) :=by rw[aqu (by rw[rg]; omega),k5]
      have uF:kx (cw g (ex g.ops.l (m+1)) vs rest) vs cb dh:=eP.frame fun b af ⟨a,tC,h1,ad,aj⟩=>zb (atu fun h=>zT eP h a tC h1 ad aj)
      have EK:bG 1 (cw g (ex g.ops.l (m+1)) vs rest) eH gS ((im g.ops.l m).map g3) :=by
       by_cases bY:im g.ops.l m=[]
       ·rw[bY] at j8 ⊢;rw[iK.1 j8];exact .nil _
       ·exact hK.frame fun _=>zb (k7.resolve_left bY).1
      have EO:∀ i,i<m+1->sn g.ids.l (dX g.ops.l i)=true:=fun i ax=>by
       by_cases abL:i=m
       ·subst abL;rw[uV];refine decide_eq_true fun p aB=>?_
        obtain⟨j,e4⟩:=aqU.1 aB;exact Sc j p (by rw[pf]; exact (aqr.1 e4).1) e4
       ·exact eT i (by omega)
      by_cases av:o.bo.l.length=0
      ·have ab4:cL (.ar 32) (aT o.bo)=some (.int .i64 0) :=by rw[qe,av]; rfl
       have ac2:jT 1 (cw g (ex g.ops.l m) vs rest) (.ptr 1 m g.ops.l.length) (.int .i64 0)=some (cw g (ex g.ops.l (m+1)) vs rest) :=by rw[av] at J5; exact J5
       have abz:((ex g.ops.l (m+1)).map jh)[m]? = some (.int .i64 0) :=by rw[av] at Fb; exact Fb
       have ph:im g.ops.l (m+1)=im g.ops.l m++[m] :=by
        rw[Uz,uV,arf.1 av]; rfl
       obtain⟨km,KT,l8,hQ⟩:∃ km,bG 1 (cw g (ex g.ops.l (m+1)) vs (rest++[.cells 1 [.int .i64 (m:Int)]])) eH km ((im g.ops.l m).map g3)/\3<=km/\nH cb dh km:=by
        by_cases bY:im g.ops.l m=[]
        ·rw[bY] at j8 ⊢;rw[iK.1 j8];exact⟨(cw g (ex g.ops.l (m+1)) vs (rest++[.cells 1 [.int .i64 (m:Int)]])).length,.nil _,by simp[cw],CK uF (by simp[cw])⟩
        ·exact⟨gS,EK.more _,(k7.resolve_left bY).1,(k7.resolve_left bY).2⟩
       have pg:(im g.ops.l m).length<=m:=by
        have:=asw (fun k=>(dX g.ops.l k).isEmpty) (List.range m);simpa [im] using this
       obtain⟨Ag,Ky,bZ,aF,aQ,aW,bd,bh,cc⟩:=nK (by_:=8) KT (x:=.ar 1 (rest.length+3) 0 1 1 1) (xs:=[g3 m]) (by simp[c8,cw,g3]) (by simp[g3]) (by omega) (by omega) (by rw[kK]; simp; omega);have JB:(cw g (ex g.ops.l (m+1)) vs (rest++[.cells 1 [.int .i64 (m:Int)]])).length=rest.length+4:=by simp[cw]
       obtain⟨fc,rfl⟩:∃ r,bZ=cw g (ex g.ops.l (m+1)) vs r:=Ml ((bd 0 (by omega) (by omega)).trans rfl) ((bd 1 (by omega) (by omega)).trans rfl) ((bd 2 (by omega) (by omega)).trans rfl);have JQ:cw g (ex g.ops.l (m+1)) vs rest++[bg.cells 1 [.int .i64 (m:Int)]]=cw g (ex g.ops.l (m+1)) vs (rest++[.cells 1 [.int .i64 (m:Int)]]) :=rfl;have Fi:(cw g (ex g.ops.l (m+1)) vs rest).length=rest.length+3:=by simp[cw]
       simp[w8,Si,QF,ab4,BJ,ac2,B3,abz,JQ,Fi,aF];refine dq.cr ?_;simp;have Kc:cq Ag=false:=by
        cases aM:cq Ag with
        | true=>have:=(cc.1 (iK.1 aM)).2; cases this
        | false=>rfl
       refine⟨n9,by rw[IntKind.wrap_i64]; omega,⟨⟨vs,cb,dh,Ky,fc,rfl,?_,QH,?_,?_,.inr ⟨?_,?_⟩⟩⟩,EO⟩
       ·exact uF.frame fun b af ⟨a,tC,h1,ad,aj⟩=>(bd b (by omega) (fun e=>hQ a tC h1 ad (by omega))).trans (JM af)
       ·rw[ph,aqV]; exact aQ
       ·rw[Kc,ph]; simp
       ·rcases bh with e | e<;>omega
       ·rcases bh with e | e
        ·rw[e]; exact hQ
        ·exact CK uF (by omega)
      ·have ph:im g.ops.l (m+1)=im g.ops.l m:=by
        rw[Uz,uV];have:o.bo.l.isEmpty=false:=by cases ec:o.bo.l with | nil=>rw[ec] at av; exact absurd rfl av | cons=>rfl
        rw[this]; simp
       simp[w8,Si,QF,qe,BJ,J5,B3,Fb,av];exact⟨n9,by rw[IntKind.wrap_i64]; omega,⟨⟨vs,cb,dh,gS,rest,rfl,uF,QH,by rw[ph]; exact EK,by rw[ph]; exact j8,by rw[ph]; exact k7⟩⟩,EO⟩
    ·simp;obtain⟨vs,cb,dh,gS,rest,rfl,eP,mB,hK,j8,k7⟩:=jC;refine⟨⟨vs,cb,dh,gS,rest++[.cells 11 O],rfl,eP.more _,mB,hK.more _,j8,k7,by rw[EQ,aqB (aqv _)]; simp,by rw[EQ]; simp[cw],CK eP (by rw[EQ]; exact aqv _)⟩⟩
   ·have h6:m=g.ops.l.length:=by omega
    subst h6;obtain⟨vs,cb,dh,adZ,agY,rfl,QD,mB,uG,aaA,aaz⟩:=jC;have IQ:=afP mB;have kg:vs.length=g.ops.l.length:=by rw[QD.nC,mB.len]
    have hL:CJ g.ids.l g.ops.l=true:=decide_eq_true fun o ef=>by
     obtain⟨j,e4⟩:=aqU.1 ef;have:=eT j (aqr.1 e4).1
     rwa [xJ e4] at this
    have QB:=aeh (ids:=g.ids.l) (ops:=g.ops.l) ak;rw[<-ajJ] at QB;have aaB:qX g vs cb dh (ex g.ops.l g.ops.l.length) (im g.ops.l g.ops.l.length) eH agY:=⟨⟨adZ,QD,uG,aaA,aaz⟩⟩
    simp;refine cE g.ops.l.length (fun d ae l=>ae 1=.ptr 0 0 2/\ae 4=.ar 1 1 0 g.ops.l.length g.ops.l.length g.ops.l.length/\ae 5=.ar 1 2 0 g.ops.l.length g.ops.l.length g.ops.l.length/\ae 13=.int .i64 d ∧
     ∃ W R rest,l=cw g W vs rest/\qX g vs cb dh W R (ae 6) rest/\qW g.ids.l g.ops.l [] d 0 R W) ?_ ?_
    ·rintro d ae l br ⟨aF,bd,bh,mz,W,R,rest,rfl,jC,aS⟩;obtain⟨eH,cc⟩:∃ v,ae 6=v:=⟨_,rfl⟩
     rw[cc] at jC;obtain⟨ae,rfl⟩:=lC aF bd bh cc mz;clear aF bd bh cc mz;have I1:cL (.ar 1) eH=some (.int .i64 R.length) :=by obtain⟨gS,_,hK,_⟩:=jC; have:=hK.len; simpa using this
     have j8:R.length<=g.ops.l.length:=by
      have:=tF (b:=List.range g.ops.l.length) aS.po fun x ag=>aqZ.2 (aS.nR x ag).1
      simpa using this
     by_cases BB:d<R.length
     ·obtain⟨a,az,aaK⟩:=bW BB;have aaL:=(aS.nR a aaK).1;have aR:IntKind.i64.wrap ((d:Int)+1)=((d+1:Nat) :Int) :=by rw[IntKind.wrap_i64]; omega
      obtain⟨row,cj,_⟩:=bW (l:=cb) (k:=a) (by rw[mB.len]; exact aaL);obtain⟨hE,zl,_⟩:=bW (l:=vs) (k:=a) (by omega);obtain⟨gS,eP,hK,QI,k7⟩:=jC;obtain⟨afM,Ox,Do,dU,dw,gZ,kA⟩:=hK.q.get (k:=.i64) (i:=d) (e:=g3 a) (by rw[aqx,az]; rfl);have ua:=one_cell (c:=.int .i64 (a:Int)) kA;have Fc:cv (.ar 1) (.ar 1 2 0 g.ops.l.length g.ops.l.length g.ops.l.length) (.int .i64 (a:Int))=some (.ptr 2 a g.ops.l.length) :=by
       simp only[cv];rw[if_pos ⟨trivial,by omega,by omega⟩];simp
      have B4:∀ sl rV,dY (cw g sl vs rV) (.ptr 2 a g.ops.l.length)=some (vs,a) :=fun sl rV=>by
       have h1:(cw g sl vs rV)[2]? = some (.cells g.ops.l.length vs) :=rfl;simp only[dY,h1]; simp
      have Kd:=(eP.own a hE row zl cj).1;have ade:cL (.ar 1) hE=some (.int .i64 row.length) :=by have:=Kd.len; simpa using this
      have pg:=mB.CZ a row cj;simp[I1,BB,dU,dw,ua,Fc,B4,zl,ade];refine cE row.length (fun j ae l=>ae 1=.ptr 0 0 2/\ae 4=.ar 1 1 0 g.ops.l.length g.ops.l.length g.ops.l.length/\ae 5=.ar 1 2 0 g.ops.l.length g.ops.l.length g.ops.l.length/\ae 13=.int .i64 d/\ae 106=hE/\ae 107=.int .i64 row.length/\ae 108=.int .i64 j ∧
       ∃ W R rest,l=cw g W vs rest/\qX g vs cb dh W R (ae 6) rest/\qW g.ids.l g.ops.l row d j R W/\R[d]? = some a) ?_ ?_
      ·rintro j ae l Jv ⟨aF,bd,bh,mz,P2,P3,P4,W,R,rest,rfl,jC,aS,az⟩;obtain⟨eH,cc⟩:∃ v,ae 6=v:=⟨_,rfl⟩
       rw[cc] at jC;obtain⟨ae,rfl⟩:=VF aF bd bh cc mz P2 P3 P4;clear aF bd bh cc mz P2 P3 P4;by_cases eN:j<row.length
       ·obtain⟨k,hk,mG⟩:=bW eN;have gv:=IQ.lt a row cj k mG;obtain⟨x,ag,zt,amS,Bn⟩:=aei ak ai IQ aS az cj hk;have amT:(dX g.ops.l k).length<=4:=by
         obtain⟨cW,dM,acA⟩:=bW gv;rw[xJ dM]; exact aC cW acA
        have aR:IntKind.i64.wrap ((j:Int)+1)=((j+1:Nat) :Int) :=by rw[IntKind.wrap_i64]; omega
        have bI:IntKind.i64.wrap (x - 1)=x - 1:=by rw[IntKind.wrap_i64]; omega
        obtain⟨gS,eP,hK,QI,k7⟩:=id jC;have Kd:=(eP.own a hE row zl cj).1;obtain⟨afM,Ox,Do,dU,dw,gZ,kA⟩:=Kd.q.get (k:=.i64) (i:=j) (e:=g3 k) (by rw[aqx,hk]; rfl);have ua:=one_cell (c:=.int .i64 (k:Int)) kA;have BJ:cv (.ar 1) (.ar 1 1 0 g.ops.l.length g.ops.l.length g.ops.l.length) (.int .i64 (k:Int))=some (.ptr 1 k g.ops.l.length) :=by
         simp only[cv];rw[if_pos ⟨trivial,by omega,by omega⟩];simp
        have wF:=aS.wl;have B3:dY (cw g W vs rest) (.ptr 1 k g.ops.l.length)=some (W.map jh,k) :=by
         have h1:(cw g W vs rest)[1]? = some (.cells g.ops.l.length (W.map jh)) :=rfl;simp only[dY,h1]; simp
        have eM:(W.map jh)[k]? = some (.int .i64 x) :=by rw[aqx,ag]; rfl
        have b4:jT 1 (cw g W vs rest) (.ptr 1 k g.ops.l.length) (.int .i64 (x - 1))=some (cw g (W.set k (x - 1)) vs rest) :=by
         have h1:(cw g W vs rest)[1]? = some (.cells g.ops.l.length (W.map jh)) :=rfl;simp only[jT,U.cells,h1];rw[if_pos (by simp; omega)];have ad:bn (W.map jh) k [U.int .i64 (x - 1)]=(W.set k (x - 1)).map jh:=ny jh W k _ (by omega);rw[ad]; rfl
        have B4:dY (cw g (W.set k (x - 1)) vs rest) (.ptr 1 k g.ops.l.length)=some ((W.set k (x - 1)).map jh,k) :=by
         have h1:(cw g (W.set k (x - 1)) vs rest)[1]? = some (.cells g.ops.l.length ((W.set k (x - 1)).map jh)) :=rfl;simp only[dY,h1]; simp
        have Fa:((W.set k (x - 1)).map jh)[k]? = some (.int .i64 (x - 1)) :=by rw[aqx,aqL (by omega)]; rfl
        have I3:qX g vs cb dh (W.set k (x - 1)) R eH rest:=jC.setW;obtain⟨iv,EL⟩:∃ iv,iv=W.set k (x - 1) :=⟨_,rfl⟩
        rw[<-EL] at b4 B4 Fa I3 Bn;by_cases av:x - 1=0
        ·rw[if_pos av] at Bn;have dJ:IntKind.i64.wrap (x - 1)=0:=by rw[bI]; exact av
         rw[av] at b4 Fa;have al8:R.length<=g.ops.l.length:=by
          have:=tF (b:=List.range g.ops.l.length) aS.po fun x ag=>aqZ.2 (aS.nR x ag).1
          simpa using this
         obtain⟨a8,fc,ly,qH⟩:=I3.push k (by rw[kK]; omega);have JQ:cw g iv vs rest++[bg.cells 1 [.int .i64 (k:Int)]]=cw g iv vs (rest++[.cells 1 [.int .i64 (k:Int)]]) :=rfl;have Fi:(cw g iv vs rest).length=rest.length+3:=by simp[cw]
         simp[eN,dU,dw,ua,BJ,B3,eM,dJ,b4,B4,Fa,JQ,Fi,ly];refine dq.cr ?_;simp[eN,aR];exact⟨iv,R++[k],fc,rfl,qH,Bn,by rw[aqt (aqr.1 az).1]; exact az⟩
        ·rw[if_neg av] at Bn;simp[eN,dU,dw,ua,BJ,B3,eM,bI,b4,B4,Fa,av,aR];exact⟨iv,R,rest,rfl,I3,Bn,az⟩
       ·have abR:j=row.length:=by omega
        subst abR;simp[eN];exact⟨by omega,by rw[IntKind.wrap_i64]; omega,W,R,rest,rfl,jC,aef IQ aS az cj⟩
      ·simp;exact⟨W,R,rest,rfl,⟨⟨gS,eP,hK,QI,k7⟩⟩,aeg aS,az⟩
     ·have abd:d=R.length:=by have:=aS.dl; omega
      subst abd;obtain⟨l8,hQ⟩:=aee ak ai aS;by_cases n5:R.length<g.ops.l.length
      ·simp[I1,BB,cw,dL,n5];refine aH (congrArg (U.int .i64) ?_) rfl;unfold pw;rw[if_pos ay,if_pos hL,if_neg (fun h=>by have:=hQ.2 h; omega)]
      ·simp[I1,BB,cw,dL,n5];refine aH (congrArg (U.int .i64) ?_) rfl;unfold pw;rw[if_pos ay,if_pos hL,if_pos (hQ.1 (by omega))]
    ·simp;exact⟨_,_,_,rfl,aaB,QB⟩
  ·simp;refine⟨⟨List.replicate g.ops.l.length .aX,List.replicate g.ops.l.length [],fun _=>0,0,[],?_,⟨by simp,fun a v row ao acQ=>?_,fun a b lA js _ az _ BS _=>?_⟩,afR _ _,.nil _,rfl,.inl rfl⟩⟩
   ·unfold cw; rw[ajL,atd]; rfl
   ·have h1:=arL (aqI ao);have ad:=arL (aqI acQ);subst h1 ad;exact⟨.nil _,rfl,.inl rfl⟩
   ·exact absurd (arL (aqI az)) BS
set_option maxHeartbeats 4000000 in
theorem GZ (g:bM) (au:hS g) :bi Tryz.prog GS 126 [c3 g] (.int .i64 (fv g)) :=by
 refine bt Tryz.checked.mixed bp ?_;apply bb Tryz.func126 [];have er:=gC g.ids;have c7:=mr g.ops;have nX:=DY g;have dL:cL (.ar 11) (b1 g.ops)=some (.int .i64 g.ops.l.length) :=by simp[b1]
 have hz:cL (.ar 32) (aT g.ids)=some (.int .i64 g.ids.l.length) :=by simp[aT]
 have bc:=au.cB;by_cases pZ:60<(g.ops.l.length:Int)
 ·simp[c3,dB,dL,pZ];refine aH (congrArg (U.int .i64) ?_) rfl;unfold fv; rw[if_pos (by omega)]
 by_cases ak:g.ids.l.length=g.ops.l.length
 ·have cN:(g.ids.l.length:Int)=(g.ops.l.length:Int) :=by omega
  simp[c3,dB,dL,hz,pZ,cN];refine cE g.ops.l.length (fun k ae l=>(∃ rest,l=.cells 2 [aT g.ids,b1 g.ops] ::rest)/\ae 1=.ptr 0 0 2/\ae 19=b1 g.ops/\ae 20=.int .i64 g.ops.l.length/\ae 21=.int .i64 k/\∀ j,j<k->nS g j=true) ?_ (by simp);rintro k ae l hk ⟨⟨rest,rfl⟩,aF,sF,P7,sG,al⟩;obtain⟨ae,rfl⟩:=iq aF sF P7 sG;clear aF sF P7 sG;by_cases cI:k<g.ops.l.length
  ·obtain⟨o,aq,ef⟩:=bW cI;obtain⟨x,ag,dm⟩:=bW (l:=g.ids.l) (k:=k) (by omega);have fX:=Eu aq ag;have aR:IntKind.i64.wrap ((k:Int)+1)=((k+1:Nat) :Int) :=by rw[IntKind.wrap_i64]; omega
   have cg:cv (.ar 11) (b1 g.ops) (.int .i64 (k:Int))=some (.b5 (bj o) 0) :=by simp[b1,aq]
   have wR:cv (.ar 32) (aT g.ids) (.int .i64 (k:Int))=some (.b5 (aY x) 0) :=by simp[aT,ag]
   have ao:=ajy o (au.ops o ef);have hv:=ajl o (au.ops o ef);change bi Tryz.prog GS 96 [.aI (bj o)] (.bu [.aI (aY (lm o)),.int .i64 (fY o)]) at hv;have p6:=pR o;have bB:=dk (au.ids x dm);have Bm:=dk (Kh o);have ds:(bj o).length=11:=rfl;have heq:=FE (Kh o) (au.ids x dm);have p2:¬ nS g k=true->fv g=8:=fun h=>by
    unfold fv;rw[if_neg (by omega),if_pos ak,if_neg fun aM=>h ((yO g).1 aM k cI)]
   obtain⟨O,fh⟩:∃ O,O=bj o:=⟨_,rfl⟩
   obtain⟨X,dy⟩:∃ X,X=aY x:=⟨_,rfl⟩
   obtain⟨I,p0⟩:∃ I,I=aY (lm o) :=⟨_,rfl⟩
   rw[<-fh] at cg ao hv p6 ds;rw[<-dy] at wR bB heq;rw[<-p0] at hv heq Bm;have oe:bn [U.int .u32 0,.aX,.int .u64 0,.int .u8 0,.str [],.int .u8 0,.int .i64 0,.int .u64 0,.str [],.int .u32 0,.int .u32 0] 0 O=O:=eC (by rw[ds]; rfl);have J2:bn (rep 32 (.int .u8 0)) 0 I=I:=eC (by rw[Bm]; rfl);simp[cI,cg,ds,oe,aqs];refine aU hv (by simp[aV,U.closed,p6]) ?_;by_cases aE:fY o=0
   ·by_cases fm:lm o=x
    ·simp[aE,Bm,J2,wR,bB,heq,fm,ds,aqs];refine aU ao (by simp[aV,U.closed,p6]) ?_;by_cases nn:pD o=0
     ·simp[nn,cI,aR];intro j ai;by_cases h5:j=k
      ·subst h5; rw[fX]; simp[nn,fm]
      ·exact al j (by omega)
     ·have af:¬ nS g k=true:=fun h=>by rw[fX] at h; simp[nn] at h
      simp[nn];exact aH (congrArg (U.int .i64) (p2 af).symm) rfl
    ·have af:¬ nS g k=true:=fun h=>by rw[fX] at h; simp[fm] at h
     simp[aE,Bm,J2,wR,bB,heq,fm,ds,aqs];exact aH (congrArg (U.int .i64) (p2 af).symm) rfl
   ·have af:¬ nS g k=true:=fun h=>by
     rw[fX,aqw,decide_eq_true_eq] at h;exact aE (Dj h.1)
    simp[aE,Bm,J2,wR,bB,heq,ds,aqs];exact aH (congrArg (U.int .i64) (p2 af).symm) rfl
  ·have n2:k=g.ops.l.length:=by omega
   have eT:Et g=true:=(yO g).2 fun j ai=>al j (by omega)
   have aC:∀ o∈g.ops.l,o.bo.l.length<=4:=fun o ef=>by
    obtain⟨j,ai⟩:=aqU.1 ef;obtain⟨x,ag,_⟩:=bW (l:=g.ids.l) (k:=j) (by have:=(aqr.1 ai).1; omega);have h1:=(yO g).1 eT j (aqr.1 ai).1;rw[Eu ai ag,aqw,decide_eq_true_eq] at h1;exact xC (Dj h1.1)
   have od:=ahC g au ak (by omega) aC;unfold c3 dB at od nX;simp[cI];refine aU od (by simp[aV,nX]) ?_;simp;refine aH (congrArg (U.int .i64) ?_) rfl;unfold fv;rw[if_neg (by omega),if_pos ak,if_pos eT]
 ·have cN:¬ (g.ids.l.length:Int)=(g.ops.l.length:Int) :=by omega
  simp[c3,dB,dL,hz,pZ,cN];refine aH (congrArg (U.int .i64) ?_) rfl;unfold fv; rw[if_neg (by omega),if_neg ak]
def sM (o:bA) :Bool:=decide (20<o.bo.l.length)||(decide (100<o.act.key.length)||decide (100<o.act.val.text.length))
theorem ago (o:bA) :bi Tryz.prog GS 80 [.aI (bj o)] (.bool (sM o)) :=by
 refine bt Tryz.checked.mixed bp ?_;apply bb Tryz.func80 [];unfold sM;have qe:cL (.ar 32) (aT o.bo)=some (.int .i64 o.bo.l.length) :=by simp[aT]
 by_cases h1:20<o.bo.l.length
 ·have dK:(20:Int)<(o.bo.l.length:Int) :=by omega
  simp[bj,qe,h1,dK];exact aH rfl rfl
 ·have dK:¬ (20:Int)<(o.bo.l.length:Int) :=by omega
  by_cases ad:100<o.act.key.length
  ·have gD:(100:Int)<(o.act.key.length:Int) :=by omega
   simp[bj,qe,h1,dK,ad,gD];exact aH rfl rfl
  ·have gD:¬ (100:Int)<(o.act.key.length:Int) :=by omega
   simp[bj,qe,h1,dK,ad,gD];refine aH (congrArg U.bool ?_) rfl;by_cases aj:100<o.act.val.text.length
   ·have uC:(100:Int)<(o.act.val.text.length:Int) :=by omega
    simp[aj,uC]
   ·have uC:¬ (100:Int)<(o.act.val.text.length:Int) :=by omega
    simp[aj,uC]
def uB (g:bM) :Bool:=decide (∃ o∈g.ops.l.take 71,sM o=true)||(decide (16<g.ops.l.length/\g.ops.l.length<=60)||(decide (70<g.ops.l.length)||decide (70<g.ids.l.length)))
theorem agn (g:bM) :bi Tryz.prog GS 39 [c3 g] (.bool (uB g)) :=by
 refine bt Tryz.checked.mixed bp ?_;apply bb Tryz.func39 [];have dL:cL (.ar 11) (b1 g.ops)=some (.int .i64 g.ops.l.length) :=by simp[b1]
 have hz:cL (.ar 32) (aT g.ids)=some (.int .i64 g.ids.l.length) :=by simp[aT]
 simp[c3,dB];refine cE (min g.ops.l.length 71) (fun k ae l=>l=[.cells 2 [aT g.ids,b1 g.ops]]/\ae 1=.ptr 0 0 2/\ae 3=.int .i64 k/\∀ (j:Nat) (o:bA),j<k->g.ops.l[j]? = some o->sM o=false) ?_ (by simp);rintro k ae l hk ⟨rfl,aF,aW,al⟩;obtain⟨ae,rfl⟩:=nA aF aW;clear aF aW;by_cases cI:k<g.ops.l.length
 ·by_cases RE:k<=70
  ·obtain⟨o,aq,ef⟩:=bW cI;have aR:IntKind.i64.wrap ((k:Int)+1)=((k+1:Nat) :Int) :=by rw[IntKind.wrap_i64]; omega
   have cg:cv (.ar 11) (b1 g.ops) (.int .i64 (k:Int))=some (.b5 (bj o) 0) :=by simp[b1,aq]
   have ao:=ago o;have p6:=pR o;have ds:(bj o).length=11:=rfl;have Jx:(k:Int)<=70:=by omega
   have mG:k<min g.ops.l.length 71:=by omega
   obtain⟨O,fh⟩:∃ O,O=bj o:=⟨_,rfl⟩
   rw[<-fh] at cg ao p6 ds;simp[dL,cI,RE,Jx,cg,ds,aqs];refine aU ao (by simp[aV,U.closed,p6]) ?_;by_cases nZ:sM o=true
   ·simp[nZ];refine aH (congrArg U.bool ?_) rfl;unfold uB;rw[decide_eq_true ⟨o,aqI (i:=k) (by rw[aqY (by omega)]; exact aq),nZ⟩]; rfl
   ·rw[asQ] at nZ;simp[nZ,aR];refine⟨by omega,fun j cW ai dM=>?_⟩;by_cases h5:j=k
    ·subst h5; rw[aq] at dM; obtain rfl:=Option.some.inj dM; exact nZ
    ·exact al j cW (by omega) dM
  ·have Jx:¬ (k:Int)<=70:=by omega
   have aD:¬ ∃ o∈g.ops.l.take 71,sM o=true:=fun ⟨o,ef,nZ⟩=>by
    obtain⟨j,ai⟩:=aqU.1 ef;have eN:=(aqr.1 ai).1;rw[aqM] at eN;rw[aqY (by omega)] at ai;rw[al j o (by omega) ai] at nZ; cases nZ
   have a7:(16:Int)<(g.ops.l.length:Int) :=by omega
   have bl:¬ (g.ops.l.length:Int)<=60:=by omega
   have a3:(70:Int)<(g.ops.l.length:Int) :=by omega
   simp[dL,hz,cI,RE,Jx,a7,bl,a3];refine aH (congrArg U.bool ?_) rfl;unfold uB;simp[show 70<g.ops.l.length by omega]
 ·have aD:¬ ∃ o∈g.ops.l.take 71,sM o=true:=fun ⟨o,ef,nZ⟩=>by
   obtain⟨j,ai⟩:=aqU.1 ef;have eN:=(aqr.1 ai).1;rw[aqM] at eN;rw[aqY (by omega)] at ai;rw[al j o (by omega) ai] at nZ; cases nZ
  have abA:uB g=(decide (16<g.ops.l.length/\g.ops.l.length<=60)||(decide (70<g.ops.l.length)||decide (70<g.ids.l.length))) :=by
   unfold uB; rw[decide_eq_false aD]; rfl
  rw[abA];have d1:decide ((16:Int)<(g.ops.l.length:Int))=decide (16<g.ops.l.length) :=by rw[decide_eq_decide]; omega
  have d2:decide ((g.ops.l.length:Int)<=60)=decide (g.ops.l.length<=60) :=by rw[decide_eq_decide]; omega
  have d3:decide ((70:Int)<(g.ops.l.length:Int))=decide (70<g.ops.l.length) :=by rw[decide_eq_decide]; omega
  have d4:decide ((70:Int)<(g.ids.l.length:Int))=decide (70<g.ids.l.length) :=by rw[decide_eq_decide]; omega
  by_cases a7:16<g.ops.l.length
  ·have tW:(16:Int)<(g.ops.l.length:Int) :=by omega
   by_cases bl:g.ops.l.length<=60
   ·have Dy:(g.ops.l.length:Int)<=60:=by omega
    simp[dL,hz,cI,a7,tW,bl,Dy];exact aH rfl rfl
   ·have Dy:¬ (g.ops.l.length:Int)<=60:=by omega
    by_cases a3:70<g.ops.l.length
    ·have Av:(70:Int)<(g.ops.l.length:Int) :=by omega
     simp[dL,hz,cI,a7,tW,bl,Dy,a3,Av];exact aH rfl rfl
    ·have Av:¬ (70:Int)<(g.ops.l.length:Int) :=by omega
     simp[dL,hz,cI,a7,tW,bl,Dy,a3,Av];exact aH (congrArg U.bool d4) rfl
  ·have tW:¬ (16:Int)<(g.ops.l.length:Int) :=by omega
   have a3:¬ 70<g.ops.l.length:=by omega
   have Av:¬ (70:Int)<(g.ops.l.length:Int) :=by omega
   simp[dL,hz,cI,a7,tW,a3,Av];exact aH (congrArg U.bool d4) rfl
def C6 (a b:bA) :Bool:=decide (a.gM=b.gM)&&(decide (a.bo.l=b.bo.l)&&(decide (a.cX=b.cX)&&(eo (ix a.act) (ix b.act)&&(decide (a.e=b.e)&&decide (a.s=b.s)))))
theorem aho (a:bA) :C6 a a=true:=by unfold C6; simp[ix,eo,U.beq]
def mS (l:List bA) (k:Nat) :bA:=l.getD k ⟨0,none,0,⟨0,[],⟨0,0,0,[]⟩⟩,0,0⟩
theorem xB {l:List bA} {k:Nat} {o:bA} (h:l[k]? = some o) :mS l k=o:=by unfold mS; rw[aqD,h]; rfl
structure pJ (g:bM) :Prop where
 n60:g.ops.l.length<=60
 len:g.ids.l.length=g.ops.l.length
 ID:∀ (k:Nat) (o:bA) (x:List B),g.ops.l[k]? = some o->g.ids.l[k]? = some x->pD o=0/\lm o=x
 eB:eB g.ids.l=true
 K8:∀ o∈g.ops.l,∀ p∈o.bo.l,p∈g.ids.l
 all:∀ i,i<g.ops.l.length->pI g.ids.l g.ops.l i
theorem tt {g:bM} (h:fv g=0) :pJ g:=by
 unfold fv at h;split at h
 ·cases h
 ·rename_i pZ;split at h
  ·rename_i ak;split at h
   ·rename_i fX;unfold pw at h;split at h
    ·rename_i ay;split at h
     ·rename_i hL;split at h
      ·rename_i mJ;refine⟨by omega,ak,fun k o x aq ag=>?_,ay,fun o ef p aB=>?_,(Ld ak (u4 ay)).1 mJ⟩
       ·have:=(yO g).1 fX k (aqr.1 aq).1;rw[Eu aq ag,aqw,decide_eq_true_eq,decide_eq_true_eq] at this;exact this
       ·exact of_decide_eq_true (of_decide_eq_true hL o ef) p aB
      ·cases h
     ·cases h
    ·cases h
   ·cases h
  ·cases h
def FP (g:bM) (x:List B) :Int:=if fv g=0 then (if x∈g.ids.l then (we g.ids.l x:Int) else 0) else 0
def FO (g:bM) (x:List B) :Int:=if fv g=0 then (if x∈g.ids.l then 0 else 6) else fv g
set_option maxHeartbeats 2000000 in
theorem aeC (g:bM) (au:hS g) (x:List B) (ag:x.length=32) :bi Tryz.prog GS 181 [c3 g,.aI (aY x)] (.bu [.int .i64 (FP g x),.int .i64 (FO g x)]) :=by
 refine bt Tryz.checked.mixed bp ?_;apply bb Tryz.func181 [];unfold FP FO;have er:=gC g.ids;have c7:=mr g.ops;have cz:=GZ g au;have kD:=hX x;have bB:=dk ag;unfold c3 dB at cz;by_cases aE:fv g=0
 ·have V:=tt aE;have al:=UZ g.ids au.ids au.li x ag V.eB;obtain⟨X,dy⟩:∃ X,X=aY x:=⟨_,rfl⟩
  rw[<-dy] at al kD bB ⊢;rw[aE] at cz;simp[c3,dB,bB,aqs];refine aU cz (by simp[aV,U.closed,er,c7]) ?_;simp[bB,aqs];refine aU al (by simp[aV,U.closed,er,kD]) ?_;by_cases hm:x∈g.ids.l
  ·simp[hm,aE];exact aH rfl rfl
  ·simp[hm,aE];exact aH rfl rfl
 ·obtain⟨X,dy⟩:∃ X,X=aY x:=⟨_,rfl⟩
  rw[<-dy] at kD bB ⊢;simp[c3,dB,bB,aqs];refine aU cz (by simp[aV,U.closed,er,c7]) ?_;simp[aE];exact aH rfl rfl
def i5 (ids:List (List B)) (seen:List Bool) (k:Nat) :List (List B) :=(List.range k).flatMap fun i=>if seen.getD i false=true then [bU ids i] else []
theorem F0 (ids:List (List B)) (seen:List Bool) (k:Nat) :i5 ids seen (k+1)=i5 ids seen k++(if seen.getD k false=true then [bU ids k] else []) :=by
 unfold i5; rw[arQ,arX]; simp
theorem FZ (ids:List (List B)) (seen:List Bool) :∀ k,(i5 ids seen k).length<=k
 | 0=>by simp[i5]
 | k+1=>by
  have:=FZ ids seen k;rw[F0,aqA];split<;>simp<;>omega
theorem aeZ {ids:List (List B)} {seen:List Bool} {x:List B}:∀ {k:Nat},x∈i5 ids seen k<->∃ i,i<k/\seen.getD i false=true/\bU ids i=x:=by
 intro k;unfold i5;rw[atn];constructor
 ·rintro⟨i,ax,ag⟩;split at ag
  ·rename_i al;rw[aq6] at ag;exact⟨i,aqZ.1 ax,al,ag.symm⟩
  ·cases ag
 ·rintro⟨i,ax,al,ag⟩;exact⟨i,aqZ.2 ax,by rw[if_pos al,ag]; simp⟩
set_option maxHeartbeats 2000000 in
theorem aeW (g:bM) (au:hS g) (seen:ez Bool) (al:seen.l.length=g.ids.l.length) :bi Tryz.prog GS 132 [c3 g,cy 1 hG seen] (aT (i8 (i5 g.ids.l seen.l seen.l.length))) :=by
 refine bt Tryz.checked.mixed bp ?_;apply bb Tryz.func132 [];have ay:cx=140737488355328:=rfl;have hz:=au.li;have eV:cL (.ar 1) (cy 1 hG seen)=some (.int .i64 seen.l.length) :=nt _;simp[c3,dB,eV];refine cE seen.l.length (fun k ae l=>ae 1=cy 1 hG seen/\ae 2=.ptr 0 0 2/\ae 8=.int .i64 seen.l.length/\ae 9=.int .i64 k/\∃ j rest,l=.cells 2 [aT g.ids,b1 g.ops] ::rest ∧
  bG 32 l (ae 5) j ((i5 g.ids.l seen.l k).map aY)/\(ae 5=.aX\/1<=j)/\cq (ae 5)=(i5 g.ids.l seen.l k).isEmpty) ?_ ?_
 ·rintro k ae l hk ⟨aF,aQ,eS,hb,j,rest,rfl,iE,ai,hd⟩;obtain⟨v,bh⟩:∃ v,ae 5=v:=⟨_,rfl⟩
  rw[bh] at iE ai hd;obtain⟨ae,rfl⟩:=lC aF aQ bh eS hb;clear aF aQ bh eS hb;by_cases cI:k<seen.l.length
  ·obtain⟨b,af,_⟩:=bW cI;obtain⟨x,ag,dm⟩:=bW (l:=g.ids.l) (k:=k) (by omega);have aR:IntKind.i64.wrap ((k:Int)+1)=((k+1:Nat) :Int) :=by rw[IntKind.wrap_i64]; omega
   have cg:cv (.ar 1) (cy 1 hG seen) (.int .i64 (k:Int))=some (.b5 [.bool b] 0) :=by rw[rB]; simp[af,hG]
   have n0:cv (.ar 32) (aT g.ids) (.int .i64 (k:Int))=some (.b5 (aY x) 0) :=by simp[aT,ag]
   have w9:seen.l.getD k false=b:=by rw[aqD,af]; rfl
   have bB:=dk (au.ids x dm);have lg:=FZ g.ids.l seen.l k;have pj:=F0 g.ids.l seen.l k;rw[w9] at pj;cases b with
   | false=>
    simp at pj;simp[cI,cg,aR];rw[pj];exact⟨j,iE,ai,hd⟩
   | true=>
    rw[if_pos rfl,gG ag] at pj;obtain⟨a8,cP,cC,a7,bl,a3,a4⟩:=yk (by_:=32) (pre:=[.cells 2 [aT g.ids,b1 g.ops]]) (rest:=rest++[.cells 32 (aY x)]) (iE.more _) ai (x:=.ar 32 (rest.length+1) 0 1 1 32) (xs:=[aY x])
     (by simp[c8,bB,aqs]) (by simp[bB]) (by omega) (by omega) (by rw[ay]; simp; omega)
    have cj:(i5 g.ids.l seen.l (k+1)).map aY=(i5 g.ids.l seen.l k).map aY++[aY x] :=by rw[pj]; simp
    obtain⟨X,dy⟩:∃ X,X=aY x:=⟨_,rfl⟩
    rw[<-dy] at n0 bB a7 bl cj;have mL:bn (rep 32 (.int .u8 0)) 0 X=X:=eC (by rw[bB]; rfl);simp only[arw,aru] at a7;simp[cI,cg,n0,bB,mL,aqs,a7];refine dq.cr ?_;simp[cI,aR];refine⟨cP,by rw[cj]; exact bl,by simpa using a3,by rw[a4,pj]; simp⟩
  ·have n2:k=seen.l.length:=by omega
   subst n2;simp[cI];exact iE.q.xO (fun x=>hX x) (i8 _) (by rw[hd,xX]) (kv _)
 ·have aE:i5 g.ids.l seen.l 0=[] :=rfl;simp[aE];exact⟨⟨0,.nil 0⟩,rfl⟩
theorem HJ:∀ l:List B,eo (l.map a6) (l.map a6)=true
 | []=>rfl
 | x::l=>by
  have h1:U.beq (a6 x) (a6 x)=true:=by simp[a6,U.beq]
  show (U.beq (a6 x) (a6 x)&&eo (l.map a6) (l.map a6))=true;rw[h1,HJ l]; rfl
theorem Xc (x:List B) :U.beq (.aI (aY x)) (.aI (aY x))=true:=HJ x
theorem Ir {x:List B} (h:x.length=32) :kn Tryz.prog 31 (.aI (aY x))=true:=by
 have h1:qv Tryz.prog 8 31=true:=by kernel_rfl
 have ad:dE Tryz.prog 31=some true:=by kernel_rfl
 have aj:cf Tryz.prog 31=some 32:=by kernel_rfl
 have aC:(x.map a6).all rQ=true:=by rw[ari]; intro c ah; obtain⟨b,_,rfl⟩:=aqR.1 ah; rfl
 show (qv Tryz.prog 8 31&&(match dE Tryz.prog 31,cf Tryz.prog 31 with | some true,some m=>Nat.beq (x.map a6).length m | _,_=>false)&&(x.map a6).all rQ)=true;rw[h1,ad,aj,aC,aqS,h];rfl
theorem Tp:∀ {a b:List B},a.map (fun x=>u x)=b.map (fun x=>u x)<->a=b
 | [],[]=>by simp
 | [],_::_=>by simp
 | _::_,[]=>by simp
 | x::a,y::b=>by
  rw[aqP,aqP,List.cons.injEq,List.cons.injEq,Tp (a:=a) (b:=b)];simp
theorem Y3 {a b:List B} (az:a.length=32) (af:b.length=32) {D:Nat}:ea Tryz.prog (D+2) 31 (.aI (aY a)) (.aI (aY b))=some (decide (a=b)) :=by
 have h:=Y5 (P:=Tryz.prog) (t:=31) (e:=5) (k:=.u8) (n:=32) (by kernel_rfl) (by kernel_rfl) (by kernel_rfl) (by kernel_rfl) (x:=a.map fun x=>u x) (y:=b.map fun x=>u x) (by simp[az]) (by simp[af]) (D:=D);rw[asv,asv] at h;unfold aY;rw[show a.map a6=a.map (U.int .u8 ∘ fun x=>u x) from rfl,show b.map a6=b.map (U.int .u8 ∘ fun x=>u x) from rfl,h];simp only[Tp]
inductive qT:Nat->List (U × U × Nat)->List (List B)->Prop
 | nil (b:Nat) :qT b [] []
 | cons {b:Nat} {es:List (U × U × Nat)} {bE:List (List B)} {k:List B} (n:Nat) (hk:k.length=32) (h:qT (b+1) es bE) :qT b ((.aI (aY k),.int .i64 (b:Int),n) ::es) (k::bE)
theorem qT.len {b:Nat} {es:List (U × U × Nat)} {bE:List (List B)} (h:qT b es bE) :es.length=bE.length:=by induction h<;>simp_all
theorem qT.snoc {b:Nat} {es:List (U × U × Nat)} {bE:List (List B)} (h:qT b es bE) {k:List B} (hk:k.length=32) (n:Nat) :qT b (es++[(.aI (aY k),.int .i64 ((b+bE.length:Nat) :Int),n)]) (bE++[k]) :=by
 induction h with
 | nil b=>exact .cons n hk (.nil _)
 | @cons b es bE k' m et h aJ=>
  refine .cons m et ?_;rw[show b+1+bE.length=b+(k'::bE).length by simp; omega] at aJ;exact aJ
theorem PJ {x:List B} (ag:x.length=32) {b:Nat} {es:List (U × U × Nat)} {bE:List (List B)} (h:qT b es bE) :∀ c,(∀ i,bE[i]? = some x->(∀ j,j<i->bE[j]?≠some x)->iW Tryz.prog 31 (.aI (aY x)) es c=some (some (c+i,.int .i64 ((b+i:Nat) :Int))))/\(x∉bE->iW Tryz.prog 31 (.aI (aY x)) es c=some none) :=by
 induction h with
 | nil b=>intro c; exact⟨fun i h=>by simp at h,fun _=>rfl⟩
 | @cons b es bE k n hk h aJ=>
  intro c;unfold iW;rw[Ir hk];simp only;rw[show ea Tryz.prog 10000 31 (.aI (aY x)) (.aI (aY k))=some (decide (x=k)) from Y3 ag hk (D:=9998)];by_cases ap:x=k
  ·subst ap;simp only[decide_true,Xc];refine⟨fun i ax eU=>?_,fun h=>absurd (by simp) h⟩;cases i with
   | zero=>rfl
   | succ i=>exact absurd rfl (eU 0 (by omega))
  ·simp only[ap,decide_false];obtain⟨h1,ad⟩:=aJ (c+1);refine⟨fun i ax eU=>?_,fun h=>ad (fun h'=>h (by simp[h']))⟩;cases i with
   | zero=>simp at ax; exact absurd ax.symm ap
   | succ i=>
    rw[h1 i (by simpa using ax) (fun j ai=>by have:=eU (j+1) (by omega); simpa using this)];rw[show c+1+i=c+(i+1) by omega,show b+1+i=b+(i+1) by omega]
structure me (l:am) (j:Nat) (bE:List (List B)) :Prop where
 e:∃ es dZ,l[j]? = some (.map es dZ)/\qT 0 es bE
theorem me.look {l:am} {j:Nat} {bE:List (List B)} (h:me l j bE) (ai:mc bE) {x:List B} (ag:x.length=32) {i:Nat} (ax:bE[i]? = some x) :vi Tryz.prog l 31 (.int .i64 0) false (.mp j) (.aI (aY x))=some (.int .i64 (i:Int)) :=by
 obtain⟨es,dZ,h1,ad⟩:=h.e;have aj:rG l (.mp j)=some es:=by simp[rG,h1]
 unfold vi;rw[aj];simp only[Ir ag];rw[(PJ ag ad 0).1 i ax (fun t aP aM=>by have:=ai t i x aM ax; omega)];simp
theorem me.put {l:am} {j:Nat} {bE:List (List B)} (h:me l j bE) {x:List B} (ag:x.length=32) (aD:x∉bE) :∃ c,rH Tryz.prog l 31 (.mp j) (.aI (aY x)) (.int .i64 (bE.length:Int))=some (l.set j c)/\(∀ l' : am,l'[j]? = some c->me l' j (bE++[x])) :=by
 obtain⟨es,dZ,h1,ad⟩:=h.e;unfold rH;simp only[h1,Ir ag,(PJ ag ad 0).2 aD];exact⟨_,rfl,fun l' cN=>⟨_,_,cN,by have:=ad.snoc ag dZ; rw[arD] at this; exact this⟩⟩
theorem me.frame {l l' : am} {j:Nat} {bE:List (List B)} (h:me l j bE) (ai:l'[j]? = l[j]?) :me l' j bE:=by
 obtain⟨es,dZ,h1,ad⟩:=h.e;exact⟨es,dZ,by rw[ai,h1],ad⟩
theorem me.lt {l:am} {j:Nat} {bE:List (List B)} (h:me l j bE) :j<l.length:=by
 obtain⟨es,dZ,h1,ad⟩:=h.e;exact (aqr.1 h1).1
theorem aeP {P:Program} {aw:Operand->U} {l:am} {o:Operand} {k:IntKind} {n:Int} (h:aw o=.int k n) :bF P aw l (.tm (some o))=some (.mp l.length,l++[.map [] 0]) :=by
 show (match asInt (aw o) with | some _=>some (U.mp l.length,l++[bg.map [] 0]) | none=>none)=_;rw[h]; rfl
set_option maxHeartbeats 2000000 in
theorem TY (g:bM) (au:hS g) (ai:mc g.ids.l) {l:am} {K:U->am->Prop} (aS:∀ j l',me l' j g.ids.l->l.length<=j->(∀ c,c<l.length->l'[c]? = l[c]?)->l.length<=l'.length->K (.mp j) l') :
  c2 Tryz.prog GS 131 [c3 g] l (c:=⟨K⟩) :=by
 apply bb Tryz.func131 [];have hz:=au.li;have eV:cL (.ar 32) (aT g.ids)=some (.int .i64 g.ids.l.length) :=by simp[aT]
 simp[c3,dB,eV];rw[aeP (k:=.i64) (n:=g.ids.l.length) (by simp)];simp[eV];refine cE g.ids.l.length (fun k ae l'=>ae 3=.mp (l.length+1)/\ae 11=aT g.ids/\ae 12=.int .i64 g.ids.l.length/\ae 13=.int .i64 k/\me l' (l.length+1) (g.ids.l.take k)/\(∀ c,c<l.length->l'[c]? = l[c]?)) ?_ ?_
 ·rintro k ae l' hk ⟨aW,hu,hI,mz,k6,g5⟩;obtain⟨ae,rfl⟩:=iq aW hu hI mz;clear aW hu hI mz;by_cases cI:k<g.ids.l.length
  ·obtain⟨x,ag,dm⟩:=bW cI;have aR:IntKind.i64.wrap ((k:Int)+1)=((k+1:Nat) :Int) :=by rw[IntKind.wrap_i64]; omega
   have n0:cv (.ar 32) (aT g.ids) (.int .i64 (k:Int))=some (.b5 (aY x) 0) :=by simp[aT,ag]
   have qo:=au.ids x dm;have bB:=dk qo;have b4:g.ids.l.take (k+1)=g.ids.l.take k++[x] :=by rw[aqN,ag]; rfl
   have eU:x∉g.ids.l.take k:=fun hm=>by
    obtain⟨t,aP⟩:=aqU.1 hm;have jG:=(aqr.1 aP).1;rw[aqM] at jG;rw[aqY (by omega)] at aP;have:=ai t k x aP ag; omega
   have aL:=k6.lt;have aax:me (l'++[.cells 32 (aY x)]) (l.length+1) (g.ids.l.take k) :=k6.frame (aqt aL);obtain⟨c,ci,dd⟩:=aax.put qo eU;have i0:(g.ids.l.take k).length=k:=by rw[aqM]; omega
   rw[i0] at ci;obtain⟨X,dy⟩:∃ X,X=aY x:=⟨_,rfl⟩
   rw[<-dy] at n0 bB ci;have mL:bn (rep 32 (.int .u8 0)) 0 X=X:=eC (by rw[bB]; rfl);simp[cI,n0,bB,mL,aqs,ci,aR];refine⟨?_,fun c' e8=>?_⟩
   ·rw[b4];exact dd _ (by rw[aqL (by simp; omega)])
   ·rw[aqG (by omega),aqt (by omega)];exact g5 c' e8
  ·have n2:k=g.ids.l.length:=by omega
   rw[n2,aq0] at k6;simp[cI];exact aS _ _ k6 (by omega) g5 (by have:=k6.lt; omega)
 ·simp;refine⟨⟨[],0,by simp,.nil 0⟩,fun c ah=>by rw[aqt ah]⟩
inductive kT (ids:List (List B)) (ops:List bA) (L:List (List B)) :Nat->Prop
 | start (p:List B) (j:Nat) (aB:p∈L) (ai:ids[j]? = some p) :kT ids ops L j
 | step (i:Nat) (p:List B) (j:Nat) (h:kT ids ops L i) (aB:p∈dX ops i) (ai:ids[j]? = some p) :kT ids ops L j
theorem kT.mono {ids:List (List B)} {ops:List bA} {L MX:List (List B)} (al:∀ p∈L,p∈MX) {i:Nat} (h:kT ids ops L i) :kT ids ops MX i:=by
 induction h with
 | start p j aB ai=>exact .start p j (al p aB) ai
 | step i p j _ aB ai aJ=>exact .step i p j aJ aB ai
theorem kT.under {ids:List (List B)} {ops:List bA} {L:List (List B)} {i:Nat} (ax:kT ids ops L i) {j:Nat} (h:kT ids ops (dX ops i) j) :kT ids ops L j:=by
 induction h with
 | start p j aB ai=>exact .step i p j ax aB ai
 | step lk p j _ aB ai aJ=>exact .step lk p j aJ aB ai
structure oP (ids:List (List B)) (ops:List bA) (L:List (List B)) (S ho:List Bool) :Prop where
 len:ho.length=S.length
 mono:∀ (i:Nat),S[i]? = some true->ho[i]? = some true
 st:∀ p∈L,∀ (j:Nat),ids[j]? = some p->ho[j]? = some true
 new:∀ (i:Nat),ho[i]? = some true->S[i]? = some true\/(kT ids ops L i/\∀ p∈dX ops i,∀ (j:Nat),ids[j]? = some p->ho[j]? = some true)
theorem VN (ids:List (List B)) (ops:List bA) (S:List Bool) :oP ids ops [] S S:=⟨rfl,fun _ h=>h,fun p aB=>by simp at aB,fun _ h=>.inl h⟩
theorem VO {ids:List (List B)} {ops:List bA} {L:List (List B)} {p:List B} {S M0 je:List Bool} (h1:oP ids ops L S M0) (ad:oP ids ops [p] M0 je) :oP ids ops (L++[p]) S je:=by
 refine⟨ad.len.trans h1.len,fun i h=>ad.mono i (h1.mono i h),fun q bm j ai=>?_,fun i h=>?_⟩
 ·rw[arz] at bm;rcases bm with bm | bm
  ·exact ad.mono j (h1.st q bm j ai)
  ·exact ad.st q bm j ai
 ·rcases ad.new i h with aj | ⟨aj,aC⟩
  ·rcases h1.new i aj with aZ | ⟨aZ,bx⟩
   ·exact .inl aZ
   ·exact .inr ⟨aZ.mono fun q bm=>by simp[bm],fun q bm j ai=>ad.mono j (bx q bm j ai)⟩
  ·exact .inr ⟨aj.mono fun q bm=>by simp at bm; simp[bm],aC⟩
theorem ajb {ids:List (List B)} {ops:List bA} (jm:mc ids) {p:List B} {i:Nat} {S:List Bool} (ax:ids[i]? = some p) (al:S[i]? = some true) :oP ids ops [p] S S:=by
 refine⟨rfl,fun _ h=>h,fun q bm j ai=>?_,fun _ h=>.inl h⟩;rw[aq6] at bm;subst bm;rw[jm j i q ai ax];exact al
theorem ajc {ids:List (List B)} {ops:List bA} (jm:mc ids) {p:List B} {i:Nat} {S je:List Bool} (ax:ids[i]? = some p) (ak:i<S.length) (h:oP ids ops (dX ops i) (S.set i true) je) :oP ids ops [p] S je:=by
 have hit:je[i]? = some true:=h.mono i (aqL ak);have Sj:kT ids ops [p] i:=.start p i (by simp) ax;refine⟨by rw[h.len]; simp,fun j ai=>h.mono j ?_,fun q bm j ai=>?_,fun j ai=>?_⟩
 ·by_cases hx:i=j
  ·subst hx; exact aqL ak
  ·rw[aqG hx]; exact ai
 ·rw[aq6] at bm;subst bm;rw[jm j i q ai ax];exact hit
 ·rcases h.new j ai with h1 | ⟨h1,ad⟩
  ·by_cases hx:i=j
   ·subst hx;exact .inr ⟨Sj,fun q bm t aP=>h.st q bm t aP⟩
   ·rw[aqG hx] at h1;exact .inl h1
  ·exact .inr ⟨Sj.under h1,ad⟩
theorem aja {ids:List (List B)} {ops:List bA} {L:List (List B)} {n:Nat} {S:List Bool} (h:oP ids ops L (List.replicate n false) S) (i:Nat) :S[i]? = some true<->kT ids ops L i:=by
 have eU:∀ (j:Nat),(List.replicate n false)[j]?≠some true:=fun j ai=>by
  have:=arL (aqI ai);cases this
 constructor
 ·intro ax;rcases h.new i ax with h1 | ⟨h1,_⟩
  ·exact absurd h1 (eU i)
  ·exact h1
 ·intro ax
  induction ax with
  | start p j aB ai=>exact h.st p aB j ai
  | step i p j _ aB ai aJ=>
   rcases h.new i aJ with h1 | ⟨_,ad⟩
   ·exact absurd h1 (eU i)
   ·exact ad p aB j ai
structure nG (g:bM) (eK j3 j2 jy gm e9:Nat) (S:List Bool) (l:am) :Prop where
 a:l[eK]? = some (.cells 1 [.mp e9])
 s:l[j3]? = some (.cells 1 [.ar 1 gm 0 g.ids.l.length g.ids.l.length g.ids.l.length])
 En:l[j2]? = some (.cells 2 [aT g.ids,b1 g.ops])
 v:l[jy]? = some (.cells 1 [.fn 233 [] [.ptr eK 0 1,.ptr j3 0 1,.ptr j2 0 2,.ptr jy 0 1]])
 m:me l e9 g.ids.l
 r:l[gm]? = some (.cells g.ids.l.length (S.map U.bool))
 n:S.length=g.ids.l.length
 ne:gm≠eK/\gm≠j3/\gm≠j2/\gm≠jy/\gm≠e9
theorem nG.frame {g:bM} {eK j3 j2 jy gm e9:Nat} {S:List Bool} {l l' : am} (h:nG g eK j3 j2 jy gm e9 S l) (aA:∀ c,c<l.length->l'[c]? = l[c]?) :nG g eK j3 j2 jy gm e9 S l':=by
 have lt:∀ {c:Nat} {x:bg},l[c]? = some x->c<l.length:=fun h=>(aqr.1 h).1
 exact⟨(aA _ (lt h.a)).trans h.a,(aA _ (lt h.s)).trans h.s,(aA _ (lt h.En)).trans h.En,(aA _ (lt h.v)).trans h.v,h.m.frame (aA _ h.m.lt),(aA _ (lt h.r)).trans h.r,h.n,h.ne⟩
theorem nG.more {g:bM} {eK j3 j2 jy gm e9:Nat} {S:List Bool} {l:am} (h:nG g eK j3 j2 jy gm e9 S l) (x:am) :nG g eK j3 j2 jy gm e9 S (l++x) :=h.frame fun c ah=>aqt ah
theorem nG.set {g:bM} {eK j3 j2 jy gm e9:Nat} {S:List Bool} {l:am} (h:nG g eK j3 j2 jy gm e9 S l) (i:Nat) :nG g eK j3 j2 jy gm e9 (S.set i true) (l.set gm (.cells g.ids.l.length ((S.set i true).map U.bool))) :=by
 obtain⟨kq,pn,qE,rI,xv⟩:=h.ne;have ak:gm<l.length:=(aqr.1 h.r).1;exact⟨by rw[aqG kq]; exact h.a,by rw[aqG pn]; exact h.s,by rw[aqG qE]; exact h.En,by rw[aqG rI]; exact h.v,h.m.frame (aqG xv),aqL ak,by simpa using h.n,h.ne⟩
theorem PU:ht Tryz.prog 233=true:=by kernel_rfl
set_option maxHeartbeats 4000000 in
theorem ai5 (g:bM) (au:hS g) (V:pJ g) (eK j3 j2 jy gm e9:Nat) :∀ (m:Nat) (S:List Bool) (l:am) (p:List B) (i:Nat) (K:U->am->Prop),S.count false<=m->nG g eK j3 j2 jy gm e9 S l->g.ids.l[i]? = some p->
  (∀ l' ho,oP g.ids.l g.ops.l [p] S ho->nG g eK j3 j2 jy gm e9 ho l'->(∀ c,c<l.length->c≠gm->l'[c]? = l[c]?)->l.length<=l'.length->ho.count false<=S.count false->K (.bu []) l')->
  c2 Tryz.prog GS 233 [.aI (aY p),.ptr eK 0 1,.ptr j3 0 1,.ptr j2 0 2,.ptr jy 0 1] l (c:=⟨K⟩) :=by
 have jm:=u4 V.eB;intro m
 induction m using Nat.strongRecOn with
 | _ m aJ=>
  intro S l p i K hm j9 ax aS;apply bb Tryz.func233 [];have w7:=aqI ax;have R5:=au.ids p w7;have fk:=(aqr.1 ax).1;have i0:=(j9.more [.cells 32 (aY p)]).m.look jm R5 ax;have bB:=dk R5;obtain⟨X,dy⟩:∃ X,X=aY p:=⟨_,rfl⟩
  rw[<-dy] at i0 bB ⊢;have wD:=j9.more [.cells 32 X];obtain⟨l1,gl⟩:∃ l1,l1=l++[bg.cells 32 X] :=⟨_,rfl⟩
  rw[<-gl] at wD i0;have aa1:l1[l.length]? = some (.cells 32 X) :=by rw[gl]; simp
  have dS:dY l1 (.ptr eK 0 1)=some ([.mp e9],0) :=by simp only[dY,wD.a]; simp
  have fc:dY l1 (.ptr j3 0 1)=some ([.ar 1 gm 0 g.ids.l.length g.ids.l.length g.ids.l.length],0) :=by simp only[dY,wD.s]; simp
  have Gm:dY l1 (.ptr l.length 0 32)=some (X,0) :=by simp only[dY,aa1]; simp
  have Gn:dY l1 (.ptr gm i g.ids.l.length)=some (S.map U.bool,i) :=by simp only[dY,wD.r]; simp
  have Ru:cv (.ar 1) (.ar 1 gm 0 g.ids.l.length g.ids.l.length g.ids.l.length) (.int .i64 (i:Int))=some (.ptr gm i g.ids.l.length) :=by
   simp only[cv];rw[if_pos ⟨trivial,by omega,by omega⟩];simp
  obtain⟨b,af,_⟩:=bW (l:=S) (k:=i) (by rw[j9.n]; exact fk);have amt:(S.map U.bool)[i]? = some (.bool b) :=by rw[aqx,af]; rfl
  have JA:l1.length=l.length+1:=by rw[gl]; simp
  have Rl:∀ c,c<l.length->c≠gm->l1[c]? = l[c]?:=fun c ah _=>by rw[gl,aqt ah]
  cases b with
  | true=>
   simp[bB,<-gl,dS,fc,Gm,i0,Ru,Gn,af,aqs];exact aS l1 S (ajb jm ax af) wD Rl (by omega) (aqv _)
  | false=>
   have b4:jT 1 l1 (.ptr gm i g.ids.l.length) (.bool true)=some (l1.set gm (.cells g.ids.l.length ((S.set i true).map U.bool))) :=by
    simp only[jT,U.cells,wD.r];rw[if_pos (by simp; omega)];have ad:bn (S.map U.bool) i [U.bool true]=(S.set i true).map U.bool:=ny U.bool S i true (by rw[j9.n]; exact fk);rw[ad]
   have I5:=wD.set i;obtain⟨bZ,fC⟩:∃ bZ,bZ=l1.set gm (.cells g.ids.l.length ((S.set i true).map U.bool)) :=⟨_,rfl⟩
   rw[<-fC] at b4 I5;have tx:dY bZ (.ptr j2 1 2)=some ([aT g.ids,b1 g.ops],1) :=by simp only[dY,I5.En]; simp
   obtain⟨o,aq,ef⟩:=bW (l:=g.ops.l) (k:=i) (by rw[<-V.len]; exact fk);have cg:cv (.ar 11) (b1 g.ops) (.int .i64 (i:Int))=some (.b5 (bj o) 0) :=by simp[b1,aq]
   have rg:(bj o).length=11:=rfl;have k5:(bj o)[1]? = some (aT o.bo) :=rfl;have ze:=au.ops o ef;have jp:=ze.len;have qe:cL (.ar 32) (aT o.bo)=some (.int .i64 o.bo.l.length) :=by simp[aT]
   obtain⟨O,fh⟩:∃ O,O=bj o:=⟨_,rfl⟩
   rw[<-fh] at cg rg k5;have abv:∀ c,c<l.length->c≠gm->bZ[c]? = l[c]?:=fun c ah bY=>by rw[fC,aqG (Ne.symm bY)]; exact Rl c ah bY
   have JB:l.length<=bZ.length:=by rw[fC]; simp; omega
   have amo:(S.set i true).count false+1<=S.count false:=by
    have abK:i<S.length:=by rw[j9.n]; exact fk
    have o9:S[i]=false:=(aqr.1 af).2;have ke:0<S.count false:=as6.2 (aqI af);rw[List.count_set abK,o9];simp; omega
   simp[bB,<-gl,dS,fc,Gm,i0,Ru,Gn,af,aqs,b4,tx,cg,k5,qe];refine cE o.bo.l.length (fun q ae l'=>ae 4=.ptr jy 0 1/\ae 24=aT o.bo/\ae 25=.int .i64 o.bo.l.length/\ae 26=.int .i64 q/\∃ ho,oP g.ids.l g.ops.l (o.bo.l.take q) (S.set i true) ho/\nG g eK j3 j2 jy gm e9 ho l' ∧
    (∀ c,c<l.length->c≠gm->l'[c]? = l[c]?)/\l.length<=l'.length/\ho.count false<=(S.set i true).count false) ?_ ?_
   ·rintro q ae l' bm ⟨bd,lN,jB,k2,ho,rh,wC,g5,qd,E2⟩;obtain⟨ae,rfl⟩:=iq bd lN jB k2;clear bd lN jB k2;by_cases mK:q<o.bo.l.length
    ·obtain⟨bT,gR,B1⟩:=bW mK;obtain⟨j,ai⟩:=aqU.1 (V.K8 o ef bT B1);have aR:IntKind.i64.wrap ((q:Int)+1)=((q+1:Nat) :Int) :=by rw[IntKind.wrap_i64]; omega
     have kH:cv (.ar 32) (aT o.bo) (.int .i64 (q:Int))=some (.b5 (aY bT) 0) :=by simp[aT,gR]
     have uY:=dk ((au.ops o ef).ids bT B1);have wE:=wC.more [.cells 32 (aY bT)];have vw:dY (l'++[bg.cells 32 (aY bT)]) (.ptr jy 0 1)=some ([.fn 233 [] [.ptr eK 0 1,.ptr j3 0 1,.ptr j2 0 2,.ptr jy 0 1]],0) :=by simp only[dY,wE.v]; simp
     have o4:=aJ (m - 1) (by omega) ho (l'++[bg.cells 32 (aY bT)]) bT j;obtain⟨sm,I6⟩:∃ sm,sm=aY bT:=⟨_,rfl⟩
     rw[<-I6] at kH uY wE vw o4;have mL:bn (rep 32 (.int .u8 0)) 0 sm=sm:=eC (by rw[uY]; rfl);simp[mK,kH,uY,mL,aqs,vw];refine⟨PU,o4 _ (by omega) wE ai ?_⟩;intro dQ Hk bS w2 dT pF r6;simp[mK,aR];refine⟨Hk,?_,w2,fun c ah bY=>?_,by simp at pF; omega,by omega⟩
     ·rw[aqN,gR];exact VO rh bS
     ·rw[dT c (by simp; omega) bY,aqt (by omega)];exact g5 c ah bY
    ·have pf:q=o.bo.l.length:=by omega
     rw[pf,aq0] at rh;simp[mK];exact aS l' ho (ajc jm ax (by rw[j9.n]; exact fk) (by rw[xJ aq]; exact rh)) wC g5 qd (by omega)
   ·simp;exact⟨S.set i true,VN _ _ _,I5,abv,JB,aqv _⟩
open Classical in
noncomputable def qJ (g:bM) (L:List (List B)) :List Bool:=(List.range g.ids.l.length).map fun i=>decide (kT g.ids.l g.ops.l L i)
theorem Lu (g:bM) (L:List (List B)) :(qJ g L).length=g.ids.l.length:=by simp[qJ]
open Classical in
theorem agG {g:bM} {L:List (List B)} {S:List Bool} (h:oP g.ids.l g.ops.l L (List.replicate g.ids.l.length false) S) :S=qJ g L:=by
 have bc:S.length=g.ids.l.length:=by rw[h.len]; simp
 apply arp;intro i;by_cases ax:i<g.ids.l.length
 ·have h1:=aja h i;obtain⟨b,af,_⟩:=bW (l:=S) (k:=i) (by omega);rw[af] at h1 ⊢;unfold qJ;rw[aqx,aq1 ax];simp only[aqy,Option.some.injEq] at h1 ⊢;cases b with
  | true=>exact (decide_eq_true (h1.1 rfl)).symm
  | false=>exact (decide_eq_false fun aM=>by have:=h1.2 aM; cases this).symm
 ·rw[aqJ (by omega),aqJ (by rw[Lu]; omega)]
set_option maxHeartbeats 4000000 in
theorem Lw (g:bM) (au:hS g) (V:pJ g) (L:eI) (ec:g7 L) (mA:L.l.length<=1000000) (fl:∀ p∈L.l,p∈g.ids.l) :bi Tryz.prog GS 182 [c3 g,aT L] (cy 1 hG (some (qJ g L.l))) :=by
 refine bt Tryz.checked.mixed bp ?_;apply bb Tryz.func182 [];have ay:cx=140737488355328:=rfl;have hz:=au.li;have abY:cL (.ar 32) (aT L)=some (.int .i64 L.l.length) :=by simp[aT]
 have abX:cL (.ar 32) (aT g.ids)=some (.int .i64 g.ids.l.length) :=by simp[aT]
 have jm:=u4 V.eB;simp[c3,dB];refine TY g au jm ?_;intro e9 l1 k6 uN g5 qd;obtain⟨dS,rfl⟩:∃ r,l1=bg.cells 2 [aT g.ids,b1 g.ops] ::r:=CI ((g5 0 (by simp)).trans rfl);obtain⟨a7,_⟩:=CA (z:=1) (by_:=1) (n:=g.ids.l.length) (k:=.i64) (k':=.i64) (zero:=[U.bool false]) (l:=(bg.cells 2 [aT g.ids,b1 g.ops] ::dS)++[bg.cells 1 [.mp e9]]) rfl (by omega) (by rw[ay]; omega);simp only[arS,LC (α:=Nat),arw] at a7;simp[abX,abY,a7];obtain⟨eK,QX⟩:∃ eK,eK=dS.length+1:=⟨_,rfl⟩
 have q1:dS.length+1+1=eK+1:=by omega
 have fZ:dS.length+2+1=eK+2:=by omega
 have pt:dS.length+3+1=eK+3:=by omega
 rw[q1,show eK+1+1=eK+2 from rfl,pt,<-QX];have RA:=k6.lt;simp at RA uN;refine cE L.l.length (fun q ae l'=>ae 6=.ptr (eK+2) 0 1/\ae 7=.ptr (eK+3) 0 1/\ae 17=aT L/\ae 18=.int .i64 L.l.length/\ae 19=.int .i64 q/\∃ ho,oP g.ids.l g.ops.l (L.l.take q) (List.replicate g.ids.l.length false) ho/\nG g eK (eK+2) 0 (eK+3) (eK+1) e9 ho l') ?_ ?_
 ·rintro q ae l' bm ⟨cc,eR,nQ,sE,sF,ho,rh,wC⟩;obtain⟨ae,rfl⟩:=lC cc eR nQ sE sF;clear cc eR nQ sE sF;by_cases mK:q<L.l.length
  ·obtain⟨bT,gR,B1⟩:=bW mK;obtain⟨j,ai⟩:=aqU.1 (fl bT B1);have aR:IntKind.i64.wrap ((q:Int)+1)=((q+1:Nat) :Int) :=by rw[IntKind.wrap_i64]; omega
   have kH:cv (.ar 32) (aT L) (.int .i64 (q:Int))=some (.b5 (aY bT) 0) :=by simp[aT,gR]
   have uY:=dk (ec bT B1);have wE:=wC.more [.cells 32 (aY bT)];have vw:dY (l'++[bg.cells 32 (aY bT)]) (.ptr (eK+3) 0 1)=some ([.fn 233 [] [.ptr eK 0 1,.ptr (eK+2) 0 1,.ptr 0 0 2,.ptr (eK+3) 0 1]],0) :=by simp only[dY,wE.v]; simp
   have o4:=ai5 g au V eK (eK+2) 0 (eK+3) (eK+1) e9 (ho.count false) ho (l'++[bg.cells 32 (aY bT)]) bT j;obtain⟨sm,I6⟩:∃ sm,sm=aY bT:=⟨_,rfl⟩
   rw[<-I6] at kH uY wE vw o4;have mL:bn (rep 32 (.int .u8 0)) 0 sm=sm:=eC (by rw[uY]; rfl);simp[mK,kH,uY,mL,aqs,vw];refine⟨PU,o4 _ (aqv _) wE ai ?_⟩;intro dQ Hk bS w2 dT pF r6;simp[mK,aR];exact⟨Hk,by rw[aqN,gR]; exact VO rh bS,w2⟩
  ·have pf:q=L.l.length:=by omega
   rw[pf,aq0] at rh;have jC:=agG rh;have xL:dY l' (.ptr (eK+2) 0 1)=some ([.ar 1 (eK+1) 0 g.ids.l.length g.ids.l.length g.ids.l.length],0) :=by simp only[dY,wC.s]; simp
   simp[mK,xL];rw[<-jC];have fj:(ho.map hG).flatten=ho.map U.bool:=by
    have:∀ t:List Bool,(t.map hG).flatten=t.map U.bool:=fun t=>by induction t with | nil=>rfl | cons b t aJ=>simp[hG,aJ]
    exact this ho
   have iE:bG 1 l' (.ar 1 (eK+1) 0 g.ids.l.length g.ids.l.length (g.ids.l.length*1)) (eK+1) (ho.map hG) :=afI (fun _ _=>rfl) wC.n (by rw[arS,fj]; exact wC.r);rw[arS] at iE;exact iE.q.xO (fun _=>rfl) (some ho) rfl rfl
 ·simp;refine⟨List.replicate g.ids.l.length false,VN _ _ _,?_⟩;subst QX;refine⟨by simp,by simp,by simp,by simp,k6.frame (by rw[<-arw]; exact aqt (by simpa using RA)),by simp,by simp,by omega⟩
noncomputable def kV (g:bM) (i:Nat) :List (List B) :=i5 g.ids.l (qJ g (dX g.ops.l i)) g.ids.l.length
set_option maxHeartbeats 2000000 in
theorem WV (g:bM) (au:hS g) (V:pJ g) (aE:fv g=0) (x:List B) (i:Nat) (ax:g.ids.l[i]? = some x) :bi Tryz.prog GS 127 [c3 g,.aI (aY x)] (.bu [aT (i8 (kV g i)),.int .i64 0]) :=by
 refine bt Tryz.checked.mixed bp ?_;apply bb Tryz.func127 [[[0],[1],[2],[3],[4],[5],[6],[7],[8,0]]];have dm:=aqI ax;have ag:=au.ids x dm;have er:=gC g.ids;have c7:=mr g.ops;have i0:=aeC g au x ag;have qd:FP g x=i:=by unfold FP; rw[if_pos aE,if_pos dm,Pc V.eB ax]
 have eu:FO g x=0:=by unfold FO; rw[if_pos aE,if_pos dm]
 rw[qd,eu] at i0;have kD:=hX x;have bB:=dk ag;have fk:=(aqr.1 ax).1;obtain⟨o,aq,ef⟩:=bW (l:=g.ops.l) (k:=i) (by rw[<-V.len]; exact fk);have cg:cv (.ar 11) (b1 g.ops) (.int .i64 (i:Int))=some (.b5 (bj o) 0) :=by simp[b1,aq]
 have k5:(bj o)[1]? = some (aT o.bo) :=rfl;have JW:=Lw g au V o.bo (au.ops o ef).ids (au.ops o ef).len (V.K8 o ef);have uR:=aeW g au (some (qJ g o.bo.l)) (by simp[Lu]);have Bs:kV g i=i5 g.ids.l (qJ g o.bo.l) (qJ g o.bo.l).length:=by unfold kV; rw[xJ aq,Lu]
 have o5:(cy 1 hG (some (qJ g o.bo.l))).closed=true:=uk (fun _=>rfl) _;have BA:=gC o.bo;obtain⟨X,dy⟩:∃ X,X=aY x:=⟨_,rfl⟩
 obtain⟨O,fh⟩:∃ O,O=bj o:=⟨_,rfl⟩
 obtain⟨M,hJ⟩:∃ M,M=cy 1 hG (some (qJ g o.bo.l)) :=⟨_,rfl⟩
 rw[<-dy] at i0 kD bB ⊢;rw[<-fh] at cg k5;rw[<-hJ] at JW uR o5;rw[ez.Ta,<-Bs] at uR;unfold c3 dB at i0 JW uR;simp[c3,dB,bB,aqs];refine aU i0 (by simp[aV,U.closed,er,c7,kD]) ?_;simp[cg,k5];refine aU JW (by simp[aV,U.closed,er,c7,BA]) ?_;simp;refine aU uR (by simp[aV,U.closed,er,c7,o5]) ?_;simp;exact aH rfl (by simp[U.closed,aV,gC])
structure WG (ids:List (List B)) (ops:List bA) (i:Nat) (x:List B) (out next:List (List B)) :Prop where
 po:out.Nodup
 CT:∀ p∈out,∃ j,ids[j]? = some p/\kT ids ops (dX ops i) j
 afo:∀ q∈next,q=x\/q∈out
 oV:∀ q,(q=x\/q∈out)->q∉next->∀ (j:Nat),ids[j]? = some q->∀ p∈dX ops j,p∈out
structure WH (ids:List (List B)) (ops:List bA) (i:Nat) (x:List B) (q:List B) (j k:Nat) (out next:List (List B)) :Prop where
 po:out.Nodup
 CT:∀ p∈out,∃ t,ids[t]? = some p/\kT ids ops (dX ops i) t
 apr:q=x\/q∈out
 afo:∀ r∈next,r=x\/r∈out
 oV:∀ r,(r=x\/r∈out)->r∉next->r≠q->∀ (t:Nat),ids[t]? = some r->∀ p∈dX ops t,p∈out
 apm:∀ p∈(dX ops j).take k,p∈out
structure MR (pre:am) (v5 eH:U) (out next:List (List B)) (b:Nat) (rest:am) :Prop where
 fB:∃ hN km,eJ 32 (pre++rest) v5 hN (out.map aY)/\eJ 32 (pre++rest) eH km (next.map aY)/\(v5=.aX\/(pre.length<=hN/\hN≠km/\hN≠b))/\pre.length<=km/\km≠b/\cq v5=out.isEmpty/\cq eH=false
structure ajR (g:bM) (pre:am) (o:bA) (b m i:Nat) (x q:List B) (j:Nat) (k:Nat) (ae:a2) (l:am) :Prop where
 aQ:ae 2=.ptr 0 0 2
 eR:ae 7=.ptr b 0 11
 eS:ae 8=.int .i64 k
 fB:∃ out next rest,l=pre++rest/\MR pre (ae 5) (ae 6) out next b rest/\(pre++rest)[b]? = some (.cells 11 (bj o))/\WH g.ids.l g.ops.l i x q j k out next/\2*(g.ids.l.length - out.length)+next.length+1<=m
structure ajS (g:bM) (pre:am) (i:Nat) (x:List B) (m:Nat) (ae:a2) (l:am) :Prop where
 aQ:ae 2=.ptr 0 0 2
 fB:∃ out next rest,l=pre++rest/\MR pre (ae 5) (ae 6) out next 0 rest/\WG g.ids.l g.ops.l i x out next/\m=2*(g.ids.l.length - out.length)+next.length
 le:m<=1000
structure bQ where
 key:List UInt8
 id:List B
 deriving DecidableEq
def eF (t:bQ) :List U:=.str t.key::aY t.id
abbrev kz:=ez bQ
def ha (s:kz) :U:=cy 33 eF s
def rL (l:List bQ) :Prop:=∀ t∈l,t.id.length=32
theorem yF {t:bQ} (h:t.id.length=32) :(eF t).length=33:=by simp[eF,dk h]
theorem H1 (t:bQ) :aV (eF t)=true:=by simp[eF,aV,U.closed,hX]
theorem yw (s:kz) :(ha s).closed=true:=uk H1 s
abbrev eW (a b:List UInt8) :Bool:=Go.Op.bytesLess a b
theorem rY (a b:List UInt8) :eW a b=true<->a<b:=by unfold eW; rw[Go.Proofs.bytesLess_eq]; simp
@[simp] theorem akR (a b:List UInt8) :oR .lss a b=some (.bool (eW a b)) :=id rfl
@[simp] theorem akQ (a b:List UInt8) :oR .gtr a b=some (.bool (!(eW a b||decide (a=b)))) :=by
 by_cases h:a=b<;>simp[oR,h]
def oW (a b:List UInt8) :Int:=if eW a b then -1 else if a=b then 0 else 1
theorem Tw (a:List UInt8) :bi Tryz.prog GS 243 [.str a] (.bool false) :=by
 refine bt Tryz.checked.mixed bp ?_;apply bb Tryz.func243 [];simp;exact aH rfl rfl
theorem O8 (a b:List UInt8) :bi Tryz.prog GS 186 [.str a,.str b] (.int .i64 (oW a b)) :=by
 refine bt Tryz.checked.mixed bp ?_;apply bb Tryz.func186 [];unfold oW;simp;refine aU (Tw a) rfl ?_;simp;refine aU (Tw b) rfl ?_;cases h1:eW a b with
 | true=>
  simp[h1];exact aH rfl rfl
 | false=>
  by_cases ad:a=b
  ·subst ad;simp[h1];exact aH rfl rfl
  ·simp[h1,ad];exact aH rfl rfl
def zS (a b:Int) :Int:=if a=0 then b else a
theorem Uv {l:am} {b:Nat} {x y:Int} (h:l[b]? = some (.cells 2 [.int .i64 x,.int .i64 y])) :ft (bK l) (.ar 1 b 0 2 2 2) (.b0 1 [[.int .i64 x],[.int .i64 y]]) :=by
 refine CU (rest:=[]) (es:=[[.int .i64 x],[.int .i64 y]]) (by simpa using h) rfl (by simp) (by simp[aV,U.closed])
theorem TK (x y:Int) :bi Tryz.prog GS 185 [.b0 1 [[.int .i64 x],[.int .i64 y]]] (.int .i64 (zS x y)) :=by
 refine bt Tryz.checked.mixed bp ?_;apply bb Tryz.func185 [];unfold zS;simp;obtain⟨X,dy⟩:∃ X,X=U.b0 1 [[.int .i64 x],[.int .i64 y]] :=⟨_,rfl⟩
 rw[<-dy];refine cE 2 (fun k ae l=>ae 3=.int .i64 0/\ae 6=X/\ae 7=.int .i64 2/\ae 8=.int .i64 k/\(1<=k->x=0)/\(2<=k->y=0)) ?_ (by simp[dy]);rintro k ae l hk ⟨aW,cc,eR,eS,h1,ad⟩;obtain⟨ae,rfl⟩:=iq aW cc eR eS;clear aW cc eR eS;rcases k with _ | _ | k
 ·by_cases ag:x=0
  ·simp[dy,ag]; exact rfl
  ·simp[dy,ag]; exact aH rfl rfl
 ·have ag:=h1 (by omega);by_cases aG:y=0
  ·simp[dy,ag,aG]; exact rfl
  ·simp[dy,ag,aG]; exact aH rfl rfl
 ·obtain rfl:k=0:=by omega
  have ag:=h1 (by omega);have aG:=ad (by omega);simp[dy,ag,aG]; exact aH rfl rfl
def j5 (a b:bQ) :Int:=zS (oW a.key b.key) (cd a.id b.id)
def gx (a b:bQ) :Bool:=if a.key=b.key then decide (cd a.id b.id<0) else eW a.key b.key
theorem TP {l:am} {j:Nat} {c:U} {a:List B} (az:a.length=32) (ai:l[j]? = some (.cells 33 (c::aY a))) :eJ 1 l (.ar 1 j 1 32 32 33) j (a.map bN) :=by
 refine .ar j 1 32 32 33 (c::aY a) _ ai (by simp[aY,az]) (by simp[az]) (fun e ap=>?_) (aqv _) (by omega) ?_
 ·obtain⟨x,_,rfl⟩:=aqR.1 ap; rfl
 ·simp only[asA,ary];rw[aqs (by simp[aY,az]),wn]; rfl
theorem O9 (a b:bQ) (az:a.id.length=32) (af:b.id.length=32) :bi Tryz.prog GS 129 [.aI (eF a),.aI (eF b)] (.int .i64 (j5 a b)) :=by
 refine bt Tryz.checked.mixed bp ?_;apply bb Tryz.func129 [[[0],[1],[2],[3],[5],[6],[7],[8],[4]]];unfold j5;have h1:=dk az;have ad:=dk af;simp[eF,h1,ad];refine aU (O8 _ _) rfl ?_;have ah:=DG (some a.id) (some b.id) (by simp[az,af]);simp;refine il ah ?_ rfl ?_
 ·exact .cons ((TP (j:=0) (c:=.str a.key) az rfl).mT (fun _=>rfl) (some a.id) rfl rfl) (.cons ((TP (j:=1) (c:=.str b.key) af rfl).mT (fun _=>rfl) (some b.id) rfl rfl) .nil)
 ·simp;refine il (TK (oW a.key b.key) (cd a.id b.id)) (.cons (Uv (by simp)) .nil) rfl ?_;simp;exact aH rfl rfl
abbrev ye:=ez (List UInt8)
def jz (k:List UInt8) :List U:=[.str k]
def wo (s:ye) :U:=cy 1 jz s
theorem O0 (s:ye) :(wo s).closed=true:=uk (fun _=>rfl) s
theorem ajo (s:ye) (ak:s.l.length<=1000000) (x:List UInt8) :bi Tryz.prog GS 190 [wo s,.str x] (.int .i64 (kj x s.l 0)) :=by
 refine bt Tryz.checked.mixed bp ?_;apply bb Tryz.func190 [];simp[wo];refine cE s.l.length (fun k ae l=>ae 0=cy 1 jz s/\ae 1=.str x/\ae 7=.int .i64 s.l.length/\ae 8=.int .i64 k/\∀ (j:Nat) (z:List UInt8),j<k->s.l[j]? = some z->z≠x) ?_ (by simp[wo]);rintro k ae l hk ⟨b9,aF,eR,eS,al⟩;obtain⟨ae,rfl⟩:=iq b9 aF eR eS;clear b9 aF eR eS;simp;refine lY (fun h=>?_) (fun h=>?_)
 ·simp only[decide_eq_true_eq] at h;obtain⟨y,aG,dg⟩:=bW (l:=s.l) (k:=k) (by omega);have aR:IntKind.i64.wrap ((k:Int)+1)=((k+1:Nat) :Int) :=by rw[IntKind.wrap_i64]; omega
  by_cases ap:x=y
  ·have fm:=Cq (n:=0) aG al ap.symm;simp[aG,jz,ap];exact aH (by rw[<-ap,fm]; simp) rfl
  ·simp[aG,jz,ap,aR];refine⟨by omega,fun j z ai av=>?_⟩;by_cases h5:j=k
   ·subst h5; rw[aG] at av; obtain rfl:=Option.some.inj av; exact fun h=>ap h.symm
   ·exact al j z (by omega) av
 ·simp[h];have lP:k=s.l.length:=by simp at h; omega
  exact aH (by rw[Kv fun j z av=>al j z (by rw[lP]; exact (aqr.1 av).1) av]) rfl
theorem ajn (s:ye) (ak:s.l.length<=1000000) (x:List UInt8) :bi Tryz.prog GS 135 [wo s,.str x] (.bool (decide (x∈s.l))) :=by
 refine bt Tryz.checked.mixed bp ?_;apply bb Tryz.func135 [];simp;refine aU (ajo s ak x) (by have:=O0 s; simp_all [aV,U.closed]) ?_;simp;exact aH (congrArg U.bool (by simp only[xh])) rfl
def aaM (l:List bQ) (k:List UInt8) :Bool:=decide (k∈l.map bQ.key)
end Op

end Go.bJ

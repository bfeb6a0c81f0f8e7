/-
  The canonical machine: slices.SortFunc on a row of one's own.
-/
import Derived.Test.YtdjbnhgdhambnaaGreatDoorVe
import Derived.Lib.AppendZerosOnto
import Derived.ProofKit
import Derived.Test.YtdjbnhgdhambnaaGreatDoorRows
set_option maxHeartbeats 16000000
set_option maxRecDepth 100000
set_option linter.unusedVariables false
set_option linter.unusedSimpArgs false
set_option linter.unnecessarySimpa false
namespace Go.bh
open Go Go.Proofs Go.Proofs.Tryz Go.Shelf Go.Sort Go.RowKit
def BC (P:bp) (f g:cj) (k:Nat) {X:Type} [Inhabited X] (dJ:X->List aE) (o:X->X->Int) :Prop:=
 ∀ (h j cap:Nat) (d:Array X) (w:aT),CmpLays P g #[] dJ k o h j d.size w->HoldsK dJ k w h j d->h<w.heap.size->d.size<4611686018427387904->
  Calls P f #[.slice (some ⟨h,j,none⟩) d.size cap,.func (.func g) #[] #[]] w fun e w'=>e=.returned (.tuple #[])/\∃ m n p,PermIn 0 d.size d m/\SortedIn (ltOf o) 0 d.size m/\w'=sortWorldK dJ k w h j n m p
def sorted {X:Type} (g:X->X->Int) (xs:List X) :List X:=xs.mergeSort fun x y=>!ltOf g y x
theorem Ly {X:Type} (g:X->X->Int) (xs:List X) :(sorted g xs).length=xs.length:=List.length_mergeSort _
section
variable {P:bp} {G:Nat->U} {X:Type} {enc:X->ag} {k:Nat}
theorem xn (hk:∀ x,(enc x).length=k) (xs:List X) {j:Nat} (o:j<xs.length*k) :∃ x c,xs[j / k]?=some x/\(enc x)[j % k]?=some c/\((xs.map enc).flatten)[j]?=some c:=by
 have t:0<k:=Nat.pos_of_ne_zero fun h=>by subst h;simp at o
 have h1:j / k<xs.length:=Nat.div_lt_of_lt_mul (by rw[Bx];exact o);have g:j % k<k:=mv _ t;refine⟨xs[j / k],(enc xs[j / k])[j % k]'(by rw[hk];exact g),bM h1,bM _,?_⟩;have p:(xs.map enc)[j / k]?=some (enc xs[j / k]):=by rw[b0,bM h1];rfl
 have m:=ln (z:=k) (fun e q=>by obtain⟨x,_,rfl⟩:=cE.1 q;exact hk x) p g;rw[Bx,Nat.div_add_mod] at m;rw[m];exact bM _
theorem HQ [Inhabited X] (hk:∀ x,(enc x).length=k) (xs:List X) {j:Nat} (h:j<xs.length*k) {c:U} (g:((xs.map enc).flatten)[j]?=some c) :(flatK (fun x=>(enc x).map valOf) k xs.toArray)[j]! = valOf c:=by
 obtain⟨x,v,h1,m,o⟩:=xn hk xs h;rw[o] at g;cases g;rw[get_flatK _ _ _ _ (by simpa using h)];have p:xs.toArray[j / k]! = x:=by
  have u:=(aL.1 h1).1;rw[getElem!_pos _ _ (by simpa using u)];simpa using (aL.1 h1).2
 rw[p];obtain⟨q,t⟩:=aL.1 m;rw[getElem!_pos _ _ (by simpa using q)];simp[t]
theorem XE [Inhabited X] {f g b off len cap sz:Nat} {cs:ag} {xs:List X} {h:aM} (z:X->X->Int) (a6:BC P f g k (fun x=>(enc x).map valOf) z) (a7:SWO (ltOf z)) (bd:∀ x y,ltOf z x y=false->ltOf z y x=false->x=y)
  (hk:∀ x,(enc x).length=k) (ax:∀ x,∀ c∈enc x,uA c=true) (bj:∀ x y,i8 P G g [.af (enc x),.af (enc y)] (.int .i64 (z x y)))
  (Q:h.f b=.cells sz cs) (C:xs.length=len) (h1:0<len) (a4:len<4611686018427387904) (bk:(cs.drop off).take (len*k)=(xs.map enc).flatten) (bT:off+len*k<=sz) :
  jU P G f [.Z k b off len cap sz,.fn g [] []] h (.aX []) (h.set b (.cells sz (av cs off ((sorted z xs).map enc).flatten))):=by
 intro ao B w muZ bI rel aC bs aS;obtain⟨bH⟩:=bI
 match bH,bs with
 | [bF,bG],_=>
 have bz:=aS 0 _ bF rfl rfl;have bA:=aS 1 _ bG rfl rfl;have bx:¬ qv h b sz:=by
  rintro (H | ⟨n,aZ,H,bO⟩)
  ·rw[Q] at H;cases H
  ·rw[Q] at H;cases H;omega
 cases bA with
 | fn _ _ _ a3 a0 bo bh _ _=>
 have bq:a3=#[]:=A5 bo;have bl:a0=#[]:=A5 bh;subst bq bl;cases bz with
 | ff _ _ _ _ _ _ _ _ _ _ br=>exact bV br bx
 | gp=>omega
 | Z _ _ _ _ _ _ aY aZ o aE aj bU bW bQ=>
 rw[Q] at aE;cases aE;have hblk:=rel.blk b o aj;rw[Q] at hblk;obtain⟨bR,bp,arr,e,bN,al,bb,aJ,U⟩:=hblk;have aR:live (h.f b)=true:=by rw[Q];rfl
 have bv:Own h muZ o.r:=⟨b,o,aR,aj,rfl⟩
 have bt:=rel.lt aR aj;have aQ:∀ m,m<len*k->∃ c,((xs.map enc).flatten)[m]?=some c/\cs[off+m]?=some c/\uA c=true:=by
  intro m p;obtain⟨x,c,aq,J,K⟩:=xn hk xs (by rw[C];exact p);refine⟨c,K,?_,ax x c (cJ J)⟩;rw[<-bk,dQ p,gx] at K;exact K
 have hH:HoldsK (fun x=>(enc x).map valOf) k w o.r (o.s+off) xs.toArray:=by
  intro m p;rw[size_flatK] at p;have aL:m<len*k:=by simpa [C] using p
  obtain⟨c,aq,J,K⟩:=aQ m aL;obtain⟨v,D,S,O⟩:=U (off+m) c J;have ah:o.s+off+m<arr.size:=by
   have:=(ik.1 D).1;omega
  constructor
  ·simp only[World.cell?,al,rM];rw[HQ hk xs (by rw[C];exact aL) aq,<-YW K O,i4];exact D
  ·simp only[World.frozen?,al];rcases aJ with H | H
   ·subst H;simp
   ·simp;intro ar;omega
 have bi:CmpLays P g #[] (fun x=>(enc x).map valOf) k z o.r (o.s+off) xs.toArray.size w:=by
  intro n os a1 bS x y;obtain⟨W,aD⟩:∃ W,W=sortWorldK (fun x=>(enc x).map valOf) k w o.r (o.s+off) n a1 os:=⟨_,rfl⟩
  have bc:∀ i,i≠o.r->i<w.heap.size->W.heap[i]?=w.heap[i]?:=by
   intro i u ah;rw[aD];show (((w.heap.modify o.r _)++os))[i]?=_;rw[pi (by simpa using ah),A7,ai (fun h=>u h.symm)]
  rw[<-aD];have a5:∀ i,(ao i/\¬ Own h muZ i)->i<w.heap.size->W.heap[i]?=w.heap[i]?:=fun i u ah=>bc i (fun bn=>u.2 (by rw[bn];exact bv)) ah
  have bC:=bj x y W (fun i=>ao i/\¬ Own h muZ i) #[.agg ((enc x).map valOf).toArray,.agg ((enc y).map valOf).toArray] (fun aB=>YV a5 (nC (aC aB).2 (aC aB).1)) rfl (fun m c v p ae=>by
   have one:∀ am:X,de W (fun i=>ao i/\¬ Own h muZ i) (.af (enc am)) (.agg ((enc am).map valOf).toArray):=fun am=>by
    refine .af _ _ V (fun i v u=>?_) (fun i c v u aK=>?_)
    ·simp only[vi,b0,FO] at u;obtain⟨c,_,rfl⟩:=u;exact Fa c
    ·simp only[vi,b0,FO] at aK;obtain⟨bJ,ar,rfl⟩:=aK;rw[u] at ar;cases ar;exact JW (ax am c (cJ u))
   match m with
   | 0=>simp at p ae;subst p ae;exact one x
   | 1=>simp at p ae;subst p ae;exact one y
   | m+2=>simp at p)
  refine bC.mono ?_;rintro e w' ⟨v,rfl,bg,bw⟩;obtain⟨q,bD,rfl⟩:=OV bg;cases bw;exact⟨rfl,q,bD,rfl⟩
 have aF:=a6 o.r (o.s+off) aY xs.toArray w bi hH bt (by simpa [C] using a4);have bX:((xs.toArray.size:Nat) :Int)=(len:Int):=by simp[C]
 rw[show (xs.toArray.size)=len by simp[C]] at aF;refine aF.mono ?_;rintro bL w' ⟨rfl,ap,n,os,a8,a9,rfl⟩;have aH:ap.toList=sorted z xs:=by
  have:=sorted_unique_holds a7 bd xs.toArray ap (by simpa [C] using a8) (by simpa [C] using a9);simpa [sorted] using this
 obtain⟨t,aU⟩:∃ t,t=sorted z xs:=⟨_,rfl⟩
 rw[<-aU] at aH ⊢;have T:t.length=len:=by rw[aU,Ly,C]
 have bm:ap=t.toArray:=by rw[<-aH]
 subst bm;have aI:((t.map enc).flatten).length=len*k:=by
  have:∀ l:List X,((l.map enc).flatten).length=l.length*k:=fun l=>by
   induction l with
   | nil=>simp
   | cons a l bB=>simp only[dg,hj,cI,bB,hk,dM];rw[ej];omega
  rw[this,T]
 obtain⟨R,I⟩:∃ R,R=putRowK (fun x=>(enc x).map valOf) k (Sort.ahead w n) o.r (o.s+off) t.toArray:=⟨_,rfl⟩
 have au:R.heap=w.heap.modify o.r (onCells (putCells id (o.s+off) (flatK (fun x=>(enc x).map valOf) k t.toArray))):=by rw[I];rfl
 have aG:off<=cs.length:=F;obtain⟨az,bE⟩:=rel.write (w':=R) (sz':=sz) (cs':=av cs off ((t.map enc).flatten)) (arr':=putCells id (o.s+off) (flatK (fun x=>(enc x).map valOf) k t.toArray) arr) Q aj al bb aJ (by rw[I];rfl) (by rw[I];rfl) (by rw[I];rfl) (by rw[au];simp)
  (by rw[au,A7,ak rfl,al];rfl) (fun i u=>by rw[au,A7,ai (fun h=>u h.symm)]) (by simp[putCells])
  (by rw[o9 aG,aI];omega) (aN _) bp (fun m c p=>by
   rw[ED aG,aI] at p;have Y:(putCells id (o.s+off) (flatK (fun x=>(enc x).map valOf) k t.toArray) arr)[o.s+m]?=(arr[o.s+m]?).map fun x=>if o.s+off<=o.s+m/\o.s+m<o.s+off+(flatK (fun x=>(enc x).map valOf) k t.toArray).size then (flatK (fun x=>(enc x).map valOf) k t.toArray)[o.s+m - (o.s+off)]! else x:=by
    unfold putCells;rw[Array.getElem?_mapIdx];rfl
   rw[size_flatK] at Y;by_cases aO:m<off
   ·rw[ak aO] at p;obtain⟨v,D,S,O⟩:=U m c p;refine⟨v,?_,S,O⟩;rw[Y,D,cA,ai F]
   ·rw[ai aO] at p;by_cases aP:m<off+len*k
    ·rw[ak aP] at p;have aw:m - off<len*k:=F;obtain⟨aW,aq,J,K⟩:=aQ (m - off) aw;rw[show off+(m - off)=m by omega] at J;obtain⟨v,D,S,O⟩:=U m aW J;obtain⟨x,bK,bM,a2,ay⟩:=xn hk t (j:=m - off) (by rw[T];exact aw);rw[ay] at p;cases p;refine⟨valOf c,?_,Fa c,JW (ax x c (cJ a2))⟩;rw[Y,D,cA,ak (by simp[T];omega),show o.s+m - (o.s+off)=m - off by omega,HQ hk t (by rw[T];exact aw) ay]
    ·rw[ai aP] at p;obtain⟨v,D,S,O⟩:=U m c p;refine⟨v,?_,S,O⟩;rw[Y,D,cA,ai (by simp[T];omega)]) (by rw[I];exact Nat.le_add_right _ _)
 have bf:ew R (grow R os):=⟨⟨rfl,rfl,rfl,by simp[grow],fun i u=>by simp only[grow];rw[pi u]⟩,aN _⟩
 obtain⟨aA,aV⟩:=p4 bE bf;refine⟨_,muZ,rfl,?_,?_,.aX [] #[] rfl (fun m c v p _=>by simp at p)⟩
 ·rw[I] at az aA;exact az.trans aA
 ·rw[I] at aV;exact aV
end
section
variable {P:bp} {G:Nat->U} {X:Type} {enc:X->ag} {k:Nat}
theorem K4 {k:Nat}:∀ {es:List (ag)},(∀ e∈es,e.length=k)->es.flatten.length=es.length*k
 | [],_=>V
 | e::es,h=>by
  rw[hj,cI,h e V,K4 (fun x g=>h x (by simp[g])),dM,ej];omega
theorem XD [Inhabited X] {f g:Nat} (m:X->X->Int) (S:BC P f g k (fun x=>(enc x).map valOf) m) (T:SWO (ltOf m)) (W:∀ x y,ltOf m x y=false->ltOf m y x=false->x=y)
  (hk:∀ x,(enc x).length=k) (ao:∀ x,∀ c∈enc x,uA c=true) (ah:∀ x y,i8 P G g [.af (enc x),.af (enc y)] (.int .i64 (m x y)))
  {l:ae} {v:U} {j:Nat} {xs:List X} (q:gR k l v j (xs.map enc)) (R:xs.length<4611686018427387904) {K:U->ae->Prop}
  (Q:xs=[]->fR P G f [v,.fn g [] []] l (c:=⟨K⟩))
  (t:∀ l',l'.length=l.length->(∀ b,b≠j->l'[b]?=l[b]?)->gR k l' v j ((sorted m xs).map enc)->K (.aX []) l') :fR P G f [v,.fn g [] []] l (c:=⟨K⟩):=by
 cases xs with
 | nil=>exact Q rfl
 | cons x xs=>
 obtain⟨o,J⟩:∃ o,o=x::xs:=⟨_,rfl⟩
 rw[<-J] at q R t;have C:0<o.length:=by rw[J];simp
 generalize p:o.map enc=O at q;cases q with
 | nil j=>rw[ni] at p;rw[p] at C;simp at C
 | Z j off n cap ap cs O u aq am au w ag ai=>
 subst p;have B:o.length=n:=by simpa using am
 have ar:n*k<=cap*k:=ck _ w;have z:j<l.length:=(aL.1 u).1;have H:=XE (P:=P) (G:=G) (cap:=cap) m S T W hk ao ah (h:=aZ l) (hJ.2 u) B F F ai F;rw[mx _ z] at H;refine⟨_,_,.ext H,V,?_⟩;have I:((sorted m o).map enc).length=n:=by rw[ce,Ly,B]
 have D:∀ e∈(sorted m o).map enc,e.length=k:=fun e ak=>by obtain⟨x,_,rfl⟩:=cE.1 ak;exact hk x
 have al:(((sorted m o).map enc).flatten).length=n*k:=by rw[K4 D,I]
 have aj:off<=cs.length:=F;refine t _ V (fun b Y=>by rw[bj (fun h=>Y h.symm)]) ?_;refine .Z j off n cap ap _ _ (bY z) (by rw[o9 aj,al];omega) I D w ag ?_;unfold av;have h1:(List.take off cs).length=off:=by rw[cL];omega
 rw[hi,ob F,qn F,h2,il F,aI F]
end
end Go.bh
namespace Go.bh
open Go
section
variable {P:bp} {l:ae} {cm:aY->U}
@[simp ↓] theorem acw (g:aG) (zero:U) (h:Bool) (m k:aY) :bT P cm l (.wH g zero h m k)=dr l (wI P l g zero h (cm m) (cm k)):=id rfl
@[simp ↓] theorem acA (g:aG) (m k x:aY) :bT P cm l (.um g m k x)=(sp P l g (cm m) (cm k) (cm x)).map fun l'=>(fC,l'):=id rfl
@[simp ↓] theorem acF (x:aY) :bT P cm l (.uJ x)=xe l (cm x):=id rfl
@[simp ↓] theorem acD (x:aY) :bT P cm l (.us x)=cP l (cm x):=id rfl
@[simp ↓] theorem abR (x:Option aY) (v:U) (K:U->ae->Prop) :ep (.uk x) v l K=K v l:=id rfl
@[simp ↓] theorem abO (g:aG) (zero:U) (h:Bool) (m k:aY) (v:U) (K:U->ae->Prop) :ep (.wH g zero h m k) v l K=K v l:=id rfl
@[simp ↓] theorem abT (g:aG) (m k x:aY) (v:U) (K:U->ae->Prop) :ep (.um g m k x) v l K=K v l:=id rfl
@[simp ↓] theorem abY (x:aY) (v:U) (K:U->ae->Prop) :ep (.uJ x) v l K=K v l:=id rfl
@[simp ↓] theorem abW (x:aY) (v:U) (K:U->ae->Prop) :ep (.us x) v l K=K v l:=id rfl
end
section
variable {z:Nat} {l l' : ae} {v:U} {j:Nat} {es:List (ag)}
theorem io (h:aH z l v j es) {by_:Nat} {x:U} {xs:List (ag)} (J:cq l z x=some (xs.flatten,xs.length)) (K:∀ e∈xs,e.length=z) (G:z≠0) (H:by_≠0) (I:(es.length+xs.length)*by_<=dj) :
  ∃ m o l',dZ l z by_ v x=some (m,l')/\aH z l' m o (es++xs)/\l.length<=l'.length/\(∀ b,b<l.length->v=.ad\/b≠j->l'[b]?=l[b]?)/\(l.length<=o\/(v≠.ad/\o=j)\/m=.ad)/\bq m=(bq v&&xs.isEmpty):=by
 by_cases C:v=.ad
 ·subst C;have O:es=[]:=h.q.oX;subst O;obtain⟨m,o,D,h1,p,t,u,g,w⟩:=lS (.nil (z:=z) (l:=l) (l.length+1)) J K G H I;refine⟨m,o,D,h1,p,t,fun b B _=>u b B F,?_,qT w⟩;rcases g with g | g
  ·exact .inl F
  ·exact .inl g
 ·obtain⟨m,o,D,h1,p,t,u,g,w⟩:=lS h J K G H I;refine⟨m,o,D,h1,p,t,fun b B P=>u b B (P.resolve_left C),?_,qT w⟩;rcases g with g | g
  ·exact .inr (.inl ⟨C,g⟩)
  ·exact .inl g
theorem bR.oH {K:U->ae->Prop} (h:aH z l v j es) (J:bq v=false) (w:K (.bu z es) (l.set j .dead)) :bR v l (c:=⟨K⟩):=by
 cases h with
 | nil j=>cases J
 | Z j n cap t cs es g R I o C P D=>
 have H:=a1 g;have q:(aZ (l.set j .dead)).f j=.dead:=by rw[jW,oe,ak rfl,ak H]
 have S:n*z<=cap*z:=ck _ C;refine .inr ⟨_,_,⟨V,fun u=>?_⟩,.Z z j 0 n cap t cs es (hJ.2 g) q I o F (fun i k e c O m hk p=>?_),w⟩
 ·by_cases B:u=j
  ·subst B;exact .inr ⟨t,cs,hJ.2 g,.inl q⟩
  ·left;rw[jW,jW,oe,ai F]
 ·have G:k<z:=by rw[<-o e (cJ m)];exact (aL.1 hk).1
  have Q:=(aL.1 m).1;have T:i*z+z<=n*z:=by rw[<-ej];exact ck _ F
  have h1:=ln o m G;rw[<-D,dQ F,hk] at h1;rw[hI,h1] at p;cases p;exact .same _
end
inductive kv where
 | b
 | i (k:cU)
 | s
def xE:kv->U->Bool
 | .b,.bool _=>true
 | .i k,.int g _=>decide (k=g)
 | .s,.str _=>true
 | _,_=>false
def gO:List kv->ag->Bool
 | [],[]=>true
 | k::b5,c::cs=>xE k c&&gO b5 cs
 | _,_=>false
theorem wY:∀ {b5:List kv} {cs:ag},gO b5 cs=true->cs.length=b5.length
 | [],[],_=>rfl
 | [],_::_,h=>by cases h
 | _::_,[],h=>by cases h
 | k::b5,c::cs,h=>by simp only[gO,bU] at h;simp[wY h.2]
theorem wZ:∀ {l r:List kv} {m:ag},gO (l++r) m=true->∃ g j,m=g++j/\gO l g=true/\gO r j=true
 | [],r,m,h=>⟨[],m,rfl,rfl,h⟩
 | k::l,r,[],h=>by cases h
 | k::l,r,c::m,h=>by
  simp only[iK,gO,bU] at h;obtain⟨g,j,rfl,h1,o⟩:=wZ h.2;exact⟨c::g,j,rfl,by simp[gO,h.1,h1],o⟩
theorem Jy {k:cU} {xs:ag} (h:gO [.i k] xs=true) :∃ p,xs=[.int k p]:=by
 cases xs with
 | nil=>cases h
 | cons c r=>
  simp only[gO,bU] at h;cases r with
  | cons _ _=>cases h.2
  | nil=>
   cases c<;>simp only[xE] at h<;>try (cases h.1;done)
   rename_i k' p;have hk:k=k':=by simpa using h.1
   subst hk;exact⟨p,rfl⟩
theorem BP:∀ {g j m o:ag},g.length=j.length->dz (g++m) (j++o)=(dz g j&&dz m o)
 | [],[],_,_,_=>by simp[dz]
 | [],_::_,_,_,h=>by simp at h
 | _::_,[],_,_,h=>by simp at h
 | a::g,b::j,m,o,h=>by
  simp only[dM,Nat.add_right_cancel_iff] at h;simp only[iK,dz,BP h,Fo]
section
variable (P:bp)
def zf (f:aG->Option (List kv)) :List Field->Nat->Option (List kv)
 | [],_=>some []
 | fd::j,g=>match f fd.type,ca P fd.type with
  | some l,some h=>match fd.name != "_"&&Nat.beq fd.offset g&&Nat.beq l.length h with
   | true=>match zf f j (g+h) with
    | some r=>some (l++r)
    | none=>none
   | false=>none
  | _,_=>none
def mP:Nat->aG->Option (List kv)
 | 0,_=>none
 | d+1,g=>match P.underlying g with
  | some .bool=>some [.b]
  | some (.int k)=>some [.i k]
  | some .string=>some [.s]
  | some (.array n e)=>match mP d e,ca P e with
   | some l,some j=>match Nat.beq l.length j with
    | true=>some (List.replicate n l).flatten
    | false=>none
   | _,_=>none
  | some (.struct h)=>match P.stoodInHeld g with
   | false=>zf P (mP d) h.toList 0
   | true=>none
  | _=>none
def jc (t:aG) (l:ag) :Option U:=match dE P t with
 | some true=>some (.af l)
 | some false=>l[0]?
 | none=>none
end
variable {P:bp}
theorem zO {t:aG} {z:Nat} (m:ca P t=some z) {pre mid post:ag} (o:mid.length=z) (j:dE P t=some false->mid.length=1) :gm P t (pre++(mid++post)) pre.length=jc P t mid:=by
 unfold gm jc;rw[m];cases h:dE P t with
 | none=>rfl
 | some g=>
  cases g with
  | true=>
   simp only;rw[ak (by simp;omega),Ft,il F,aI F]
  | false=>
   have:=j h;simp only;rw[eu F,th,aV F]
def EqAt (P:bp) (f:aG->Option (List kv)) (eq:aG->U->U->Option Bool) :Prop:=
 ∀ g b5,f g=some b5->(dE P g=some false->b5.length=1)/\∀ h j,gO b5 h=true->gO b5 j=true->∃ a b,jc P g h=some a/\jc P g j=some b/\eq g a b=some (dz h j)
theorem HB {f:aG->Option (List kv)} {eq:aG->U->U->Option Bool} (G:EqAt P f eq) :∀ (fs:List Field) (o:Nat) (b5:List kv),zf P f fs o=some b5->∀ (m p g j:ag),m.length=o->p.length=o->gO b5 g=true->gO b5 j=true->
  dK.eqFields P eq (m++g) (p++j) fs=some (dz g j)
 | [],o,b5,h,m,p,g,j,H,I,v,w=>by
  cases h;cases g with
  | nil=>cases j with | nil=>rfl | cons _ _=>cases w
  | cons _ _=>cases v
 | fd::fs,o,b5,h,m,p,g,j,H,I,v,w=>by
  unfold zf at h;split at h
  ·rename_i l z Y J;split at h
   ·rename_i q;simp only[bU,bne_iff_ne,ne_eq] at q;split at h
    ·rename_i r ah;cases h;obtain⟨t,O,rfl,B,R⟩:=wZ v;obtain⟨u,Q,rfl,C,S⟩:=wZ w;have ae:fd.offset=o:=mu q.1.2;have al:l.length=z:=mu q.2;obtain⟨D,X⟩:=G _ _ Y;obtain⟨a,b,T,W,V⟩:=X t u B C;have aj:=wY B;have ak:=wY C;unfold dK.eqFields;rw[ai q.1.1,ae];rw[show gm P fd.type (m++(t++O)) o=some a by rw[<-H,zO J F (fun h=>by rw[aj];exact D h)];exact T];rw[show gm P fd.type (p++(u++Q)) o=some b by rw[<-I,zO J F (fun h=>by rw[ak];exact D h)];exact W];simp only[V];rw[BP F];have K:=HB G fs (o+z) r ah (m++t) (p++u) O Q (by simp;omega) (by simp;omega) R S;rw[hi,hi] at K;cases dz t u with
     | true=>simpa using K
     | false=>simp
    ·cases h
   ·cases h
  ·cases h
theorem HA {eq:aG->U->U->Option Bool} {e:aG} {l:List kv} {z:Nat} (w:ca P e=some z) (W:l.length=z) (v:dE P e=some false->l.length=1)
  (G:∀ xs B,gO l xs=true->gO l B=true->∃ a b,jc P e xs=some a/\jc P e B=some b/\eq e a b=some (dz xs B)) :∀ (n i:Nat) (m o g j:ag),m.length=i*z->o.length=i*z->gO (List.replicate n l).flatten g=true->gO (List.replicate n l).flatten j=true->
  dK.oG P eq e z (m++g) (o++j) n i=some (dz g j)
 | 0,i,m,o,g,j,H,I,p,q=>by
  simp only[List.replicate_zero,List.flatten_nil] at p q;cases g with
  | nil=>cases j with | nil=>rfl | cons _ _=>cases q
  | cons _ _=>cases p
 | n+1,i,m,o,g,j,H,I,p,q=>by
  rw[kr,hj] at p q;obtain⟨t,K,rfl,C,Q⟩:=wZ p;obtain⟨u,O,rfl,D,R⟩:=wZ q;obtain⟨a,b,S,V,T⟩:=G t u C D;have X:=wY C;have Y:=wY D;unfold dK.oG;rw[show gm P e (m++(t++K)) (i*z)=some a by rw[<-H,zO w F (fun h=>by rw[X];exact v h)];exact S];rw[show gm P e (o++(u++O)) (i*z)=some b by rw[<-I,zO w F (fun h=>by rw[Y];exact v h)];exact V];simp only[T];rw[BP F];have J:=HA w W v G n (i+1) (m++t) (o++u) K O (by simp[ej];omega) (by simp[ej];omega) Q R;rw[hi,hi] at J;cases dz t u with
  | true=>simpa using J
  | false=>simp
theorem Cm:∀ (d D:Nat),d<=D->EqAt P (mP P d) (dK P D)
 | 0,D,_,v,b5,h=>by cases h
 | d+1,0,H,v,b5,h=>F
 | d+1,D+1,H,v,b5,h=>by
  have z:=Cm d D F;unfold mP at h;split at h
  ·rename_i j;have g:dE P v=some false:=by unfold dE;rw[j];rfl
   cases h;refine⟨fun _=>rfl,fun m o p t=>?_⟩
   match m,o,p,t with
   | [.bool u],[.bool q],_,_=>
    refine⟨.bool u,.bool q,by simp[jc,g],by simp[jc,g],?_⟩;unfold dK;rw[j];cases u<;>cases q<;>rfl
  ·rename_i k j;have g:dE P v=some false:=by unfold dE;rw[j];rfl
   cases h;refine⟨fun _=>rfl,fun m o p t=>?_⟩;obtain⟨u,rfl⟩:=Jy p;obtain⟨q,rfl⟩:=Jy t
   ·refine⟨.int k u,.int k q,by simp[jc,g],by simp[jc,g],?_⟩;unfold dK;rw[j];by_cases h:u=q<;>simp[dz,U.beq,h]
  ·rename_i j;have g:dE P v=some false:=by unfold dE;rw[j];rfl
   cases h;refine⟨fun _=>rfl,fun m o p t=>?_⟩
   match m,o,p,t with
   | [.str u],[.str q],_,_=>
    refine⟨.str u,.str q,by simp[jc,g],by simp[jc,g],?_⟩;unfold dK;rw[j];by_cases h:u=q<;>simp[dz,U.beq,h]
  ·rename_i n e j;have g:dE P v=some true:=by unfold dE;rw[j];rfl
   split at h
   ·rename_i l O I w;split at h
    ·rename_i J;cases h;obtain⟨C,G⟩:=z _ _ I;refine⟨fun h=>(by rw[g] at h;cases h),fun m o p t=>⟨.af m,.af o,by simp[jc,g],by simp[jc,g],?_⟩⟩;unfold dK;rw[j];simp only[w];exact HA w (mu J) C G n 0 [] [] m o V V p t
    ·cases h
   ·cases h
  ·rename_i B j;have g:dE P v=some true:=by unfold dE;rw[j];rfl
   split at h
   ·rename_i K;refine⟨fun h=>(by rw[g] at h;cases h),fun m o p t=>⟨.af m,.af o,by simp[jc,g],by simp[jc,g],?_⟩⟩;unfold dK;rw[j];simp only[K,jq,if_false];exact HB z B.toList 0 b5 h [] [] m o rfl rfl p t
   ·cases h
  ·cases h
theorem vL {t:aG} {b5:List kv} (hk:mP P 20 t=some b5) (o:dE P t=some true) (p:P.eqGuardType P.depth t=false) {xs g:ag} (q:gO b5 xs=true) (u:gO b5 g=true) :ea P .eql t (.af xs) (.af g)=some (.bool (dz xs g)):=by obtain⟨a,b,h,j,m⟩:=(Cm (P:=P) 20 10000 F t b5 hk).2 xs g q u;simp only[jc,o,bc] at h j;subst h;subst j;exact OO p m
theorem BQ {t:aG} {b5:List kv} (hk:mP P 20 t=some b5) (o:dE P t=some true) (p:P.eqGuardType P.depth t=false) {xs g:ag} (q:gO b5 xs=true) (u:gO b5 g=true) :ea P .neq t (.af xs) (.af g)=some (.bool (!dz xs g)):=by obtain⟨a,b,h,j,m⟩:=(Cm (P:=P) 20 10000 F t b5 hk).2 xs g q u;simp only[jc,o,bc] at h j;subst h;subst j;exact OP p m
end Go.bh
namespace Go.bh
open Go Go.Proofs Go.Proofs.Tryz Go.Shelf
structure qx (P:bp) (f:cj) (T m e z:Nat) :Prop where
 sU:P.underlying T=some (.slice e)
 YD:P.underlying m=some (.int .i64)
 fin:∀ (base:Option Addr) (n c j g h:Nat) (r:aE) (w w' : aT),n<=c->n<=4611686018427387904->(base=none->n=0/\c=0)->
  (Builtin.append_ #[T,T] T #[.slice base n c,.slice (some ⟨g,h,none⟩) 1 j]).run P w=.ok r w'->
  Calls P f #[.slice base n c,.int .i64 n,.slice (some ⟨g,h,none⟩) 1 j] w fun x w2=>x=.returned r/\w2=w'
 shift:∀ (b off n c i g h j:Nat) (q t:aE) (w o p:aT) (B ec:aG) (mM v:Nat),i<n->n+1<=c->n<=4611686018427387904->g≠b->
  w.shape? g=some (B,mM)->w.shape? b=some (ec,v)->v≠0->w.frozen? ⟨g,h,none⟩=false->w.frozen? ⟨g,mM,none⟩=false->
  (Builtin.copy_ #[T,T] m #[.slice (some ⟨b,off+(i+1)*z,none⟩) (n - i) (c - (i+1)),.slice (some ⟨b,off+i*z,none⟩) (n+1 - i) (c - i)]).run P w.drew=.ok q o->
  (Builtin.copy_ #[T,T] m #[.slice (some ⟨b,off+i*z,none⟩) (n+1 - i) (c - i),.slice (some ⟨g,h,none⟩) 1 j]).run P o=.ok t p->
  Calls P f #[.slice (some ⟨b,off,none⟩) n c,.int .i64 i,.slice (some ⟨g,h,none⟩) 1 j] w fun x w2=>x=.returned (.slice (some ⟨b,off,none⟩) (n+1) c)/\w2=p
 grow:∀ (b off n c i g h j N G:Nat) (q t:aE) (w u o p:aT),i<n->n<=c->c<n+1->n+1<=G->n<=4611686018427387904->
  (Builtin.append_ #[T,m] T #[.slice (some ⟨b,off,none⟩) i c,.int .i64 ((n:Int)+1 - (i:Int))]).run P w=.ok (.slice (some ⟨N,0,none⟩) (n+1) G) u->
  (Builtin.copy_ #[T,T] m #[.slice (some ⟨N,i*z,none⟩) (n+1 - i) (G - i),.slice (some ⟨g,h,none⟩) 1 j]).run P u=.ok q o->
  (Builtin.copy_ #[T,T] m #[.slice (some ⟨N,(i+1)*z,none⟩) (n - i) (G - (i+1)),.slice (some ⟨b,off+i*z,none⟩) (n - i) (c - i)]).run P o.drew=.ok t p->
  Calls P f #[.slice (some ⟨b,off,none⟩) n c,.int .i64 i,.slice (some ⟨g,h,none⟩) 1 j] w fun x w2=>x=.returned (.slice (some ⟨N,0,none⟩) (n+1) G)/\w2=p
section
variable {P:bp} {G:Nat->U} {R:Nat->Prop} {B:Nat} {w:aT} {h:aM} {muZ:b3}
theorem zi (rel:bF R B w h muZ) {b sz o n:Nat} {cs:ag} {m:M} (v:h.f b=.cells sz cs) (H:muZ b=some m) (U:o+n<=sz) :
  ∃ vs:List aE,pv w R h muZ ((cs.drop o).take n) vs/\(loadCells ⟨m.r,m.s+o,none⟩ n).run P w=.ok vs.toArray w:=by
 have j:=rel.blk b m H;rw[v] at j;obtain⟨Q,S,arr,e,K,I,O,T,z⟩:=j;have D:((cs.drop o).take n).length=n:=by rw[cL,i1];omega
 obtain⟨vs,p,C⟩:=Ep (P:=P) (w:=w) (R:=R) (h:=h) (muZ:=muZ) (w2:=w) (xs:=(cs.drop o).take n) (blk:=m.r) (o:=m.s+o) (fun _=>rfl) (fun q c g=>by
  have G:q<n:=by have:=(aL.1 g).1;omega
  rw[dQ G,gx] at g;obtain⟨J,h1,t,u⟩:=z (o+q) c g;refine⟨J,?_,t,u⟩;simp only[World.cell?,I,rM];rw[i4];exact h1)
 refine⟨vs,p,?_⟩;have:=C n F w (fun _=>rfl)
 rwa [aI (by rw[p.1,D];exact aN _)] at this
theorem yC (rel:bF R B w h muZ) {t u ty e z:Nat} (G:P.underlying t=some (.slice e)) (H:ca P e=some z) {b sz k:Nat} {cs:ag} {m:M} (q:h.f b=.cells sz cs) (F:muZ b=some m) (hk:k<=sz)
  {dLen dc sLen sc cnt:Nat} {a:Addr} {xs:ag} {vs:List aE} (v:Nat.min sLen dLen=cnt) (p:xs.length=cnt*z) (D:(loadCells a (cnt*z)).run P w=.ok vs.toArray w)
  (o:pv w R h muZ xs vs) (C:m.s+max sz (k+cnt*z)<=m.T) :
  ∃ w',(Builtin.copy_ #[t,u] ty #[.slice (some ⟨m.r,m.s+k,none⟩) dLen dc,.slice (some a) sLen sc]).run P w=.ok (goInt cnt) w' ∧
   cZ w h muZ w' (h.set b (.cells (max sz (k+cnt*z)) (av cs k xs))) muZ/\bF R B w' (h.set b (.cells (max sz (k+cnt*z)) (av cs k xs))) muZ:=by obtain⟨w',h1,g,j⟩:=sZ (P:=P) rel (cvs:=xs) (vs:=vs) (k:=k) q F hk o.1 (by rw[p];exact C) o.2;rw[p] at g j;refine⟨w',?_,g,j⟩;simp[Builtin.copy_,cb G,Builtin.lenOf,Builtin.firstCells,ez H,v,D,h1]
theorem KT {j:aT} {h1:aM} {u:b3} (U:bF R B j h1 u) (H:cZ w h muZ j h1 u) {b z n nc ns:Nat} {row:ag} {v:aE} (D:h1.f=br h.f b (.cells ns row)) (t:h1.n=h.n) (al:ns=nc*z) (Y:0<n) (ah:b<h.n)
  (S:aB j R h1 u (.Z z b 0 n nc ns) v) :
  ∃ muZ',cZ w h muZ j ((h.set b .dead).push (.cells ns row)) muZ'/\bF R B j ((h.set b .dead).push (.cells ns row)) muZ'/\aB j R ((h.set b .dead).push (.cells ns row)) muZ' (.Z z h.n 0 n nc ns) v:=by
 have q:h1.f b=.cells ns row:=by rw[D,fK]
 cases S with
 | ff _ _ _ _ _ _ _ _ _ _ g=>
  exfalso;rcases g with g | ⟨am,W,g,aj⟩
  ·rw[q] at g;cases g
  ·rw[q] at g;cases g;omega
 | gp=>omega
 | Z _ _ _ _ _ _ G X p ae P O Q C=>
  have F:=U.KS (b:=b) (off:=0) (m:=p) (h':=(h.set b .dead).push (.cells ns row)) q P (eS _) (by
   rw[dV,dm,hX,D,t];funext x;simp only[br,vo,lI];by_cases o:x=h.n
   ·rw[ak o,ak o]
   ·rw[ai o,ai o];split<;>rfl) (by rw[jk,hX,t])
  refine⟨_,H.trans F.1,F.2,?_⟩;rw[t];exact .Z z h.n 0 n nc ns G row ⟨p.r,p.s+0,p.T⟩ (by rw[dV,hX,fK]) V O Q (by
   rcases C with C | ⟨I,J,K⟩
   ·omega
   ·exact .inr ⟨I,J,by simpa using K⟩)
theorem Gt (w:aT) :RowKit.Below w.heap.size w w.drew:=⟨rfl,rfl,rfl,aN _,fun _ _=>rfl⟩
theorem Si {z i len:Nat} {cs vs:ag} (o:vs.length=z) (m:i<len) (u:len*z<=cs.length) :
  av (av cs ((i+1)*z) ((cs.drop (i*z)).take ((len - i)*z))) (i*z) vs=iu z cs vs i len:=by
 have h1:(i+1)*z=i*z+z:=by rw[ej]
 have p:(i+1)*z<=len*z:=ck _ m;have q:i*z+(len - i)*z=len*z:=by rw[<-eP];congr 1;omega
 have t:(len+1)*z=len*z+z:=by rw[ej]
 have j:((cs.drop (i*z)).take ((len - i)*z)).length=(len - i)*z:=by rw[cL,i1];omega
 have g:(cs.take ((i+1)*z)).length=i*z+z:=by rw[cL];omega
 unfold iu av;rw[j,o];have h:(i+1)*z+(len - i)*z=(len+1)*z:=F;rw[h,hi (cs.take ((i+1)*z)),il (by rw[g];omega),lL,show min (i*z) ((i+1)*z)=i*z by omega];rw[show i*z+z=(cs.take ((i+1)*z)).length by rw[g],Ft];simp only[hi]
theorem Se {z i len:Nat} {cs vs:ag} (h:vs.length=z) (q:i<len) (w:len*z=cs.length) :
  av (av (cs.take (i*z)) (i*z) vs) ((i+1)*z) ((cs.drop (i*z)).take ((len - i)*z))=iu z cs vs i len:=by
 have h1:(i+1)*z=i*z+z:=by rw[ej]
 have t:(i+1)*z<=len*z:=ck _ q;have u:i*z+(len - i)*z=len*z:=by rw[<-eP];congr 1;omega
 have v:(len+1)*z=len*z+z:=by rw[ej]
 have g:(cs.take (i*z)).length=i*z:=by rw[cL];omega
 have j:av (cs.take (i*z)) (i*z) vs=cs.take (i*z)++vs:=by
  unfold av;rw[k6 (by rw[g];omega),eJ,aI (by rw[g];exact aN _)]
 rw[j];unfold iu av;have m:(cs.take (i*z)++vs).take ((i+1)*z)=cs.take (i*z)++vs:=aI (by rw[cI,g,h];omega);have o:∀ k,(cs.take (i*z)++vs).drop ((i+1)*z+k)=[]:=fun k=>k6 (by rw[cI,g,h];omega)
 have p:cs.drop ((len+1)*z)=[]:=k6 F;rw[m,o,p]
theorem Tg (a b z:Nat) :max a b*z=max (a*z) (b*z):=by
 rcases Nat.le_total a b with h | h
 ·rw[Bv h,Bv (ck _ h)]
 ·rw[Bu h,Bu (ck _ h)]
theorem R8 {j e z by_:Nat} (p:gh P j=some e) (D:ca P e=some z) (u:gK P e=some by_) (O:0<z) (H:0<by_) (G:mq P e=some z)
  {b bv len cap:Nat} {cs vs:ag} (q:h.f b=.cells (cap*z) cs) (I:cs.length=cap*z) (t:h.f bv=.cells z vs) (C:vs.length=z) (v:len<=cap) (w:(len+1)*by_<=dj) :
  ox P h j (.Z z b 0 len cap (cap*z)) (.Z z bv 0 1 1 z)=some (.Z z b 0 (len+1) (max cap (len+1)) (max cap (len+1)*z),h.set b (.cells (max cap (len+1)*z) (iu z cs vs len len))):=by
 have o:(len+1)*z=len*z+z:=by rw[ej]
 have J:len*z<=cap*z:=ck _ v;have m:iu z cs vs len len=cs.take (len*z)++vs++cs.drop ((len+1)*z):=by simp[iu]
 have B:(vs.drop 0).take (1*z)=vs:=by rw[lI,vn,aI F]
 unfold ox;rw[p];simp only[D,u,contents,t,and_self,if_true,B];unfold qD;rw[ai F,ai (by rw[G];simp;omega)];simp only[q,true_and,w,if_true];by_cases g:len+1<=cap
 ·have K:(len+1)*z<=cap*z:=ck _ g;rw[ak g,Bu g,m];simp only[av,hI,C,<-o]
 ·obtain rfl:len=cap:=F;rw[ai g,ai F,Bv F,m,k6 F,eJ]
theorem Ix {f T I e z by_:Nat} (L:qx P f T I e z) (bJ:gh P T=some e) (H:ca P e=some z) (aK:gK P e=some by_) (b7:0<z) (bf:0<by_) (bw:mq P e=some z)
  {b bv len cap i:Nat} {cs vs:ag} (p:h.f b=.cells (cap*z) cs) (D:h.f bv=.cells z vs) (bo:bv≠b) (cO:i<=len) (bm:len<=cap) (aR:(len+1)*by_<=dj) :
  jU P G f [.Z z b 0 len cap (cap*z),.int .i64 i,.Z z bv 0 1 1 z] h (.Z z h.n 0 (len+1) (max cap (len+1)) (max cap (len+1)*z)) ((h.set b .dead).push (.cells (max cap (len+1)*z) (iu z cs vs i len))):=by
 intro R B w muZ cn rel cv bl aW;obtain⟨cp⟩:=cn
 match cp,bl with
 | [bC,cl,cm],_=>
 have aY:=aW 0 _ bC rfl rfl;have aC:=aW 1 _ cl rfl rfl;have bt:=aW 2 _ cm rfl rfl;have cf:=bt;cases aC;have aH:len<=4611686018427387904:=by
  have:=Nat.le_mul_of_pos_right (len+1) bf;unfold dj at aR;omega
 have b4:uq P T:=⟨_,L.sU,fun k hk=>by cases hk⟩
 have cT:=Tg cap (len+1) z;have cz:(len+1)*z=len*z+z:=by rw[ej]
 have cQ:len*z<=cap*z:=ck _ bm;cases bt with
 | ff _ _ _ _ _ _ _ _ _ _ j=>
  exfalso;rcases j with j | ⟨bA,a4,j,ay⟩
  ·rw[D] at j;cases j
  ·rw[D] at j;cases j;omega
 | Z _ _ _ _ _ _ al cV dU cE ae cS cU cJ=>
 have bc:=rel.blk bv dU ae;rw[D] at bc;obtain⟨aZ,cM,a3,dA,cu,aS,cC,bj,cI⟩:=bc;by_cases bX:i=len
 ·subst bX;have b0:∃ a g,bC=.slice (some a) i g/\i<=g/\cs.length=cap*z/\b<h.n:=by
   cases aY with
   | ff _ _ _ _ _ _ _ _ _ _ j=>
    exfalso;rcases j with j | ⟨bA,a4,j,ay⟩
    ·rw[p] at j;cases j
    ·rw[p] at j;cases j;omega
   | gp _ _ _ _ a a5 m aq q=>
    have C:=rel.blk b m q;rw[p] at C;exact⟨a,0,rfl,aN _,C.1,rel.kx q⟩
   | Z _ _ _ _ _ _ g a5 m aq q bl b8 aM=>
    have C:=rel.blk b m q;rw[p] at C;exact⟨_,g,rfl,F,C.1,rel.kx q⟩
  obtain⟨a,g,rfl,bZ,bh,aJ⟩:=b0;obtain⟨aD,cq,cW,cd,bU,cc,cg⟩:=BO (P:=P) (ty:=T) (u:=T) rel b4 (R8 (P:=P) bJ H aK b7 bf bw p bh D aZ bm aR) aY cf;refine (L.fin (some a) i g al dU.r (dU.s+0) aD w cq bZ aH (fun h=>by cases h) cd).mono ?_;rintro x a1 ⟨rfl,rfl⟩;obtain⟨muZ',h1,aG,X⟩:=KT (h:=h) cc bU (b:=b) (row:=iu z cs vs i i) (ns:=max cap (i+1)*z) (dm _ _ _) rfl rfl F aJ cg;exact⟨aD,muZ',rfl,h1,aG,X⟩
 have Y:i<len:=F;have cw:(i+1)*z=i*z+z:=by rw[ej]
 have cx:(i+1)*z<=len*z:=ck _ Y;have cy:i*z+(len - i)*z=len*z:=by rw[<-eP];congr 1;omega
 cases aY with
 | ff _ _ _ _ _ _ _ _ _ _ j=>
  exfalso;rcases j with j | ⟨bA,a4,j,ay⟩
  ·rw[p] at j;cases j
  ·rw[p] at j;cases j;omega
 | gp=>omega
 | Z _ _ _ _ _ _ g a5 m aq q cP b8 aM=>
 rw[p] at aq;cases aq;have C:=rel.blk b m q;rw[p] at C;obtain⟨bh,cK,arr,bE,ct,cb,cB,cN,cH⟩:=C;obtain⟨bg,au⟩:cap<=g/\m.s+g*z<=m.T:=by
  rcases aM with aM | ⟨cG,bg,au⟩
  ·omega
  ·exact⟨bg,by simpa using au⟩
 have aJ:=rel.kx q;have b2:dU.r≠m.r:=fun bT=>bo (rel.inj bv b dU m (by rw[D];rfl) (by rw[p];rfl) ae q bT)
 have aC:(vs.drop 0).take z=vs:=by rw[lI,aI F]
 have a7:((cs.drop (i*z)).take ((len - i)*z)).length=(len - i)*z:=by rw[cL,i1];omega
 by_cases bi:len+1<=g
 ·have cR:(len+1)*z<=g*z:=ck _ bi;obtain⟨am,K⟩:=D7 rel (w':=w.drew) (Gt w);obtain⟨ci,az,aP⟩:=zi (P:=P) K (o:=i*z) (n:=(len - i)*z) p q F;obtain⟨Q,aw,S,O⟩:=yC (P:=P) (t:=T) (u:=T) (ty:=I) K L.sU H (k:=(i+1)*z) p q F (dLen:=len - i) (dc:=g - (i+1)) (sLen:=len+1 - i) (sc:=g - i) (cnt:=len - i)
   (by simp only[Bw];split<;>omega) a7 aP az F
  have aU:max (cap*z) ((i+1)*z+(len - i)*z)=max cap (len+1)*z:=F;rw[aU] at S O;have bK:(h.set b (.cells (max cap (len+1)*z) (av cs ((i+1)*z) ((cs.drop (i*z)).take ((len - i)*z))))).f b=.cells (max cap (len+1)*z) (av cs ((i+1)*z) ((cs.drop (i*z)).take ((len - i)*z))):=by rw[dm,fK]
  have bO:(h.set b (.cells (max cap (len+1)*z) (av cs ((i+1)*z) ((cs.drop (i*z)).take ((len - i)*z))))).f bv=.cells z vs:=by rw[dm,bS _ _ _ _ bo];exact D
  obtain⟨cj,aA,aQ⟩:=zi (P:=P) O (o:=0) (n:=z) bO ae F;rw[aC] at aA;obtain⟨aF,ax,U,aj⟩:=yC (P:=P) (t:=T) (u:=T) (ty:=I) O L.sU H (k:=i*z) bK q F (dLen:=len+1 - i) (dc:=g - i) (sLen:=1) (sc:=al) (cnt:=1)
   (by simp only[Bw];split<;>omega) F (by rw[vn];exact aQ) aA F
  have aV:max (max cap (len+1)*z) (i*z+1*z)=max cap (len+1)*z:=F;rw[aV,Si aZ Y F] at U aj;have bV:w.frozen? ⟨dU.r,dU.s+0,none⟩=false:=by
   simp only[World.frozen?,aS];rcases bj with W | W
   ·subst W;simp
   ·simp;intro X;omega
  have bW:w.frozen? ⟨dU.r,a3.size,none⟩=false:=by
   simp only[World.frozen?,aS];rcases bj with W | W
   ·subst W;simp
   ·simp;intro X;omega
  refine (L.shift m.r m.s len g i dU.r (dU.s+0) al _ _ w Q aF dA bE a3.size arr.size Y bi aH b2 (by simp[World.shape?,aS]) (by simp[World.shape?,cb]) F bV bW aw ax).mono ?_;rintro x a1 ⟨rfl,rfl⟩;obtain⟨muZ',h1,aG,X⟩:=KT (h:=h) aj ((am.trans S).trans U) (b:=b) (row:=iu z cs vs i len) (ns:=max cap (len+1)*z) (n:=len+1) (nc:=max cap (len+1)) (z:=z) (v:=.slice (some ⟨m.r,m.s+0,none⟩) (len+1) g) (by
   rw[dm,dm];funext y;simp only[br];split<;>rfl) rfl rfl F aJ (.Z z b 0 (len+1) (max cap (len+1)) (max cap (len+1)*z) g _ m (by rw[dm,fK]) q F F (.inr ⟨F,F,by simpa using au⟩))
  exact⟨_,muZ',rfl,h1,aG,X⟩
 ·obtain rfl:cap=len:=F;obtain rfl:g=cap:=F;obtain⟨J,a2,aO,ch,bx⟩:=MV bw;have ce:J.size=z:=by simp[ca,aO] at H;exact H
  have bQ:J.bytes=by_:=by simp[gK,aO] at aK;exact aK
  have bR:contents h z (.Z z b 0 i g (g*z))=some ((cs.drop 0).take (i*z),i):=by simp[contents,p]
  obtain⟨bp,_,a0,ah,b9⟩:=qP (P:=P) rel bR (aB.Z z b 0 i g (g*z) g cs m p q F F (.inr ⟨F,aN _,by simpa using au⟩));have bq:=b9 i (aN _) w.drew (fun _=>rfl);rw[aI (by rw[ah.1,bp];exact aN _)] at bq;rw[lI] at ah bp;have bs:(g+1)*J.bytes<=dj:=by rw[bQ];exact aR
  have bk:i+(g+1 - i)=g+1:=F;have cD:(g+1 - i)*J.bytes<=(g+1)*J.bytes:=ck _ F;have ap:=Lib.run_append_grow_zeros w T I T e J a2 .i64 .i64 L.sU L.YD aO ch (some ⟨m.r,m.s+0,none⟩) i g a0 (by rw[ce];exact bq) (g+1 - i) F F F F (by unfold dj at bs;omega)
   (by rw[bk];have:=growslice_fits (old:=g) (need:=g+1) F bs;omega)
  rw[bk] at ap;obtain⟨om,a8⟩:∃ om,om=grownCap w (g+1) g e:=⟨_,rfl⟩
  have a9:g+1<=om:=by rw[a8];exact grownCap_ge w _ _ _
  rw[<-a8] at ap;obtain⟨ROW,ao⟩:∃ ROW:Array aE,ROW=a0.toArray++Builtin.zeroCells a2.cells (g+1 - i)++Builtin.zeroCells a2.cells (om - (g+1)):=⟨_,rfl⟩
  rw[<-ao] at ap;have cA:(g+1)*z<=ROW.size:=by
   have bD:i*z+(g+1 - i)*z=(g+1)*z:=by rw[<-eP];congr 1
   rw[ao];simp only[Fj,x1,Builtin.zeroCells];simp[bx,ah.1];omega
  have bI:(cs.take (i*z)).length=i*z:=by rw[cL];omega
  obtain⟨am,K⟩:=rel.push (w':=w.drew.alloc (.cells ROW e)) (cs.take (i*z)) ROW e rfl rfl rfl rfl F (fun bz c bY=>by
   obtain⟨aD,a6,bG,bH⟩:=ah.2 bz c bY;refine⟨aD,?_,bG,bH⟩;have ay:bz<a0.length:=(aL.1 a6).1;rw[ao,A4,pi (by simpa using ay)];simpa using a6)
  rw[bI] at am K;have ar:b≠h.n:=F;have cF:=rel.kx ae;have bd:bv≠h.n:=F;have bn:(br muZ h.n (some ⟨w.heap.size,0,ROW.size⟩)) h.n=some ⟨w.heap.size,0,ROW.size⟩:=fK _ _ _;have b3:(br muZ h.n (some ⟨w.heap.size,0,ROW.size⟩)) bv=some dU:=by rw[bS _ _ _ _ bd];exact ae
  have b1:(br muZ h.n (some ⟨w.heap.size,0,ROW.size⟩)) b=some m:=by rw[bS _ _ _ _ ar];exact q
  have bL:(h.push (.cells (i*z) (cs.take (i*z)))).f h.n=.cells (i*z) (cs.take (i*z)):=by rw[dV,fK]
  have bN:(h.push (.cells (i*z) (cs.take (i*z)))).f bv=.cells z vs:=by rw[dV,bS _ _ _ _ bd];exact D
  obtain⟨cj,az,aP⟩:=zi (P:=P) K (o:=0) (n:=z) bN b3 F;rw[aC] at az;obtain⟨Q,aw,S,O⟩:=yC (P:=P) (t:=T) (u:=T) (ty:=I) K L.sU H (k:=i*z) bL bn (aN _) (dLen:=g+1 - i) (dc:=om - i) (sLen:=1) (sc:=al) (cnt:=1)
   (by simp only[Bw];split<;>omega) F (by rw[vn];exact aP) az (by simp only;omega)
  have aU:max (i*z) (i*z+1*z)=(i+1)*z:=F;rw[aU] at S O;obtain⟨bF,bB⟩:=D7 O (w':=Q.drew) (Gt Q);have bM:((h.push (.cells (i*z) (cs.take (i*z)))).set h.n (.cells ((i+1)*z) (av (cs.take (i*z)) (i*z) vs))).f h.n=.cells ((i+1)*z) (av (cs.take (i*z)) (i*z) vs):=by rw[dm,fK]
  have bb:((h.push (.cells (i*z) (cs.take (i*z)))).set h.n (.cells ((i+1)*z) (av (cs.take (i*z)) (i*z) vs))).f b=.cells (g*z) cs:=by rw[dm,bS _ _ _ _ ar,dV,bS _ _ _ _ ar];exact p
  obtain⟨ci,aA,aQ⟩:=zi (P:=P) bB (o:=i*z) (n:=(g - i)*z) bb b1 F;obtain⟨aF,ax,U,aj⟩:=yC (P:=P) (t:=T) (u:=T) (ty:=I) bB L.sU H (k:=(i+1)*z) bM bn (aN _) (dLen:=g - i) (dc:=om - (i+1)) (sLen:=g - i) (sc:=g - i) (cnt:=g - i)
   (by simp only[Bw];split<;>omega) a7 aQ aA (by simp only;omega)
  have aV:max ((i+1)*z) ((i+1)*z+(g - i)*z)=(g+1)*z:=F;rw[aV,Se aZ Y F] at U aj;simp only[hI] at aw ax;have b5:max g (g+1)=g+1:=F;rw[b5];refine (L.grow m.r (m.s+0) g g i dU.r (dU.s+0) al w.heap.size om _ _ w _ Q aF Y (aN _) F a9 aH ?_ aw ax).mono ?_
  ·have:(g:Int)+1 - (i:Int)=((g+1 - i:Nat) :Int):=F;rw[this];exact ap
  rintro x a1 ⟨rfl,rfl⟩;have hk:=aj.kill (b:=b) (sz:=g*z) (cs:=cs) (h':=(h.set b .dead).push (.cells ((g+1)*z) (iu z cs vs i g))) (by rw[dm,bS _ _ _ _ ar];exact bb) (by rw[hX,hX,jk];omega) (by
   rw[dV,dm,hX,dm,dm,dV];funext y;simp only[br];by_cases h1:y=h.n
   ·rw[ak h1,ai F,ak h1]
   ·rw[ai h1];split
    ·rfl
    ·simp) (by rw[jk,hX,hX,hX,jk])
  refine⟨_,_,rfl,(((am.trans S).trans bF).trans U).trans hk.1,hk.2,?_⟩;have:=aB.Z (w:=a1) (R:=R) (h:=(h.set b .dead).push (.cells ((g+1)*z) (iu z cs vs i g))) (muZ:=br muZ h.n (some ⟨w.heap.size,0,ROW.size⟩)) z h.n 0 (g+1) (g+1) ((g+1)*z) om (iu z cs vs i g) ⟨w.heap.size,0,ROW.size⟩ (by rw[dV,hX,fK]) V (aN _) F (.inr ⟨F,a9,by
   simp only;have bD:i*z+(g+1 - i)*z=(g+1)*z:=by rw[<-eP];congr 1
   have cr:(g+1)*z+(om - (g+1))*z=om*z:=by rw[<-eP];congr 1;omega
   rw[ao];simp only[Fj,x1,Builtin.zeroCells];simp[bx,ah.1];omega⟩)
  simpa using this
theorem Iw {f T C e z by_:Nat} (L:qx P f T C e z) (D:gh P T=some e) (ae:ca P e=some z) (I:gK P e=some by_) (aB:0<z) (ax:0<by_) (ah:mq P e=some z)
  {bv:Nat} {vs:ag} (j:h.f bv=.cells z vs) (U:by_<=dj) :
  jU P G f [.ad,.int .i64 0,.Z z bv 0 1 1 z] h (.Z z h.n 0 1 1 z) (h.push (.cells z vs)):=by
 intro R B w muZ am rel av K m;obtain⟨ap⟩:=am
 match ap,K with
 | [aj,ak,al],_=>
 have q:=m 0 _ aj rfl rfl;have o:=m 1 _ ak rfl rfl;have t:=m 2 _ al rfl rfl;have X:=t;cases o;have W:=q;cases q;have Q:uq P T:=⟨_,L.sU,fun k hk=>by cases hk⟩
 cases t with
 | ff _ _ _ _ _ _ _ _ _ _ g=>
  exfalso;rcases g with g | ⟨aE,au,g,az⟩
  ·rw[j] at g;cases g
  ·rw[j] at g;cases g;omega
 | Z _ _ _ _ _ _ ao aF dU aw O aA aC ay=>
 have p:=rel.blk bv dU O;rw[j] at p;obtain⟨aD,_⟩:=p;have H:ox P h T .ad (.Z z bv 0 1 1 z)=some (.Z z h.n 0 1 1 z,h.push (.cells z vs)):=by
  have o:(vs.drop 0).take (1*z)=vs:=by rw[lI,vn,aI F]
  unfold ox;rw[D];simp only[ae,I,contents,j,and_self,if_true,o];unfold qD;rw[ai F,ai (by rw[ah];simp;omega)];simp only[vn,U,if_true]
 obtain⟨v,aq,ar,V,J,S,Y⟩:=BO (P:=P) (ty:=T) (u:=T) rel Q H W X;refine (L.fin none 0 0 ao dU.r (dU.s+0) v w aq (aN _) F (fun _=>⟨rfl,rfl⟩) V).mono ?_;rintro x aG ⟨rfl,rfl⟩;exact⟨v,ar,rfl,J,S,Y⟩
theorem It {f p F e z by_:Nat} (L:qx P f p F e z) (q:gh P p=some e) (C:ca P e=some z) (v:gK P e=some by_) (B:0<z) (w:0<by_) (D:mq P e=some z)
  (args:ag) (h:aM) (r:U) (h' : aM) (g:tY z by_ args h=some (r,h')) :jU P G f args h r h':=by
 unfold tY at g;split at g
 ·rename_i s x y;split at g
  ·rename_i i ai Q V S R X j;have O:x=.int .i64 i:=by
    unfold Gj at j;split at j
    ·split at j
     ·cases j;rfl
     ·cases j
    ·cases j
   subst O;split at g
   ·rename_i T ae u;split at g
    ·rename_i m;obtain⟨rfl,rfl,rfl,rfl,rfl,rfl,H⟩:=m;obtain⟨k,rfl⟩:=nh H;rw[fo] at g;unfold Iv at g;cases s<;>simp only at g<;>try (cases g;done)
     case ad=>
      split at g
      ·rename_i m;obtain⟨rfl,o⟩:=m;cases g;exact Iw L q C v B w D u o
      ·cases g
     case Z ah b W len cap Y=>
      cases t:h.f b<;>rw[t] at g<;>(try simp only at g)<;>try (cases g;done)
      split at g
      ·rename_i m;obtain⟨rfl,rfl,rfl,rfl,K,I,J,o⟩:=m;cases g;exact Ix L q C v B w D t u K I J o
      ·cases g
    ·cases g
   ·cases g
  ·cases g
 ·cases g
end
end Go.bh
namespace Go.bh
open Go
theorem bn {p:Prop} (h:p:=by kernel_rfl) :p:=h
section
variable (P:bp)
abbrev my:=List (List Nat)
def cT (a:Nat) :Nat->my
 | 0=>[]
 | n+1=>[a] ::cT (a+1) n
def LL (ops:Array a8) (o:a8) (i:Nat) (g:List Nat) (bm:Bool) :c9:=
 let h:=match o.guard with | none=>none | some j=>some (match ops[j.1]? with | some p=>p.dst | none=>none,j.2)
 match kD P o.op with
 | some m=>⟨i,o.dst,h,.fy m,g,bm⟩
 | none=>match o.op with
  | .call c=>match c.callee with
   | .value (.func f)=>⟨i,o.dst,h,.lg f c.args.toList,g,bm⟩
   | .value x=>⟨i,o.dst,h,.lU x c.args.toList,g,bm⟩
   | .invoke x name=>⟨i,o.dst,h,.nz x name c.args.toList,g,bm⟩
   | _=>⟨i,none,none,.fy .stop,[],false⟩
  | _=>⟨i,none,none,.fy .stop,[],false⟩
def LO (ops:Array a8) :List a8->Nat->List c9
 | [],_=>[]
 | g::r,i=>LL P ops g i [] false::LO ops r (i+1)
def Ir (i:Nat) :List Nat->Bool
 | []=>false
 | x::r=>match Nat.beq i x with | true=>true | false=>Ir i r
def IJ (i:Nat) :my->Bool
 | []=>false
 | p::r=>match Ir i p.tail with | true=>true | false=>IJ i r
def Gb:my->Bool
 | []=>false
 | p::r=>match p.tail with | []=>Gb r | _=>true
def EJ (ops:Array a8) (q:my) (n:Nat) :my->List c9
 | []=>LO P ops (ops.toList.drop n) n
 | p::r=>(match p with
  | []=>⟨0,none,none,.fy .stop,[],false⟩
  | i::c=>match ops[i]? with | some g=>LL P ops g i c (IJ i q) | none=>⟨0,none,none,.fy .stop,[],false⟩) ::EJ ops q n r
def D4 (ops:Array a8) (p:my) :fG:=match Gb p with
 | true=>.v8 (EJ P ops p p.length p)
 | false=>.jK (EJ P ops p p.length p)
def XN (a b:fG) :fG:=match a with
 | .skip=>b
 | a=>match b with
  | .skip=>a
  | b=>.seq a b
def qY:Code->List my->fG × List my
 | .skip,g=>(.skip,g)
 | .label _,g=>(.skip,g)
 | .ret,g=>(.ret,g)
 | .exit id,g=>(.exit id,g)
 | .region _ ops true,g=>match g with
  | []=>(D4 P ops [],[])
  | x::g=>(D4 P ops x,g)
 | .region _ ops false,g=>(D4 P ops [],g)
 | .seq a b,g=>match qY a g with | (a,g)=>match qY b g with | (b,g)=>(XN a b,g)
 | .cond c a b,g=>match qY a g with | (a,g)=>match qY b g with | (b,g)=>(.cond c a b,g)
 | .block id c,g=>match qY c g with | (c,g)=>(.block id c,g)
 | .loop c,g=>match qY c g with | (c,g)=>(.loop c,g)
 | .scope c,g=>qY c g
 | _,g=>(.skip,g)
def uf (fn:Func) (p:List my) :fG:=match fn.body with
 | some c=>(qY P c p).1
 | none=>.skip
def sn:List ResultVar->List dy
 | []=>[]
 | x::r=>(match B5 P x with | some g=>g | none=>.stop) ::sn r
end
theorem D9 (x:U) (t:ag) :x::x::x::x::x::x::x::x::x::x::x::x::x::x::x::x::x::x::x::x::x::x::x::x::x::x::x::x::x::x::x::x::t=bZ 32 x++t:=rfl
theorem Ea (x:U) (t:ag) :bZ 32 x++(bZ 32 x++t)=bZ 64 x++t:=rfl
theorem RC {P:bp} {f:cj} {fn:Func} (m:P.funcs[f]?=some fn) (p:List my) {c:fG} {ms:List dy}
  (g:uf P fn p=c:=by conv=>lhs;(cbv;try simp only[D9,Ea,eJ]))
  (j:sn P fn.results.toList=ms:=by conv=>lhs;cbv)
  (hk:(vZ P f,v1 P f)=(some (uf P fn p),some (sn P fn.results.toList)):=by kernel_rfl)
  {G:Nat->U} {args:ag} {l:ae} {K:qy} (h:run P G c (jw args) l (uc P G ms K.k)) :fR P G f args l (c:=K):=by rw[g,j] at hk;exact GQ (vp hk).1 (vp hk).2 h
theorem c1 {P:bp} {f:cj} {fn:Func} (t:P.funcs[f]?=some fn) (p:List my) {g:Tables} {j:Array Func} {c:fG} {ms:List dy} (q:P=⟨g,j⟩:=by rfl)
  (m:uf ⟨g,#[]⟩ fn p=c:=by conv=>lhs;(cbv;try simp only[D9,Ea,eJ]))
  (o:sn ⟨g,#[]⟩ fn.results.toList=ms:=by conv=>lhs;cbv)
  (hk:(vZ P f,v1 P f)=(some (uf ⟨g,#[]⟩ fn p),some (sn ⟨g,#[]⟩ fn.results.toList)):=by kernel_rfl)
  {G:Nat->U} {args:ag} {l:ae} {K:qy} (h:run P G c (jw args) l (uc P G ms K.k)) :fR P G f args l (c:=K):=by rw[m,o] at hk;exact GQ (vp hk).1 (vp hk).2 h
namespace cl
abbrev W:=BitVec 32
abbrev B:=BitVec 8
def kU (x:W) (n:Nat) :W:=(x >>> n) ||| (x <<< (32 - n))
def mn (l:List B) :W:=l.foldl (fun a x=>(a <<< 8) ||| x.setWidth 32) 0#32
def part (b:List B) (k t:Nat) :W:=mn (((b.take k).drop (4*t)).take 4)
def et (b:List B) :List W:=(List.range 16).map fun g=>mn ((b.drop (4*g)).take 4)
def ext (w:List W) :W:=
 let g:=w.length
 let x:=w.getD (g - 15) 0#32
 let y:=w.getD (g - 2) 0#32
 w.getD (g - 16) 0#32+w.getD (g - 7) 0#32+(kU x 7 ^^^ kU x 18 ^^^ (x >>> 3))+(kU y 17 ^^^ kU y 19 ^^^ (y >>> 10))
def gV:Nat->List W->List W
 | 0,w=>w
 | n+1,w=>gV n (w++[ext w])
def eA (b:List B) :List W:=gV 48 (et b)
def Dg (x:W) (i j k:Nat) :W:=kU x i ^^^ kU x j ^^^ kU x k
structure dN where
 (a b c d e f g h:W)
def round (s:dN) (k w:W) :dN:=
 let j:=s.h+Dg s.e 6 11 25+((s.e &&& s.f) ^^^ (~~~s.e &&& s.g))+k+w
 let q:=Dg s.a 2 13 22+((s.a &&& s.b) ^^^ (s.a &&& s.c) ^^^ (s.b &&& s.c))
 ⟨j+q,s.a,s.b,s.c,s.d+j,s.e,s.f,s.g⟩
def rounds:dN->List W->List W->dN
 | s,k::b5,w::g=>rounds (round s k w) b5 g
 | s,_,_=>s
def table:List Nat:=[0x428a2f98,0x71374491,0xb5c0fbcf,0xe9b5dba5,0x3956c25b,0x59f111f1,0x923f82a4,0xab1c5ed5,0xd807aa98,0x12835b01,0x243185be,0x550c7dc3,0x72be5d74,0x80deb1fe,0x9bdc06a7,0xc19bf174,0xe49b69c1,0xefbe4786,0x0fc19dc6,0x240ca1cc,0x2de92c6f,0x4a7484aa,0x5cb0a9dc,0x76f988da,0x983e5152,0xa831c66d,0xb00327c8,0xbf597fc7,0xc6e00bf3,0xd5a79147,0x06ca6351,0x14292967,0x27b70a85,0x2e1b2138,0x4d2c6dfc,0x53380d13,0x650a7354,0x766a0abb,0x81c2c92e,0x92722c85,0xa2bfe8a1,0xa81a664b,0xc24b8b70,0xc76c51a3,0xd192e819,0xd6990624,0xf40e3585,0x106aa070,0x19a4c116,0x1e376c08,0x2748774c,0x34b0bcb5,0x391c0cb3,0x4ed8aa4a,0x5b9cca4f,0x682e6ff3,0x748f82ee,0x78a5636f,0x84c87814,0x8cc70208,0x90befffa,0xa4506ceb,0xbef9a3f7,0xc67178f2]
def b5:List W:=table.map (BitVec.ofNat 32)
def grind (h:dN) (b:List B) :dN:=
 let j:=rounds h b5 (eA b)
 ⟨h.a+j.a,h.b+j.b,h.c+j.c,h.d+j.d,h.e+j.e,h.f+j.f,h.g+j.g,h.h+j.h⟩
def BT:Nat->dN->List B->dN × List B
 | 0,h,b=>(h,b)
 | n+1,h,b=>if 64<=b.length then BT n (grind h (b.take 64)) (b.drop 64) else (h,b)
def fS (h:dN) (b:List B) :dN × List B:=BT (b.length / 64) h b
def first:dN:=⟨0x6a09e667#32,0xbb67ae85#32,0x3c6ef372#32,0xa54ff53a#32,0x510e527f#32,0x9b05688c#32,0x1f83d9ab#32,0x5be0cd19#32⟩
def vO (n:BitVec 64) :List B:=[(n >>> 56).setWidth 8,(n >>> 48).setWidth 8,(n >>> 40).setWidth 8,(n >>> 32).setWidth 8,(n >>> 24).setWidth 8,(n >>> 16).setWidth 8,(n >>> 8).setWidth 8,(n >>> 0).setWidth 8]
def tail (n:Nat) :List B:=128#8::List.replicate ((119 - n % 64) % 64) 0#8++vO (BitVec.ofNat 64 n*8#64)
def qf (w:W) :List B:=[(w >>> 24).setWidth 8,(w >>> 16).setWidth 8,(w >>> 8).setWidth 8,w.setWidth 8]
def dN.l (s:dN) :List W:=[s.a,s.b,s.c,s.d,s.e,s.f,s.g,s.h]
def written (s:dN) :List B:=(s.l.map qf).flatten
def go (b:List B) :List B:=written (fS first (b++tail b.length)).1
theorem Zf (l:List B) (x:B) :mn (l++[x])=(mn l <<< 8) ||| x.setWidth 32:=by simp[mn,Bi]
theorem r9:∀ (n:Nat) (w:List W),(gV n w).length=w.length+n
 | 0,w=>rfl
 | n+1,w=>by rw[gV,r9 n];simp;omega
theorem xq (b:List B) :(eA b).length=64:=by rw[eA,r9];simp[et]
theorem A0 (s:dN) :(written s).length=32:=rfl
theorem o7 (b:List B) :(go b).length=32:=rfl
theorem Co:∀ (n:Nat) (w:List W),gV (n+1) w=gV n w++[ext (gV n w)]
 | 0,w=>rfl
 | n+1,w=>by rw[gV,Co n (w++[ext w])];rfl
theorem Aw (a:W) (x:B) :(a <<< 8) ||| x.setWidth 32=a*256#32+x.setWidth 32:=by
 apply eZ;have o:x.toNat<256:=x.isLt;have m:=a.isLt;rw[BitVec.toNat_or,s7,Fl,va,fx];have h1:x.toNat % 2 ^ 32=x.toNat:=ed F;have g:a.toNat <<< 8 % 2 ^ 32=(a.toNat % 2 ^ 24) <<< 8:=by rw[oj,oj];omega
 have h:=M1 (b:=x.toNat) (i:=8) F (a.toNat % 2 ^ 24);rw[h1,g,<-h,oj];have j:(256#32).toNat=256:=rfl;rw[j];omega
theorem vM (h:dN) (b:List B) (g:64<=b.length) :fS h b=fS (grind h (b.take 64)) (b.drop 64):=by
 have:b.length / 64=(b.drop 64).length / 64+1:=by simp;omega
 rw[fS,this,BT,ak g];rfl
theorem yn (h:dN) (b:List B) (g:b.length<64) :fS h b=(h,b):=by rw[fS,qq g];rfl
theorem OU (h:dN) (b:List B) :(fS h b).2.length=b.length % 64:=by
 generalize g:b.length=n
 induction n using Nat.strongRecOn generalizing h b with
 | _ n j=>
  rcases fF b.length 64 with h1 | h1
  ·rw[yn h b h1,ed F];exact g
  ·rw[vM h b h1,j (b.length - 64) F _ (b.drop 64) V];omega
theorem Gz (h:dN) (a b:List B) :fS h (a++b)=fS (fS h a).1 ((fS h a).2++b):=by
 generalize j:a.length=n
 induction n using Nat.strongRecOn generalizing h a with
 | _ n g=>
  rcases fF a.length 64 with h1 | h1
  ·rw[yn h a h1]
  ·rw[vM h a h1,vM h (a++b) (by simp;omega),il h1,ob h1];exact g (a.length - 64) F _ (a.drop 64) V
end cl
end Go.bh
namespace Go.bh
open Go Go.Proofs Go.Proofs.Tryz
def uY:ag:=cl.b5.map bg
def GS:Nat->U:=fun g=>match Nat.beq g 1 with | true=>.b6 uY 0 | false=>.bad
theorem eD:∀ g,(GS g).ar=true:=by
 intro g;unfold GS;split
 ·exact jy bg (fun _=>rfl) _
 ·rfl
@[simp]
theorem Zz:GS 1=.b6 uY 0:=id rfl
abbrev aU:=@i8 prog GS
abbrev Na:=@fR prog GS
abbrev cM (f:cj) (args:ag) (l:ae) (K:U->ae->Prop) :Prop:=fR prog GS f args l (c:=⟨K⟩)
abbrev cB:=U->ae->Prop
abbrev aR:=List (List cl.B)
theorem du:dj=140737488355328:=rfl
theorem a2 {f:cj} {fn:Func} (q:prog.funcs[f]?=some fn) (p:List my) {g:Tables} {j:Array Func} {c:fG} {ms:List dy} (m:prog=⟨g,j⟩:=by rfl)
  (o:uf ⟨g,#[]⟩ fn p=c:=by conv=>lhs;(cbv;try simp only[D9,Ea,eJ]))
  (t:sn ⟨g,#[]⟩ fn.results.toList=ms:=by conv=>lhs;cbv)
  (hk:(vZ prog f,v1 prog f)=(some (uf ⟨g,#[]⟩ fn p),some (sn ⟨g,#[]⟩ fn.results.toList)):=by kernel_rfl)
  {args:ag} {r:U} (h:run prog GS c (jw args) [] (uc prog GS ms (⟨fun u l=>Rd l u r⟩:qy).k)) :i8 prog GS f args r:=
 uB checked.mixed eD (c1 q p m o t hk h)
theorem X9 (i:Nat) (h:i<64) :uY[i]?=some (bg (cl.b5.getD i 0#32)):=by have g:cl.b5.length=64:=rfl;unfold uY;rw[b0,gw,bM F];rfl
namespace cl
def Eg (x:W) (k:Int) :W:=(x <<< (BitVec.ofInt 64 k &&& 31#64).toNat) ||| (x >>> (32#64 - (BitVec.ofInt 64 k &&& 31#64)).toNat)
theorem sI (x:W) (n:Nat) (g:0<n) (h:n<32) :Eg x (-(n:Int))=kU x n:=by
 have h1:∀ n:Fin 32,0<n.val->(BitVec.ofInt 64 (-(n.val:Int)) &&& 31#64)=BitVec.ofNat 64 (32 - n.val):=by decide
 have j:=h1 ⟨n,h⟩ g;simp only at j;unfold Eg kU;rw[j,BitVec.or_comm];congr 2
 ·have:∀ n:Fin 32,0<n.val->(32#64 - BitVec.ofNat 64 (32 - n.val)).toNat=n.val:=by decide
  exact this ⟨n,h⟩ g
 ·have:∀ n:Fin 32,0<n.val->(BitVec.ofNat 64 (32 - n.val)).toNat=32 - n.val:=by decide
  exact this ⟨n,h⟩ g
theorem sH (x:W) (k:Int) :aU 291 [bg x,.i6 k] (bg (Eg x k)):=by apply a2 func291 [];simp;exact aF
theorem I7 (x:W) (i j k:Nat) (h:0<i/\i<32) (m:0<j/\j<32) (hk:0<k/\k<32) :aU 286 [bg x,.i6 i,.i6 j,.i6 k] (bg (Dg x i j k)):=by
 apply a2 func286 [];have g:∀ n:Nat,n<32->IntKind.i64.wrap (-(n:Int))=-(n:Int):=fun n g=>wrap_i64 F F
 simp[g i h.2];refine au (sH x _) rfl ?_;simp[g j m.2];refine au (sH x _) rfl ?_;simp[g k hk.2];refine au (sH x _) rfl ?_;simp[sI x _ h.1 h.2,sI x _ m.1 m.2,sI x _ hk.1 hk.2];exact aF
def bW (x:B) :ag:=[a7 x]
abbrev dX:=b1 B
abbrev cn (s:dX) :U:=b4 1 bW s
theorem j1 (s:dX) :(cn s).ar=true:=pD (fun _=>rfl) s
def mo (b:List B) (k:Nat) :List W:=((List.range 16).map fun g=>mn (((b.take k).drop (4*g)).take 4))++List.replicate 48 0#32
theorem MN (b:List B) (k:Nat) :(mo b k).length=64:=by simp[mo]
theorem Zq (b:List B) :mo b 0=List.replicate 64 0#32:=by simp[mo,mn];rfl
theorem Fg (b:List B) (k t:Nat) (g:t<16) :(mo b k)[t]?=some (mn (((b.take k).drop (4*t)).take 4)):=by unfold mo;rw[aV (by simpa using g),b0,hn g];rfl
theorem Zp (b:List B) (k:Nat) (hk:k<64) (t:k<b.length) (x:B) (p:b[k]?=some x) :
  (mo b k).set (k / 4) ((mn (((b.take k).drop (4*(k / 4))).take 4) <<< 8) ||| x.setWidth 32)=mo b (k+1):=by
 apply g1;intro g;rw[oe,MN];have o:b.take (k+1)=b.take k++[x]:=by rw[ei,p];rfl
 have u:(b.take k).length=k:=by simp;omega
 by_cases m:g<16
 ·rw[Fg b _ g m,Fg b _ g m];by_cases h:k / 4=g
  ·rw[ak h,ak F,<-Zf,o,h];congr 2;rw[ob F];obtain⟨A,j⟩:=al (List.drop (4*g) (List.take k b));have q:A.length<4:=by rw[j];simp;omega
   rw[<-j,aI F,aI (by simp;omega)]
  ·rw[ai h,o];congr 2;rcases fF k (4*g) with h1 | h1
   ·rw[k6 F,k6 (by simp;omega)]
   ·rw[ob F,il (by simp;omega)]
 ·rw[ai F];unfold mo;rw[eu (by simp;omega),eu (by simp;omega)];simp
theorem Zo (b:List B) (h:64<=b.length) :mo b 64=et b++List.replicate 48 0#32:=by unfold mo et;congr 1;apply mr;intro j g;have:=g3.1 g;congr 1;rw[qo,lL,i5 F]
def m3 (b:List B) (k:Nat) :List W:=gV k (et b)++List.replicate (48 - k) 0#32
theorem Xa (b:List B) (k:Nat) (hk:k<=48) :(m3 b k).length=64:=by simp[m3,r9,et];omega
theorem Ar (b:List B) (k i:Nat) (g:i<16+k) :(m3 b k)[i]?=some ((gV k (et b)).getD i 0#32):=by
 unfold m3;have h:(gV k (et b)).length=16+k:=by simp[r9,et]
 rw[aV F,gw,bM F];rfl
theorem Xb (b:List B) (k:Nat) (hk:k<48) :(m3 b k).set (16+k) (ext (gV k (et b)))=m3 b (k+1):=by
 have g:(gV k (et b)).length=16+k:=by simp[r9,et]
 unfold m3;rw[pk _ _ F,g,th,show 48 - k=(48 - (k+1))+1 by omega,kr,te,Co];simp
theorem Xd (b:List B) (ao:64<=b.length) :aU 285 [cn (some b)] (.af ((eA b).map bg)):=by
 apply a2 func285 [];have aC:dw (.Z 1) (cn (some b)) none (some (.i6 64)) none=some (cn (some (b.take 64))):=by
  unfold cn;rw[EB F F];rfl
 have ay:min 64 b.length=64:=F;simp[aC,ay];refine bB 64 (fun k m l=>m 2=.ptr 0 0 64/\m 11=cn (some (b.take 64))/\m 12=.i6 64/\m 13=.i6 k/\l=[.q 64 ((mo b k).map bg)]) ?_ ?_
 ·rintro k m l hk ⟨o,D,G,H,rfl⟩;obtain⟨m,rfl⟩:=eO o D G H;clear o D G H;simp;by_cases h:(k:Int)<64
  ·obtain⟨x,J⟩:∃ x,b[k]?=some x:=⟨_,bM F⟩
   have aF:(b.take 64)[k]?=some x:=by rw[dQ F];exact J
   have aq:bQ (.Z 1) (cn (some (b.take 64))) (.i6 k)=some (.b6 (bW x) 0):=by simp[cn,oM,aF]
   obtain⟨q,z⟩:=al (k / 4);have aA:cz .quo .i64 (k:Int) .i64 4=some (.i6 (q:Int)):=by rw[z];exact BV k 4 F F
   have aE:IntKind.i64.wrap ((k:Int)+1)=k+1:=wrap_i64 F F;have az:(q:Int)<64:=F;have ap:=Fg b k q F;have j:=ml bg (mo b k) q (((mn (((b.take k).drop (4*q)).take 4) <<< 8) ||| x.setWidth 32)) (by rw[MN];omega);rw[z,Zp b k F F x J,<-z] at j;have w:q+1<=64:=F;simp[h,aq,bW,aA,az,ap,w,aE,j];omega
  ·have av:k=64:=F;subst av;simp;refine bB 48 (fun g m l=>m 2=.ptr 0 0 64/\m 5=.i6 (16+g:Nat)/\l=[.q 64 ((m3 b g).map bg)]) ?_ ?_
   ·rintro g m l aG ⟨o,I,rfl⟩;obtain⟨m,rfl⟩:=kk o I;clear o I;obtain⟨t,C⟩:=al (16+g);rw[<-C];simp;by_cases h:(t:Int)<64
    ·have aD:IntKind.i64.wrap ((t:Int)+1)=(t+1:Nat):=wrap_i64 F F;have V:IntKind.i64.wrap ((t:Int) - 15)=(t - 15:Nat):=by rw[wrap_i64 F F];omega
     have X:IntKind.i64.wrap ((t:Int) - 2)=(t - 2:Nat):=by rw[wrap_i64 F F];omega
     have W:IntKind.i64.wrap ((t:Int) - 16)=(t - 16:Nat):=by rw[wrap_i64 F F];omega
     have Y:IntKind.i64.wrap ((t:Int) - 7)=(t - 7:Nat):=by rw[wrap_i64 F F];omega
     have aw:(gV g (et b)).length=t:=by simp[r9,et];omega
     have p:=Ar b g (t - 15) F;have o:=Ar b g (t - 2) F;have u:=Ar b g (t - 16) F;have v:=Ar b g (t - 7) F;have j:=ml bg (m3 b g) t (ext (gV g (et b))) (by rw[Xa b g F];omega);rw[C,Xb b g F,<-C] at j;unfold ext at j;rw[aw] at j
     dsimp only at j
     obtain⟨K,aj⟩:=al (t - 15);obtain⟨P,ak⟩:=al (t - 2);obtain⟨O,yK⟩:=al (t - 16);obtain⟨Q,am⟩:=al (t - 7);rw[<-aj] at V p j;rw[<-ak] at X o j;rw[<-yK] at W u j;rw[<-am] at Y v j;have ae:(K:Int)<64:=F;have ah:(P:Int)<64:=F;have ag:(O:Int)<64:=F;have ai:(Q:Int)<64:=F;have w:t+1<=64:=F;generalize (gV g (et b)).getD K 0#32=x at p j;generalize (gV g (et b)).getD P 0#32=y at o j;generalize (gV g (et b)).getD O 0#32=aH at u j;generalize (gV g (et b)).getD Q 0#32=aJ at v j;have U:=sI x 7 F F;have S:=sI x 18 F F;have R:=sI y 17 F F;have T:=sI y 19 F F;simp at U S R T;simp[h,V,X,p,o,ae,ah];refine au (sH _ _) rfl ?_;simp;refine au (sH _ _) rfl ?_;simp;refine au (sH _ _) rfl ?_;simp;refine au (sH _ _) rfl ?_;simp[U,S,R,T,W,Y,u,v,ag,ai,h,j,aD,w];omega
    ·have ar:g=48:=F;have aB:m3 b 48=eA b:=by simp[m3,eA]
     subst ar;have ax:=xq b;rw[aB];simp[h,ax,mj,aI];exact aP rfl (G4 bg (fun _=>rfl) _)
   ·simp[m3,gV,Zo b ao]
 ·simp[Zq,KQ _ 32]
theorem Zm (b:List B) (n:Nat) (h:64<=n) :et (b.take n)=et b:=by unfold et;apply mr;intro j g;have:=g3.1 g;congr 1;rw[qo,lL,i5 F]
theorem Xc (b:List B) (n:Nat) (g:64<=n) :eA (b.take n)=eA b:=by unfold eA;rw[Zm b n g]
theorem rounds_succ:∀ (k:Nat) (s:dN) (a b:List W) (x y:W),a[k]?=some x->b[k]?=some y->rounds s (a.take (k+1)) (b.take (k+1))=round (rounds s (a.take k) (b.take k)) x y
 | 0,s,a,b,x,y,g,h=>by
  cases a with
  | nil=>simp at g
  | cons a j=>
   cases b with
   | nil=>simp at h
   | cons b m=>simp at g h;subst g h;simp[rounds]
 | k+1,s,a,b,x,y,g,h=>by
  cases a with
  | nil=>simp at g
  | cons a j=>
   cases b with
   | nil=>simp at h
   | cons b m=>
    simp only[List.take_succ_cons,rounds];exact rounds_succ k _ j m x y (by simpa using g) (by simpa using h)
def kf (h:dN) (b:List B) (k:Nat) :dN:=rounds h (b5.take k) ((eA b).take k)
theorem Kr (h:dN) (b:List B) :kf h b 0=h:=rfl
theorem Kq (h:dN) (b:List B) (k:Nat) (hk:k<64) :kf h b (k+1)=round (kf h b k) (b5.getD k 0#32) ((eA b).getD k 0#32):=by
 have h1:b5.length=64:=rfl;have g:=xq b;refine rounds_succ k h b5 (eA b) _ _ ?_ ?_
 ·rw[gw,bM F];rfl
 ·rw[gw,bM F];rfl
theorem Kp (h:dN) (b:List B) :kf h b 64=rounds h b5 (eA b):=by have h1:b5.length=64:=rfl;have g:=xq b;unfold kf;rw[aI F,aI F]
def g5 (a b:List W) (k:Nat) :List W:=(List.zipWith (·+·) a b).take k++a.drop k
theorem F5 (a b:List W) :g5 a b 0=a:=rfl
theorem BG {a b:List W} (h:a.length=b.length) (k:Nat) :(g5 a b k).length=a.length:=by simp[g5];omega
theorem F3 {a b:List W} (h:a.length=b.length) {k:Nat} (hk:k<a.length) :(g5 a b k)[k]?=a[k]?:=by
 unfold g5;rw[eu (by simp;omega)];have:(List.take k (List.zipWith (·+·) a b)).length=k:=by simp;omega
 rw[this,gx];simp
theorem F4 {a b:List W} (h:a.length=b.length) {k:Nat} {x y:W} (g:a[k]?=some x) (m:b[k]?=some y) :(g5 a b k).set k (x+y)=g5 a b (k+1):=by
 have hk:=(aL.1 g).1;unfold g5;have j:(List.take k (List.zipWith (·+·) a b)).length=k:=by simp;omega
 have o:(List.zipWith (·+·) a b)[k]?=some (x+y):=by rw[List.getElem?_zipWith,g,m]
 rw[pk _ _ F,j,th,oc hk,te,ei,o];simp
theorem RG {h:dN} {b:List B} (aA:64<=b.length) {l:ae} {bk sz:Nat} {rest:ag} {x:U} {K:cB} (G:l[bk]?=some (.q sz (h.l.map bg++rest))) (aY:8<=sz) (aM:fp (aZ l) x (cn (some b)))
  (ak:∀ junk,K (.aX []) (l.set bk (.q sz ((grind h b).l.map bg++rest))++junk)) :cM 273 [.ptr bk 0 sz,x] l K:=by
 apply c1 func273 [[],[[0],[1]]++cT 4 8++[[13],[14],[15],[17],[18],[19],[2,19,15],[3],[12],[16]]];simp;refine ig (Xd b aA) (.cons aM .nil) (HR bg (fun _=>rfl) _) ?_;have u:=a1 G;have aK:=xq b;have aH:(l++[aq.q 64 ((eA b).map bg)])[bk]?=some (.q sz (h.l.map bg++rest)):=by rw[aV u];exact G
 have m:∀ i (y:W),i<8->h.l[i]?=some y->(h.l.map bg++rest)[i]?=some (bg y):=fun i y aE w=>by
  rw[aV (by simpa [dN.l] using aE),b0,w];rfl
 have aO:=m 0 h.a F rfl;have q1:=m 1 h.b F rfl;have aP:=m 2 h.c F rfl;have aQ:=m 3 h.d F rfl;have aR:=m 4 h.e F rfl;have aS:=m 5 h.f F rfl;have aT:=m 6 h.g F rfl;have aU:=m 7 h.h F rfl;simp[mj,aK,aH,aO,q1,aP,aQ,aR,aS,aT,aU];refine bB 64 (fun k j t=>j 0=.ptr bk 0 sz/\j 4=.ptr l.length 0 64/\j 5=bg (kf h b k).a/\j 6=bg (kf h b k).b/\j 7=bg (kf h b k).c/\j 8=bg (kf h b k).d/\j 9=bg (kf h b k).e/\j 10=bg (kf h b k).f/\j 11=bg (kf h b k).g/\j 12=bg (kf h b k).h/\j 52=.i6 k ∧
  t=l++[.q 64 ((eA b).map bg)]) ?_ ?_
 ·rintro k j t hk ⟨p,T,V,Y,ah,ai,aj,O,P,S,X,rfl⟩;obtain⟨j,rfl⟩:=Mp p T V Y ah ai aj O P S X;clear p T V Y ah ai aj O P S X;simp;by_cases C:(k:Int)<64
  ·have J:IntKind.i64.wrap ((k:Int)+1)=k+1:=wrap_i64 F F;have D:k<64:=F;have ar:=X9 k D;have ap:(eA b)[k]?=some ((eA b).getD k 0#32):=by rw[gw,bM F];rfl
   rw[Kq h b k D];generalize (eA b).getD k 0#32=a2 at *
   generalize b5.getD k 0#32=a0 at *
   generalize kf h b k=s at *
   have ay:=I7 s.e 6 11 25 F F F;have az:=I7 s.a 2 13 22 F F F;simp at ay az;simp[C,ar,ap];refine au ay rfl ?_;simp[ar,ap];refine au az rfl ?_;simp[D,J];simp[round]
  ·have aF:k=64:=F;subst aF;rw[Kp];obtain⟨v,aw⟩:∃ v,rounds h b5 (eA b)=v:=⟨_,rfl⟩
   rw[aw];have aC:grind h b=⟨h.a+v.a,h.b+v.b,h.c+v.c,h.d+v.d,h.e+v.e,h.f+v.f,h.g+v.g,h.h+v.h⟩:=by unfold grind;rw[aw]
   simp;have I:h.l.length=v.l.length:=rfl;have H:h.l.length=8:=rfl;have aB:(grind h b).l=g5 h.l v.l 8:=by rw[aC];rfl
   rw[aB] at ak;refine bB 8 (fun k j t=>j 0=.ptr bk 0 sz/\j 111=.af (v.l.map bg)/\j 112=.i6 k/\t=l.set bk (.q sz ((g5 h.l v.l k).map bg++rest))++[.q 64 ((eA b).map bg)]) ?_ ?_
   ·rintro k j t hk ⟨p,Q,R,rfl⟩;obtain⟨j,rfl⟩:=gF p Q R;clear p Q R;simp;by_cases C:(k:Int)<8
    ·have J:IntKind.i64.wrap ((k:Int)+1)=k+1:=wrap_i64 F F;have o:k<8:=F;obtain⟨y,w⟩:∃ y,v.l[k]?=some y:=⟨_,bM (show k<v.l.length from o)⟩
     obtain⟨z,ax⟩:∃ z,h.l[k]?=some z:=⟨_,bM (show k<h.l.length from o)⟩
     have al:=F3 I (k:=k) (by rw[H];exact o);rw[ax] at al;have am:=BG I k;have ao:=ml bg (g5 h.l v.l k) k (z+y) (by rw[am,H];exact o);rw[F4 I ax w] at ao;have aW:((g5 h.l v.l k).map bg).length=8:=by rw[ce,am,H]
     have aL:av ((g5 h.l v.l k).map bg++rest) k [bg (z+y)]=(g5 h.l v.l (k+1)).map bg++rest:=by
      rw[<-ao];unfold av;rw[il F,ob (by simp;omega)];simp
     have aD:((g5 h.l v.l k).map bg++rest)[k]?=some (bg z):=by rw[aV F,b0,al];rfl
     have aI:(l.set bk (.q sz ((g5 h.l v.l k).map bg++rest))++[aq.q 64 ((eA b).map bg)])[bk]?=some (.q sz ((g5 h.l v.l k).map bg++rest)):=by
      rw[aV (by simpa using u),oe];simp[u]
     have aG:k+1<=sz:=F;simp[C,w,aD,aI,J,aL,o,aG,u]
    ·have o:k=8:=F;subst o;simp;exact ak _
   ·have aJ:l.set bk (.q sz ((g5 h.l v.l 0).map bg++rest))=l:=by
     rw[F5];exact Xg G
    rw[aJ];simp[dN.l]
 ·simp[Kr]
abbrev kF (g:b1 dX) :U:=b4 1 (fun s=>[cn s]) g
theorem G2 (g:b1 dX) :(kF g).ar=true:=pD (fun s=>by simp only[am,j1,k5]) g
def bytesOf (g:List dX) :List B:=(g.map b1.l).flatten
theorem bytesOf_take (g:List dX) (k:Nat) (s:dX) (h:g[k]?=some s) :bytesOf (g.take (k+1))=bytesOf (g.take k)++s.l:=by unfold bytesOf;rw[ei,h];simp
theorem GL (g:List dX) (k:Nat) :(bytesOf (g.take k)).length<=(bytesOf g).length:=by
 conv=>rhs;rw[<-i3 k g]
 unfold bytesOf;rw[cV,jr,cI];omega
theorem RK {n:Nat} (C:n<=1000000000) {l:ae} {K:cB} (h:∀ v j l',aH 1 l' v j []->l.length<=l'.length->(∀ b,b<l.length->l'[b]?=l[b]?)->(bq v=decide (n=0))->K v l') :cM 219 [.ad,.i6 n] l K:=by
 apply c1 func219 [];have h1:¬((n:Int)<0):=F;have w:IntKind.i64.wrap (n:Int)=n:=wrap_i64 F F;have z:IntKind.i64.wrap (0:Int)=0:=rfl;by_cases g:n=0
 ·subst g;simp;exact h _ 0 _ (.nil 0) (aN _) (fun _ _=>rfl) rfl
 have B:(0:Int)<n:=F;have p:ow l 1 1 [.int .u8 0] .ad (.i6 n)=some (.Z 1 l.length 0 n n (n*1),l++[.q (n*1) (cQ [.int .u8 0] n)]):=by
  unfold ow hq;simp only[fo];have m:=du;rw[ak ⟨F,F,by rw[m];omega⟩,ai g,ai F,ak (by rw[m];omega)]
 have o:dw (.Z 1) (.Z 1 l.length 0 n n (n*1)) none (some (.i6 0)) none=some (.Z 1 l.length 0 0 n (n*1)):=by
  rw[rk,yo,ak ⟨F,F⟩];simp[g]
 rw[oi] at p o;have t:0<n:=F;simp[h1,t,w,p,z,o];refine h _ l.length (l++[.q n (cQ [.int .u8 0] n)]) (.Z _ 0 n n (cQ [.int .u8 0] n) [] V (by rw[uF];simp) rfl V F F rfl) V (fun b u=>aV u) ?_;simp[bq,g]
def tF (g:List dX) :dX:=if bytesOf g=[] then none else some (bytesOf g)
theorem Pl (IU:List dX) :(tF IU).l=bytesOf IU:=by unfold tF;split<;>simp_all
theorem PR (g:List dX) (T:(bytesOf g).length<=1000000000) (ai:g.length<=1000000000) :nt prog GS 172 [kF (some g)] (cn (tF g)):=by
 refine xa checked.mixed eD ?_;apply c1 func172 [];simp;have Q:∀ (k:Nat) (s:dX),g[k]?=some s->bQ (.Z 1) (kF (some g)) (.i6 k)=some (.b6 [cn s] 0):=fun k s m=>by simp[kF,oM,m]
 refine bB g.length (fun k j l=>j 0=kF (some g)/\j 9=kF (some g)/\j 10=.i6 g.length/\j 11=.i6 k/\j 3=.i6 (bytesOf (g.take k)).length/\l=[]) ?_ ?_
 ·rintro k j l hk ⟨C,P,D,G,K,rfl⟩;obtain⟨j,rfl⟩:=gu C K P D G;clear C K P D G;simp;by_cases h:k<g.length
  ·obtain⟨s,m,_⟩:=aQ h;have o:=bytesOf_take g k s m;have z:=GL g (k+1);rw[o,cI] at z;have V:IntKind.i64.wrap (((bytesOf (g.take k)).length:Int)+s.l.length)=((bytesOf (g.take k)).length:Int)+s.l.length:=wrap_i64 F F;have B:IntKind.i64.wrap ((k:Int)+1)=k+1:=wrap_i64 F F;have U:¬(((bytesOf (g.take k)).length:Int)+s.l.length<0):=F;simp[h,Q k s m,V,U,B,o]
  ·have w:k=g.length:=F;subst w;simp;refine RK T ?_;intro t v l q ah _ u;simp;refine bB g.length (fun k j l=>j 25=kF (some g)/\j 26=.i6 g.length/\j 27=.i6 k/\∃ t v,j 6=t/\aH 1 l t v ((bytesOf (g.take k)).map bW)/\bq t=decide (bytesOf g=[])) ?_ ?_
   ·rintro k j l hk ⟨H,I,J,t,v,O,q,u⟩;obtain⟨j,rfl⟩:=eO O H I J;clear O H I J;simp;by_cases h:k<g.length
    ·obtain⟨s,m,_⟩:=aQ h;have o:=bytesOf_take g k s m;have z:=GL g (k+1);rw[o,cI] at z;have B:IntKind.i64.wrap ((k:Int)+1)=k+1:=wrap_i64 F F;have aj:=du;obtain⟨al,W,ak,h1,R,Y,ae,ag,S⟩:=lS (by_:=1) q (x:=cn s) (xs:=s.l.map bW) (by simp[cn]) (fun e p=>by obtain⟨x,_,rfl⟩:=cE.1 p;rfl) F F (by simp;omega);simp[h,Q k s m,h1];refine bR.bm ?_;simp[h,B];refine⟨⟨W,by rw[o,cV];exact R⟩,?_⟩;rw[qT S,u];by_cases p:bytesOf g=[]
     ·have X:(bytesOf g).length=0:=by rw[p];rfl
      have:s.l=[]:=ho.1 F;simp[p,this]
     ·simp[p]
    ·have w:k=g.length:=F;subst w;simp;rw[e0] at q;refine q.D3 (fun _=>rfl) _ ?_ (Pl g);rw[u];unfold tF;split<;>simp_all
   ·simp;refine⟨⟨v,by simpa [bytesOf] using q⟩,?_⟩;rw[u];simp[ho]
 ·simp[bytesOf]
theorem PA (s:b1 B) :ea prog .eql 100 (b4 1 bW s) .ad=some (.bool s.isNone):=vK (e:=5) bn 1 bW s
theorem PB {s:b1 B} (D:s.l.length<=1000000000) {l:ae} {K:cB} (g:∀ v j l',aH 1 l' v j (s.l.map bW)->l.length<=l'.length->(∀ b,b<l.length->l'[b]?=l[b]?)->(v=.ad\/l.length<=j)->bq v=s.isNone->K v l') :cM 274 [b4 1 bW s] l K:=by
 apply c1 func274 [];simp[PA];cases s with
 | none=>
  simp;exact g _ 0 _ (.nil 0) (aN _) (fun _ _=>rfl) (.inl rfl) rfl
 | some b=>
  simp;have I:=du;have J:b.length<=1000000000:=D;have C:aH 1 (l++[aq.q 0 []]) (.Z 1 l.length 0 0 0 0) l.length []:=.Z l.length 0 0 0 [] [] V rfl rfl V (aN _) F rfl;obtain⟨O,G,l',h1,m,o,p,t,u⟩:=lS (by_:=1) C (x:=b4 1 bW (some b)) (xs:=b.map bW) V (fun e z=>by obtain⟨x,_,rfl⟩:=cE.1 z;rfl) F F (by simp;omega);simp[h1];refine bR.bm ?_;simp;have H:l.length+1<=l'.length:=by simpa using o
  refine g _ G _ m F (fun b w=>?_) (.inr (by rcases t with h | h<;>(try simp only[cI,dM,hp] at h)<;>omega)) ?_
  ·rw[p b (by simp;omega) F,aV w]
  ·rw[qT u];rfl
structure pt where
 st:dN
 rest:dX
 n:Int
def fl (s:dN) (r:U) (n:Int) :ag:=s.l.map bg++[r,.i6 n]
def nE (m:pt) :U:=.af (fl m.st (cn m.rest) m.n)
def pG (m:pt) (b:dX) :pt:=
 let all:=m.rest.l++b.l
 ⟨(fS m.st all).1,if all=[] then none else some (fS m.st all).2,m.n+b.l.length⟩
theorem Pm (a b:dX) :tF [a,b]=if a.l++b.l=[] then none else some (a.l++b.l):=by
 have:bytesOf [a,b]=a.l++b.l:=by simp[bytesOf]
 unfold tF;rw[this]
theorem RH (h:dN) (b:List B) :grind h (b.take 64)=grind h b:=by unfold grind;rw[Xc b 64 F]
theorem q0 (s:dN) (r:U) (n:Int) :(fl s r n).length=10:=rfl
theorem HG (m:pt) (b:dX) (Q:m.rest.l.length+b.l.length<=1000000000) (aG:0<=m.n) (aH:m.n<=1000000000) :nt prog GS 248 [nE m,cn b] (nE (pG m b)):=by
 refine xa checked.mixed eD ?_;apply c1 func248 [cT 0 6++[[6,1]]];have aD:(U.af (fl m.st (cn m.rest) m.n)).cells=some (fl m.st (cn m.rest) m.n):=rfl;have ai:(fl m.st (cn m.rest) m.n)[8]?=some (cn m.rest):=rfl;have P:=PR [m.rest,b] (by simp[bytesOf];exact Q) V;rw[Pm] at P;simp[nE,q0,ai];refine Ke P (.cons ?_ .nil) ?_
 ·exact Ac (es:=[[cn m.rest],[cn b]]) (rest:=[]) rfl rfl V (by simp[am,j1])
 obtain⟨all,z⟩:=al (m.rest.l++b.l);have aC:all.length<=1000000000:=by rw[z];simpa using Q
 rw[<-z];simp;refine bB (all.length / 64) (fun k j l=>j 1=cn b/\j 2=.ptr 0 0 10/\j 4=.ptr 1 0 10/\∃ h s o junk,j 5=cn s/\l=.q 10 (fl h (cn m.rest) m.n) ::.q 10 o::junk/\fS m.st all=fS h s.l/\s.l.length=all.length - 64*k/\o.length=10/\s.isNone=decide (all=[])) ?_ ?_
 ·rintro k j l hk ⟨B,C,D,h,s,o,junk,G,rfl,J,t,X,S⟩;obtain⟨j,rfl⟩:=eO B C D G;clear B C D G;have ap:bD (.Z 1) (cn s)=some (.i6 s.l.length):=b9 _;simp[ap];by_cases w:(64:Int)<=s.l.length
  ·cases s with
   | none=>simp at w
   | some g=>
   have ah:(64:Int)<=g.length:=w;have H:64<=g.length:=F;simp[ah];refine RG (h:=h) (b:=g) H (l:=.q 10 (fl h (cn m.rest) m.n) ::.q 10 o::junk) (bk:=0) (sz:=10) (rest:=[cn m.rest,.i6 m.n]) rfl F (KC (j1 _)) (fun aI=>?_);have aw:dw (.Z 1) (cn (some g)) (some (.i6 64)) none none=some (cn (some (g.drop 64))):=by
    unfold cn;rw[Ls F F];rfl
   simp[aw];have aE:g.length=all.length - 64*k:=t;refine⟨F,grind h g,some (g.drop 64),rfl,o,⟨rfl,rfl⟩,?_,?_,X,?_⟩
   ·rw[J];show fS h g=_;rw[vM h g H,RH];rfl
   ·simp;omega
   ·exact S
  ·have aq:s.l.length<64:=F;have aA:IntKind.i64.wrap (m.n+(b.l.length:Int))=m.n+b.l.length:=wrap_i64 F F;have I:(fl h (cn m.rest) m.n)[9]?=some (.i6 m.n):=rfl;have ao:bD (.Z 1) (cn b)=some (.i6 b.l.length):=b9 _;simp[w,I,ao,aA];refine PB F ?_;intro ag Y l T aF R p ar;obtain⟨l',rfl⟩:∃ l',l=.q 10 (fl h (cn m.rest) m.n) ::.q 10 o::l':=by
    have u:=R 0 V;have v:=R 1 V;cases l with
    | nil=>simp at u
    | cons a l=>cases l with
     | nil=>simp at v
     | cons c l=>simp at u v;subst u v;exact⟨l,rfl⟩
   have ay:∀ r n Jd,av (fl h r n) 9 [.i6 Jd]=fl h r Jd:=fun _ _ _=>rfl
   have ax:∀ r n ae,av (fl h r n) 8 [ae]=fl h ae n:=fun _ _ _=>rfl
   have az:=T.cells;simp[I,ay,ax,az,q0,X,mj];have W:∀ r n,List.take 10 (fl h r n)=fl h r n:=fun _ _=>rfl
   rw[W,W];have ak:pG m b=⟨h,if all=[] then none else some s.l,m.n+b.l.length⟩:=by
    unfold pG;rw[<-z]
    dsimp only
    rw[J,yn h s.l aq]
   rw[ak];have au:=(T.cx (l':=.q 10 (fl h ag (m.n+(b.l.length:Int))) ::.q 10 (fl h ag (m.n+(b.l.length:Int))) ::l') (by
    rcases p with p | p
    ·exact .inl p
    ·obtain⟨q,rfl⟩:∃ q,Y=q+2:=⟨Y - 2,by simp at p;omega⟩
     exact .inr rfl)).D3 (fun _=>rfl) (if all=[] then none else some s.l) (by
     rw[ar,S];split<;>simp_all) (by
     split
     ·rename_i aj;rw[aj] at t;simp at t;rw[t];rfl
     ·rfl)
   refine .af _ _ rfl fun i c aB K O=>?_
   rcases i with _ | _ | _ | _ | _ | _ | _ | _ | _ | _ | i<;>simp[fl,dN.l] at K O
   all_goals subst K O
   all_goals first | exact au | exact .flat _ rfl
 ·simp;exact⟨m.st,(if all=[] then none else some all),rfl,⟨[.int .u32 0,.int .u32 0,.int .u32 0,.int .u32 0,.int .u32 0,.int .u32 0,.int .u32 0,.int .u32 0,.ad,.i6 0],⟨rfl,rfl⟩,by split<;>simp_all,by split<;>simp_all,rfl,by split<;>simp_all⟩⟩
def eo (b:List B) :U:=.af (b.map a7)
def k2 (n k:Nat) :List B:=128#8::List.replicate ((119 - n % 64) % 64) 0#8++(vO (BitVec.ofNat 64 n*8#64)).take k
theorem ES (n:Nat) :k2 n 8=tail n:=rfl
theorem L5 (n k:Nat) (x:B) (g:(vO (BitVec.ofNat 64 n*8#64))[k]?=some x) :k2 n (k+1)=k2 n k++[x]:=by unfold k2;rw[ei,g];simp
theorem AJ (n k:Nat) :(k2 n k).length<=80:=by unfold k2;have:(vO (BitVec.ofNat 64 n*8#64)).length=8:=rfl;simp;omega
theorem GH (q:BitVec 64) (k:Nat) (hk:k<8) :(vO q)[k]?=some ((q >>> (56 - 8*k)).setWidth 8):=by
 match k,hk with
 | 0,_=>rfl
 | 1,_=>rfl
 | 2,_=>rfl
 | 3,_=>rfl
 | 4,_=>rfl
 | 5,_=>rfl
 | 6,_=>rfl
 | 7,_=>rfl
def mX (s:List W) (k:Nat) :List B:=((s.take k).map qf).flatten++List.replicate (32 - 4*k) 0#8
theorem MK (s:List W) :(s.map qf).flatten.length=4*s.length:=by
 induction s with
 | nil=>rfl
 | cons w s g=>simp[g,qf];omega
theorem UL (s:List W) (k:Nat) (hk:k<=s.length) (g:s.length=8) :(mX s k).length=32:=by unfold mX;rw[cI,MK];simp;omega
theorem UM (s:List W) (k:Nat) (w:W) (hk:s[k]?=some w) (o:s.length=8) :
  ((((mX s k).set (4*k) ((w >>> 24).setWidth 8)).set (4*k+1) ((w >>> 16).setWidth 8)).set (4*k+2) ((w >>> 8).setWidth 8)).set (4*k+3) (w.setWidth 8)=mX s (k+1):=by
 have m:=(aL.1 hk).1;unfold mX;rw[ei,hk];have g:((s.take k).map qf).flatten.length=4*k:=by rw[MK];simp;omega
 obtain⟨A,h⟩:=al (((s.take k).map qf).flatten);rw[<-h] at g ⊢;have j:32 - 4*k=(32 - 4*(k+1))+1+1+1+1:=F;rw[j,kr,kr,kr,kr];rw[pk _ _ F,pk _ _ F,pk _ _ F,pk _ _ F];simp only[g,th,Nat.add_sub_cancel_left,te,x0,cV,jr,<-h];simp[qf]
def yO (s:dN) (r:dX) (n:Nat) :List B:=written (fS s (r.l++tail n)).1
theorem QF (s:dN) (r:dX) (n:Nat) (bN:r.l.length<=100000000) (bJ:n<=100000000) :aU 249 [nE ⟨s,r,n⟩] (eo (yO s r n)):=by
 apply a2 func249 [];have aS:(fl s (cn r) n)[9]?=some (.i6 n):=rfl;have ai:(U.af (fl s (cn r) n)).cells=some (fl s (cn r) n):=rfl;have aw:=tx n 64 F;obtain⟨q,Q⟩:=al (n % 64);rw[show ((64:Int).toNat)=64 from rfl,<-Q] at aw;have bL:q<64:=by rw[Q];exact mv _ F
 have ay:IntKind.i64.wrap (119 - (q:Int))=(119 - q:Nat):=by rw[wrap_i64 F F];omega
 have I:=tx (119 - q) 64 F;rw[show ((64:Int).toNat)=64 from rfl] at I;obtain⟨v,P⟩:=al ((119 - q) % 64);rw[<-P] at I;have bH:v<64:=by rw[P];exact mv _ F
 obtain⟨bS,bj⟩:=al (119 - q);rw[<-bj] at ay I;have bh:dj=140737488355328:=rfl;obtain⟨L,D⟩:=al ([aq.q 10 (fl s (cn r) n),aq.q 32 (bZ 32 (U.int IntKind.u8 0)),aq.q 1 [U.int IntKind.u8 128]] :ae);have aW:L[0]?=some (aq.q 10 (fl s (cn r) n)):=by rw[D];rfl
 have aY:L[1]?=some (aq.q 32 (bZ 32 (U.int IntKind.u8 0))):=by rw[D];rfl
 have bE:L.length=3:=by rw[D];rfl
 have bc:aH 1 L (.Z 1 2 0 1 1 1) 2 [[U.int IntKind.u8 128]]:=by
  rw[D];exact .Z 2 1 1 1 [.int .u8 128] _ rfl rfl rfl V (aN _) (aN _) rfl
 have bb:v<9223372036854775808:=F;have bi:(List.length [[U.int IntKind.u8 128]]+v)*1<=dj:=by rw[bh];simp;omega
 have a9:=Ox (n:=v) (k:=.i64) (by_:=1) (zero:=[.int .u8 0]) bc rfl F F bb bi;obtain⟨t,j,l,h1,p,aR,C,J,K⟩:=a9;have H:bq t=false:=by
  rw[ql];intro ao;rw[gk,K] at ao;cases ao.1
 have bk:u 128#8=128:=by decide
 have a3:([[U.int IntKind.u8 128]]++List.replicate v [U.int IntKind.u8 0] :List (ag))=(k2 n 0).map bW:=by
  have:v=(119 - n % 64) % 64:=by rw[P,Q]
  unfold k2;rw[<-this];simp[bW,bk]
 rw[a3] at p;have z:=(C 0 F F).trans aW;have o:=(C 1 F F).trans aY;have a6:2<=j:=by rcases J with h | h<;>omega
 simp[nE,q0,aS,aw,ay,I];rw[<-D];simp[h1];refine bB 8 (fun k m l=>m 1=.ptr 0 0 10/\m 2=.ptr 1 0 32/\m 3=c6 (BitVec.ofNat 64 n*8#64)/\m 5=.i6 (56 - 8*(k:Int))/\∃ t j,m 4=t/\2<=j/\bq t=false/\aH 1 l t j ((k2 n k).map bW)/\l[0]?=some (aq.q 10 (fl s (cn r) n))/\l[1]?=some (aq.q 32 (bZ 32 (U.int IntKind.u8 0)))) ?_ ?_
 ·rintro k m l hk ⟨S,B,T,ah,t,j,Y,bF,H,p,z,o⟩;obtain⟨m,rfl⟩:=gu S B T Y ah;clear S B T Y ah;obtain⟨c,ai⟩:=al (56 - 8*(k:Int) :Int);rw[<-ai];simp;by_cases G:0<=c
  ·have a8:k<8:=F;have R:=GH (BitVec.ofNat 64 n*8#64) k a8;have a0:c.toNat=56 - 8*k:=F;have bn:IntKind.i64.wrap (c - 8)=56 - 8*((k:Int)+1):=by rw[wrap_i64 F F];omega
   have bO:=AJ n k;have bd:aH 1 (l++[aq.q 1 [a7 (((BitVec.ofNat 64 n*8#64) >>> (56 - 8*k)).setWidth 8)]]) t j ((k2 n k).map bW):=p.more _;obtain⟨bx,c3,az,h1,aQ,aR,C,J,K⟩:=lS (by_:=1) bd (x:=.Z 1 l.length 0 1 1 1) (xs:=[[a7 (((BitVec.ofNat 64 n*8#64) >>> (56 - 8*k)).setWidth 8)]]) (by simp[cq]) V F F (by simp;omega);have bG:j<l.length:=by
    rcases p.lt with h | h
    ·subst h;simp[bq] at H
    ·exact h
   have aM:az[0]?=some (aq.q 10 (fl s (cn r) n)):=by rw[C 0 V F,aV (a1 z)];exact z
   have aO:az[1]?=some (aq.q 32 (bZ 32 (U.int IntKind.u8 0))):=by
    have:=a1 o;rw[C 1 (by simp;omega) F,aV (a1 o)];exact o
   have bl:bq bx=false:=by rw[qT K,H];rfl
   have a5:2<=c3:=by
    rcases J with h | h
    ·omega
    ·have h:=dC (show l.length<=(l++[aq.q 1 [a7 (((BitVec.ofNat 64 n*8#64) >>> (56 - 8*k)).setWidth 8)]]).length by simp) h;omega
   simp[G,a0,h1];refine bR.bm ?_;simp[G,bn];exact⟨F,c3,a5,bl,by rw[L5 n k _ R,cV];exact aQ,aM,aO⟩
  ·have O:k=8:=F;subst O;rw[ES] at p;have aj:=HG ⟨s,r,n⟩ (some (tail n)) (by have:=AJ n 8;rw[ES] at this;simp;omega) V (by simp;omega);have R:=p.mZ (fun _=>rfl) (some (tail n)) (by rw[H];rfl) rfl;have ak:(pG ⟨s,r,n⟩ (some (tail n))).st=(fS s (r.l++tail n)).1:=rfl;obtain⟨g,aT⟩:=al (pG ⟨s,r,n⟩ (some (tail n)));rw[<-aT] at aj ak;have bI:am [nE ⟨s,r,n⟩]=true:=by simp[am,nE,U.ar,fl,dN.l,j1]
   have a4:yY 8 0 (nE g)=some (.af (g.st.l.map bg)):=rfl;have au:g.st.l.length=8:=rfl;simp[G,z,q0];refine Ke aj (.cons (KC ?_) (.cons R .nil)) ?_
   ·show (U.af (fl s (cn r) n)).ar=true;simp[U.ar,am,fl,dN.l,j1]
   simp[a4];refine bB 8 (fun k m l=>m 2=.ptr 1 0 32/\m 33=.af (g.st.l.map bg)/\m 34=.i6 k/\l[1]?=some (aq.q 32 ((mX g.st.l k).map a7))) ?_ ?_
   ·rintro k m l hk ⟨B,W,X,o⟩;obtain⟨m,rfl⟩:=gF B W X;clear B W X;obtain⟨bT,bQ,rfl⟩:=Yo o;clear o;simp;by_cases G:(k:Int)<8
    ·have ap:k<8:=F;obtain⟨w,ax⟩:∃ w,g.st.l[k]?=some w:=⟨_,bM (show k<g.st.l.length from ap)⟩
     have bK:=UL g.st.l k F au;have av:=UM g.st.l k w ax au;have aB:IntKind.i64.wrap (4*(k:Int))=(4*k:Nat):=by rw[wrap_i64 F F];omega
     have aC:IntKind.i64.wrap (((4*k:Nat) :Int)+1)=(4*k+1:Nat):=by rw[wrap_i64 F F];omega
     have aD:IntKind.i64.wrap (((4*k:Nat) :Int)+2)=(4*k+2:Nat):=by rw[wrap_i64 F F];omega
     have aE:IntKind.i64.wrap (((4*k:Nat) :Int)+3)=(4*k+3:Nat):=by rw[wrap_i64 F F];omega
     have bz:IntKind.i64.wrap ((k:Int)+1)=k+1:=wrap_i64 F F;obtain⟨a,aZ⟩:=al (4*k);rw[<-aZ] at aB aC aD aE av;have bt:=ml a7 (mX g.st.l k) a ((w >>> 24).setWidth 8) F;have bv:=ml a7 ((mX g.st.l k).set a ((w >>> 24).setWidth 8)) (a+1) ((w >>> 16).setWidth 8) (by simp;omega);have bw:=ml a7 (((mX g.st.l k).set a ((w >>> 24).setWidth 8)).set (a+1) ((w >>> 16).setWidth 8)) (a+2) ((w >>> 8).setWidth 8) (by simp;omega);have aA:=ml a7 ((((mX g.st.l k).set a ((w >>> 24).setWidth 8)).set (a+1) ((w >>> 16).setWidth 8)).set (a+2) ((w >>> 8).setWidth 8)) (a+3) (w.setWidth 8) (by simp;omega);rw[av] at aA;have aF:(a:Int)<32:=F;have bA:((a+1:Nat) :Int)<32:=F;have bC:((a+2:Nat) :Int)<32:=F;have bD:((a+3:Nat) :Int)<32:=F;have aG:a+1<=32:=F;have aJ:a+1+1<=32:=F;have aK:a+2+1<=32:=F;have aL:a+3+1<=32:=F;have d1:(a:Int)+1<32:=F;have d2:(a:Int)+2<32:=F;have d3:(a:Int)+3<32:=F;have f1:((a:Int)+1).toNat=a+1:=F;have f2:((a:Int)+2).toNat=a+2:=F;have f3:((a:Int)+3).toNat=a+3:=F;have bp:(0:Int)<=(a:Int)+1:=F;have br:(0:Int)<=(a:Int)+2:=F;have bs:(0:Int)<=(a:Int)+3:=F;simp[G,ap,ax,aB,aC,aD,aE,bz,aF,bt,bv,bw,aA,aG,aJ,aK,aL,d1,d2,d3,f1,f2,f3,bp,br,bs,-List.map_set]
    ·have O:k=8:=F;subst O;have bf:mX g.st.l 8=written g.st:=by simp[mX,written,dN.l]
     rw[bf];have bo:(written g.st).length=32:=rfl;simp[bo,mj,aI];exact aP (by unfold eo yO;rw[ak]) (G4 a7 (fun _=>rfl) _)
   ·simp[o];rw[KQ .u8 8];rfl
 ·simp;exact⟨j,a6,H,p,z,o⟩
structure tm (m:pt) (b:List B) :Prop where
 BR:fS first b=(m.st,m.rest.l)
 n:m.n=b.length
theorem Sk {m:pt} {b:List B} (h:tm m b) (s:dX) :tm (pG m s) (b++s.l):=by
 have h1:fS first (b++s.l)=fS m.st (m.rest.l++s.l):=by rw[Gz,h.BR]
 refine⟨?_,?_⟩
 ·rw[h1];unfold pG
  dsimp only
  split
  ·rename_i g;rw[g];rfl
  ·rfl
 ·unfold pG
  dsimp only
  rw[h.n];simp
theorem Sl {m:pt} {b:List B} (h:tm m b) :m.rest.l.length<64:=by
 have:=OU first b
 rw[h.BR] at this;simp only at this;rw[this];exact mv _ F
theorem Sj {m:pt} {b:List B} (h:tm m b) :yO m.st m.rest b.length=go b:=by unfold yO go;rw[Gz first b,h.BR]
def start:pt:=⟨first,none,0⟩
theorem Sm:tm start []:=⟨rfl,rfl⟩
theorem XT:nt prog GS 247 [] (nE start):=by refine xa checked.mixed eD ?_;apply c1 func247 [];simp;exact .flat _ rfl
def oO (s:dX) :Bool:=decide ((10000:Int)<s.l.length)
theorem SR (s:dX) :aU 246 [cn s] (.bool (oO s)):=by apply a2 func246 [];simp[cn];exact aF
theorem Rh:fJ prog 246=true:=bn
def idx (l:List dX) :Int:=match l.findIdx? oO with | some i=>(i:Int) | none=>-1
theorem RT {l:List dX} {k:Nat} {s:dX} (o:l[k]?=some s) (h:oO s=true) (m:∀ j s,j<k->l[j]?=some s->oO s=false) :idx l=k:=by
 have:l.findIdx? oO=some k:=by
  rw[List.findIdx?_eq_some_iff_getElem];obtain⟨h1,rfl⟩:=aL.1 o;refine⟨h1,h,fun j g=>?_⟩;rw[m j l[j] g (bM F)];simp
 unfold idx;rw[this]
theorem Ip {l:List dX} (h:∀ j s,j<l.length->l[j]?=some s->oO s=false) :idx l=-1:=by
 have:l.findIdx? oO=none:=by
  rw[List.findIdx?_eq_none_iff];intro x m;obtain⟨j,g⟩:=cp.1 m;exact h j x (aL.1 g).1 g
 unfold idx;rw[this]
theorem CO (g:b1 dX) (I:g.l.length<=1000000000) :aU 272 [kF g,.fn 246 [] []] (.i6 (idx g.l)):=by
 apply a2 func272 [];have D:bD (.Z 1) (kF g)=some (.i6 g.l.length):=b9 _;simp[D];refine bB g.l.length (fun k m l=>m 0=kF g/\m 1=.fn 246 [] []/\m 7=.i6 g.l.length/\m 8=.i6 k/\∀ j s,j<k->g.l[j]?=some s->oO s=false) ?_ V;rintro k m l hk ⟨t,u,v,w,p⟩;obtain⟨m,rfl⟩:=eO t u v w;clear t u v w;simp;by_cases h:k<g.l.length
 ·obtain⟨s,o,_⟩:=aQ h;have B:bQ (.Z 1) (kF g) (.i6 k)=some (.b6 [cn s] 0):=by
   rw[oM];simp[o]
  have G:IntKind.i64.wrap ((k:Int)+1)=k+1:=wrap_i64 F F;simp[h,B];refine⟨Rh,au (SR s) (by simp[am,j1]) ?_⟩;cases z:oO s with
  | true=>
   simp;rw[RT o z p];exact aF
  | false=>
   simp[h,G];intro j H C q;rcases fF j k with h1 | h1
   ·exact p j H h1 q
   ·have:j=k:=F;subst this;rw[o] at q;cases q;exact z
 ·simp[h];rw[Ip (fun j s C o=>p j s F o)];exact aF
theorem PT (g:b1 dX) (h:g.l.length<=1000000000) :aU 245 [kF g,.fn 246 [] []] (.bool (decide (0<=idx g.l))):=by apply a2 func245 [];simp;refine au (CO g h) (by simp[am,U.ar,G2]) ?_;simp;exact aF
theorem JV (g:List dX) (ao:g.length<=20) (v:∀ s∈g,s.l.length<=10000) :aU 205 [kF (some g)] (.aX [eo (go (bytesOf g)),.i6 0]):=by
 have W:idx g=-1:=Ip fun aw s aq o=>by
  have:=v s (cJ o);unfold oO;simp;omega
 have Y:∀ k,(bytesOf (g.take k)).length<=200000:=fun k=>by
  have:∀ l:List dX,(∀ s∈l,s.l.length<=10000)->(bytesOf l).length<=10000*l.length:=by
   intro l
   induction l with
   | nil=>intro _;simp[bytesOf]
   | cons s l ak=>
    intro h;have h1:=ak fun x aj=>h x (by simp[aj])
    have Q:=h s V;unfold bytesOf at h1 ⊢;rw[dg,hj,cI,dM];omega
  have h1:=this (g.take k) fun s o=>v s (gy o)
  have Q:(g.take k).length<=20:=by simp;omega
  omega
 apply a2 func205 [];have R:¬(20:Int)<g.length:=F;have H:=PT (some g) (by simp;omega);rw[b1.pT,W] at H;simp[R];refine au H (by simp[am,U.ar,G2]) ?_;simp;refine au XT.AM rfl ?_;simp[nE,q0];refine bB g.length (fun k m l=>m 2=.ptr 0 0 32/\m 4=.ptr 1 0 10/\m 16=kF (some g)/\m 17=.i6 g.length/\m 18=.i6 k/\∃ j,tm j (bytesOf (g.take k))/\l=[.q 32 (bZ 32 (.int .u8 0)),.q 10 (fl j.st (cn j.rest) j.n)]) ?_ ?_
 ·rintro k m l hk ⟨C,D,w,z,B,j,p,rfl⟩;obtain⟨m,rfl⟩:=gu C D w z B;clear C D w z B;simp;have G:(U.af (fl j.st (cn j.rest) j.n)).ar=true:=by simp[U.ar,am,fl,dN.l,j1]
  have O:List.take 10 (fl j.st (cn j.rest) j.n)=fl j.st (cn j.rest) j.n:=rfl;have av:=Sl p;have J:=p.n;have ae:=Y k;by_cases h:k<g.length
  ·obtain⟨s,o,ah⟩:=aQ h;have T:bQ (.Z 1) (kF (some g)) (.i6 k)=some (.b6 [cn s] 0):=by
    rw[oM];simp[o]
   have ai:IntKind.i64.wrap ((k:Int)+1)=k+1:=wrap_i64 F F;have h1:=v s ah;have I:=HG j s F F F;have u:=Sk p s;rw[<-bytesOf_take g k s o] at u;obtain⟨P,S⟩:=al (pG j s);rw[<-S] at I u;simp[h,T,q0,O];refine au I.AM ?_ ?_
   ·simp only[am,G,j1,k5]
   simp[nE,q0,h,ai];exact⟨P,u,rfl⟩
  ·have X:k=g.length:=F;subst X;rw[e0] at p J ae;have t:=QF j.st j.rest (bytesOf g).length F F;rw[Sj p] at t;have ag:j=⟨j.st,j.rest,((bytesOf g).length:Int)⟩:=by rw[<-J]
   rw[<-ag] at t;have K:=o7 (bytesOf g);simp[h,q0,O];refine au t ?_ ?_
   ·simp only[am,G,k5]
   have ap:((go (bytesOf g)).map a7).length=32:=by rw[ce,K]
   simp[eo,K,mj,aI];exact aP rfl (by simp[U.ar,am,jy a7 (fun _=>rfl)])
 ·simp[bytesOf];exact⟨start,Sm,rfl⟩
theorem X5 (s:dX) (h:s.l.length<=10000) :aU 150 [cn s] (.aX [eo (go s.l),.i6 0]):=by
 have j:bytesOf [s]=s.l:=by simp[bytesOf]
 have g:=JV [s] V (by simpa using h);rw[j] at g;apply a2 func150 [];have m:=o7 s.l;simp;refine ig g (.cons ?_ .nil) (by simp[U.flat,kH,eo,tQ a7 (fun _=>rfl)]) ?_
 ·exact Ac (es:=[[cn s]]) (rest:=[]) rfl rfl V (by simp[am,j1])
 simp[eo,m,mj,aI];exact aP rfl (by simp[U.ar,am,jy a7 (fun _=>rfl)])
theorem pe (x:W) (n:Nat) (m:0<n) (h:n<32) :aU 265 [bg x,.i6 n] (bg (kU x n)):=by
 apply a2 func265 [];have j:IntKind.i64.wrap (32 - (n:Int))=(32 - n:Nat):=by rw[wrap_i64 F F];omega
 obtain⟨o,g⟩:=al (32 - n);rw[<-g] at j;simp[j];exact aP (by unfold kU;rw[g]) rfl
def eb (x:W) :ag:=[bg x]
theorem PS:nt prog GS 266 [] (b4 1 eb (some b5)):=by refine xa checked.mixed eD ?_;apply c1 func266 [];simp;exact KF (z:=1) (es:=b5.map eb) (rest:=[]) bn bn (fun e g=>by obtain⟨y,_,rfl⟩:=cE.1 g;rfl) (fun e g=>by obtain⟨y,_,rfl⟩:=cE.1 g;rfl)
theorem Ra:aU 186 [] (.af (first.l.map bg)):=by apply a2 func186 [];simp;exact aF
theorem Zk (b:List B) (t:Nat) (g j m o:B) (q:b[4*t]?=some g) (h1:b[4*t+1]?=some j) (u:b[4*t+2]?=some m) (p:b[4*t+3]?=some o) :
  mn ((b.drop (4*t)).take 4)=((g.setWidth 32*256#32+j.setWidth 32)*256#32+m.setWidth 32)*256#32+o.setWidth 32:=by
 have h:(b.drop (4*t)).take 4=[g,j,m,o]:=by
  have v:=(aL.1 p).1;apply g1;intro i
  match i with
  | 0=>simp[q]
  | 1=>simp[h1]
  | 2=>simp[u]
  | 3=>simp[p]
  | i+4=>rw[dW (by simp;omega),dW V]
 rw[h];show ((((0#32 <<< 8 ||| g.setWidth 32) <<< 8 ||| j.setWidth 32) <<< 8 ||| m.setWidth 32) <<< 8 ||| o.setWidth 32)=_;rw[Aw,Aw,Aw,Aw];simp
theorem MD {l:ae} {v:U} {j:Nat} {g:List W} (h:aH 1 l v j (g.map eb)) (t:bq v=false) :∃ (cap sz:Nat) (cs:ag),v=.Z 1 j 0 g.length cap sz/\l[j]?=some (.q sz cs)/\∀ (i:Nat) (x:W),g[i]?=some x->cs[i]?=some (bg x):=by obtain⟨n,cap,sz,cs,h1,o,w,m,z,p,_⟩:=h.view t;rw[ce] at m;subst m;refine⟨cap,sz,cs,h1,o,fun i x u=>?_⟩;have:=p i (eb x) (by rw[b0,u];rfl) 0 F;simpa [eb] using this
theorem Zn (b:List B) (k:Nat) (hk:k<16) :(et b).take (k+1)=(et b).take k++[mn ((b.drop (4*k)).take 4)]:=by
 have:(et b)[k]?=some (mn ((b.drop (4*k)).take 4)):=by unfold et;rw[b0,hn hk];rfl
 rw[ei,this];rfl
theorem Zl (b:List B) :(et b).length=16:=by simp[et]
theorem QV (k:Nat) (b:List B) :(gV k (et b)).length=16+k:=by simp[r9,et]
theorem RI (h:dN) (b:List B) (cu:64<=b.length) :aU 231 [.af (h.l.map bg),cn (some b)] (.af ((grind h b).l.map bg)):=by
 have bk:dj=140737488355328:=rfl;have bN:(h.l.map bg).length=8:=rfl;apply a2 func231 [[],[],cT 0 13++[[14],[17],[18],[21],[23],[26],[27],[13,10,5],[15,10,5],[16],[19],[20],[22,10,5],[24,10,5],[25]],[],[[0],[1],[2],[4],[7]]++cT 11 8++cT 20 4++cT 25 4++[[3,28,23,1],[5,28,23,1],[6],[8,28,23,1],[9],[10],[19],[24]]];simp[bN];refine bB 16 (fun k m l=>m 1=cn (some b)/\m 2=.ptr 0 0 8/\m 4=.ptr 1 0 8/\m 6=.i6 k/\∃ v j o rest,m 5=v/\(bq v=true->k=0)/\(v=.ad\/2<=j)/\aH 1 l v j (((et b).take k).map eb)/\l=.q 8 (h.l.map bg) ::.q 8 o::rest/\o.length=8) ?_ ?_
 ·rintro k m l hk ⟨a5,u,C,a9,v,j,o,rest,K,J,V,D,rfl,ap⟩;obtain⟨m,rfl⟩:=gu a5 u C K a9;clear a5 u C K a9;by_cases bT:(k:Int)<16
  ·have G:k<16:=F;obtain⟨a,P⟩:=al (4*k);have cj:IntKind.i64.wrap (4*(k:Int))=(a:Nat):=by rw[wrap_i64 F F];omega
   obtain⟨nw,bG⟩:=al (a+1);obtain⟨BF,bH⟩:=al (a+2);obtain⟨a3,bI⟩:=al (a+3);have ck:IntKind.i64.wrap ((a:Int)+1)=nw:=by rw[wrap_i64 F F];omega
   have a4:IntKind.i64.wrap ((a:Int)+2)=BF:=by rw[wrap_i64 F F];omega
   have cp:IntKind.i64.wrap ((a:Int)+3)=a3:=by rw[wrap_i64 F F];omega
   have wk:IntKind.i64.wrap ((k:Int)+1)=k+1:=wrap_i64 F F;obtain⟨aF,bc⟩:∃ x,b[a]?=some x:=⟨_,bM F⟩
   obtain⟨aG,bd⟩:∃ x,b[nw]?=some x:=⟨_,bM F⟩
   obtain⟨X,bf⟩:∃ x,b[BF]?=some x:=⟨_,bM F⟩
   obtain⟨aJ,bh⟩:∃ x,b[a3]?=some x:=⟨_,bM F⟩
   have aA:∀ (i:Nat) (x:B),b[i]?=some x->bQ (.Z 1) (cn (some b)) (.i6 i)=some (.b6 (bW x) 0):=fun i x aE=>by rw[oM];simp[aE]
   have cf:=aA a aF bc;have cg:=aA nw aG bd;have sj:=aA BF X bf;have ch:=aA a3 aJ bh;have aY:=Zn b k G;rw[Zk b k aF aG X aJ (by rw[<-P];exact bc) (by rw[<-P,<-bG];exact bd) (by rw[<-P,<-bH];exact bf) (by rw[<-P,<-bI];exact bh)] at aY;obtain⟨w,S⟩:=al (((aF.setWidth 32*256#32+aG.setWidth 32)*256#32+X.setWidth 32)*256#32+aJ.setWidth 32);rw[<-S] at aY;have aT:aH 1 ([.q 8 (h.l.map bg),.q 8 o]++(rest++[aq.q 1 [bg w]])) v j (((et b).take k).map eb):=D.more [aq.q 1 [bg w]];have cw:(((et b).take k).map eb).length<=16:=by simp;omega
   obtain⟨aw,av,a0,h1,aK,aO,aQ⟩:=rW (by_:=4) aT V (x:=.Z 1 (rest.length+2) 0 1 1 1) (xs:=[eb w]) (by simp[cq,eb]) (by simp[eb]) F F (by rw[bk];simp;omega);have aM:aH 1 (.q 8 (h.l.map bg) ::.q 8 o::a0) aw av (((et b).take (k+1)).map eb):=by rw[aY,cV];exact aK
   simp only[iK,h2] at h1;have aD:bq aw=false:=by rw[aQ];simp
   simp[bT,cj,ck,a4,cp,cf,cg,sj,ch,bW];rw[<-S];simp[h1];refine bR.bm ?_;simp[wk,G];exact⟨aD,av,aO,by rw[<-i2];exact aM,ap⟩
  ·have G:k=16:=F;subst G;have bn:bq v=false:=by
    cases ca:bq v with
    | false=>rfl
    | true=>exact bV (J ca) F
   have bO:2<=j:=by
    rcases V with h | h
    ·subst h;cases bn
    ·exact h
   have b1:aH 1 (.q 8 (h.l.map bg) ::.q 8 o::rest) v j ((et b).map eb):=by
    have:(et b).take 16=et b:=aI (by rw[Zl];omega);rw[this] at D;exact D
   clear J V D;simp;refine bB 48 (fun k m l=>m 2=.ptr 0 0 8/\m 4=.ptr 1 0 8/\m 7=.i6 (16+k:Nat)/\∃ v j o rest,m 5=v/\bq v=false/\2<=j/\aH 1 l v j ((gV k (et b)).map eb)/\l=.q 8 (h.l.map bg) ::.q 8 o::rest/\o.length=8) ?_ ?_
   ·rintro k m l hk ⟨u,C,bb,v,j,o,rest,K,J,V,D,rfl,ap⟩;obtain⟨m,rfl⟩:=eO u C K bb;clear u C K bb;obtain⟨t,bl⟩:=al (16+k);rw[<-bl];by_cases aR:(t:Int)<64
    ·have cb:IntKind.i64.wrap ((t:Int)+1)=(t+1:Nat):=wrap_i64 F F;have bZ:=QV k b;obtain⟨wq,bC⟩:=al (t - 15);obtain⟨sj,bD⟩:=al (t - 2);obtain⟨wr,yK⟩:=al (t - 16);obtain⟨ws,bE⟩:=al (t - 7);have cl:IntKind.i64.wrap ((t:Int) - 15)=wq:=by rw[wrap_i64 F F];omega
     have a4:IntKind.i64.wrap ((t:Int) - 2)=sj:=by rw[wrap_i64 F F];omega
     have cm:IntKind.i64.wrap ((t:Int) - 16)=wr:=by rw[wrap_i64 F F];omega
     have cr:IntKind.i64.wrap ((t:Int) - 7)=ws:=by rw[wrap_i64 F F];omega
     obtain⟨p,cd⟩:=al (gV k (et b));have R:=Co k (et b);rw[<-cd] at bZ D R;have cc:p.length=t:=F;unfold ext at R
     dsimp only at R
     rw[cc,<-bC,<-bD,<-yK,<-bE] at R;have ax:∀ i,i<t->p[i]?=some (p.getD i 0#32):=fun i cv=>by rw[gw,bM F];rfl
     obtain⟨x,aE⟩:=al (p.getD wq 0#32);obtain⟨y,ao⟩:=al (p.getD sj 0#32);obtain⟨bs,bo⟩:=al (p.getD wr 0#32);obtain⟨bt,bp⟩:=al (p.getD ws 0#32);rw[<-aE,<-ao,<-bo,<-bp] at R;obtain⟨cap,W,cs,rfl,aB,T⟩:=MD D J;have bz:=T wq x (by rw[aE];exact ax wq F);have bA:=T sj y (by rw[ao];exact ax sj F);have Y:=T wr bs (by rw[bo];exact ax wr F);have ae:=T ws bt (by rw[bp];exact ax ws F);obtain⟨w,S⟩:=al (bs+bt+(kU x 7 ^^^ kU x 18 ^^^ x >>> 3)+(kU y 17 ^^^ kU y 19 ^^^ y >>> 10));rw[<-S] at R;have aT:aH 1 ([.q 8 (h.l.map bg),.q 8 o]++(rest++[aq.q 1 [bg w]])) _ j (p.map eb):=D.more [aq.q 1 [bg w]];obtain⟨aw,av,a0,h1,aK,aO,aQ⟩:=rW (by_:=4) aT (.inr V) (x:=.Z 1 (rest.length+2) 0 1 1 1) (xs:=[eb w]) (by simp[cq,eb]) (by simp[eb]) F F (by rw[bk];simp;omega);have aM:aH 1 (.q 8 (h.l.map bg) ::.q 8 o::a0) aw av ((gV (k+1) (et b)).map eb):=by rw[R,cV];exact aK
     simp only[iK,h2] at h1;have aD:bq aw=false:=by rw[aQ];rfl
     obtain⟨I,rfl⟩:∃ I,j=I+2:=⟨j - 2,F⟩
     have H:rest[I]?=some (.q W cs):=by simpa using aB
     have aj:(rest++[aq.q 1 [bg w]])[I]?=some (.q W cs):=by rw[aV (a1 H)];exact H
     have bv:wq<p.length:=F;have X:sj<p.length:=F;have bw:wr<p.length:=F;have bx:ws<p.length:=F;have t7:=pe x 7 F F;have t18:=pe x 18 F F;have t17:=pe y 17 F F;have t19:=pe y 19 F F;simp at t7 t18 t17 t19;simp[aR,cl,a4,cm,cr,bv,X,bw,bx,H,bz,bA,Y,ae];refine au t7 rfl ?_;simp[H,Y,ae];refine au t18 rfl ?_;simp[H,Y,ae];refine au t17 rfl ?_;simp[H,Y,ae];refine au t19 rfl ?_;simp[H,Y,ae];rw[<-S];simp[h1];refine bR.bm ?_;simp[cb];exact⟨F,F,aD,av,aO.resolve_left (by intro e;subst e;cases aD),aM,ap⟩
    ·have G:k=48:=F;subst G;subst bl;have b7:gV 48 (et b)=eA b:=rfl;rw[b7] at D;obtain⟨cap,W,cs,rfl,aB,T⟩:=MD D J;obtain⟨I,rfl⟩:∃ I,j=I+2:=⟨j - 2,F⟩
     have H:rest[I]?=some (.q W cs):=by simpa using aB
     have b8:=xq b;rw[b8];clear D J V aB;simp;refine au PS.AM rfl ?_;have Q:h.l.length=8:=rfl;simp[mj,Q];refine bB 64 (fun k m l=>m 2=.ptr 0 0 8/\m 4=.ptr 1 0 8/\m 5=.Z 1 (I+2) 0 64 cap W/\m 10=b4 1 eb (some b5)/\m 11=.ptr (rest.length+2) 0 8/\m 12=.i6 k/\l=.q 8 (h.l.map bg) ::.q 8 o::(rest++[.q 8 ((kf h b k).l.map bg)])) ?_ ?_
     ·rintro k m l hk ⟨u,C,K,a6,ah,a7,rfl⟩;obtain⟨m,rfl⟩:=n4 u C K a6 ah a7;clear u C K a6 ah a7;have bS:=a1 H;have aj:∀ x:aq,(rest++[x])[I]?=some (.q W cs):=fun x=>by rw[aV bS];exact H
      by_cases aR:(k:Int)<64
      ·have aS:k<64:=F;have aZ:IntKind.i64.wrap ((k:Int)+1)=(k+1:Nat):=wrap_i64 F F;have bj:b5[k]?=some (b5.getD k 0#32):=by rw[gw,bM (show k<b5.length from aS)];rfl
       have ak:=T k ((eA b).getD k 0#32) (by rw[gw,bM F];rfl);rw[Kq h b k aS];obtain⟨wk,S⟩:∃ wk,(eA b).getD k 0#32=wk:=⟨_,rfl⟩
       obtain⟨mQ,bY⟩:∃ mQ,b5.getD k 0#32=mQ:=⟨_,rfl⟩
       obtain⟨s,b2⟩:∃ s,kf h b k=s:=⟨_,rfl⟩
       rw[S] at ak ⊢;rw[bY] at bj ⊢;rw[b2];have ci:bQ (.Z 1) (b4 1 eb (some b5)) (.i6 k)=some (.b6 (eb mQ) 0):=by rw[oM];simp[bj]
       have t6:=pe s.e 6 F F;have t11:=pe s.e 11 F F;have t25:=pe s.e 25 F F;have t2:=pe s.a 2 F F;have t13:=pe s.a 13 F F;have t22:=pe s.a 22 F F;simp at t6 t11 t25 t2 t13 t22;have b3:s.l=[s.a,s.b,s.c,s.d,s.e,s.f,s.g,s.h]:=rfl;have cx:(round s mQ wk).l=[(round s mQ wk).a,(round s mQ wk).b,(round s mQ wk).c,(round s mQ wk).d,(round s mQ wk).e,(round s mQ wk).f,(round s mQ wk).g,(round s mQ wk).h]:=rfl;simp[aR,b3,ci,eb,aj,ak];refine au t6 rfl ?_;simp[aj,ak];refine au t11 rfl ?_;simp[aj,ak];refine au t25 rfl ?_;simp[aj,ak];refine au t2 rfl ?_;simp;refine au t13 rfl ?_;simp;refine au t22 rfl ?_;simp[mj,aS,aZ];rfl
      ·have G:k=64:=F;subst G;rw[Kp];obtain⟨v,J⟩:∃ v,rounds h b5 (eA b)=v:=⟨_,rfl⟩
       rw[J];have bK:grind h b=⟨h.a+v.a,h.b+v.b,h.c+v.c,h.d+v.d,h.e+v.e,h.f+v.f,h.g+v.g,h.h+v.h⟩:=by unfold grind;rw[J]
       have aC:h.l.length=v.l.length:=rfl;have Q:h.l.length=8:=rfl;have bJ:(grind h b).l=g5 h.l v.l 8:=by rw[bK];rfl
       rw[bJ];simp;refine bB 8 (fun k m l=>m 2=.ptr 0 0 8/\m 4=.ptr 1 0 8/\m 11=.ptr (rest.length+2) 0 8/\m 21=.i6 k/\l=.q 8 ((g5 h.l v.l k).map bg) ::.q 8 o::(rest++[.q 8 (v.l.map bg)])) ?_ ?_
       ·rintro k m l hk ⟨u,C,ah,a8,rfl⟩;obtain⟨m,rfl⟩:=eO u C ah a8;clear u C ah a8;by_cases bX:(k:Int)<8
        ·have ai:k<8:=F;have aZ:IntKind.i64.wrap ((k:Int)+1)=(k+1:Nat):=wrap_i64 F F;obtain⟨y,ao⟩:∃ y,v.l[k]?=some y:=⟨_,bM (show k<v.l.length from ai)⟩
         obtain⟨z,br⟩:∃ z,h.l[k]?=some z:=⟨_,bM (show k<h.l.length from ai)⟩
         have P:=F3 aC (k:=k) (by rw[Q];exact ai);rw[br] at P;have az:=BG aC k;have aW:=ml bg (g5 h.l v.l k) k (z+y) (by rw[az,Q];exact ai);rw[F4 aC br ao] at aW;have bi:(List.map bg (g5 h.l v.l k))[k]?=some (bg z):=by rw[b0,P];rfl
         have bU:k<=7:=F;obtain⟨A,O⟩:=al ((g5 h.l v.l k).map bg);have ay:A.length=8:=by rw[O,ce,az,Q]
         rw[<-O] at bi aW ⊢;obtain⟨ct,bL⟩:=aL.1 bi;simp[bX,ai,aZ,bL,ao,aW,ay,bU]
        ·have G:k=8:=F;subst G;have az:=BG aC 8;have b9:∀ A:ag,A.length=8->A.take 8=A:=fun A O=>aI F
         obtain⟨A,O⟩:=al ((g5 h.l v.l 8).map bg);have ay:A.length=8:=by rw[O,ce,az,Q]
         have bF:am A=true:=by rw[O];exact jy bg (fun _=>rfl) _
         rw[<-O];simp[mj,ap,ay,b9 A ay];exact aP rfl (by simp[U.ar,bF])
       ·simp[F5]
     ·simp[Kr];exact aI (by simp[Q])
   ·refine⟨rfl,rfl,rfl,v,j,o,rest,rfl,bn,bO,b1,rfl,ap⟩
 ·simp;exact⟨0,.nil 0⟩
end cl
end Go.bh

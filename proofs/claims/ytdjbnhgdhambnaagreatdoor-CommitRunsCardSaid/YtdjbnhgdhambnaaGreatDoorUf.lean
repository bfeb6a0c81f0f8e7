/-
  The canonical machine: slices.SortFunc on a row of one's own.
-/
import Derived.Test.YtdjbnhgdhambnaaGreatDoorUe
import Derived.Lib.AppendZerosOnto
import Derived.ProofKit
import Derived.Test.YtdjbnhgdhambnaaGreatDoorRows
set_option maxHeartbeats 16000000
set_option maxRecDepth 100000
set_option linter.unusedVariables false
set_option linter.unusedSimpArgs false
set_option linter.unnecessarySimpa false
namespace Go.bl
open Go Go.Proofs Go.Proofs.Tryz Go.Shelf Go.Sort Go.RowKit
def Bf (P:bq) (f g:cj) (k:Nat) {X:Type} [Inhabited X] (dK:X->List aD) (o:X->X->Int) :Prop:=
 ∀ (h j cap:Nat) (d:Array X) (w:aT),CmpLays P g #[] dK k o h j d.size w->HoldsK dK k w h j d->h<w.heap.size->d.size<4611686018427387904->
  Calls P f #[.slice (some ⟨h,j,none⟩) d.size cap,.func (.func g) #[] #[]] w fun e w'=>e=.returned (.tuple #[])/\∃ m n p,PermIn 0 d.size d m/\SortedIn (ltOf o) 0 d.size m/\w'=sortWorldK dK k w h j n m p
def sorted {X:Type} (g:X->X->Int) (xs:List X) :List X:=xs.mergeSort fun x y=>!ltOf g y x
theorem Lc {X:Type} (g:X->X->Int) (xs:List X) :(sorted g xs).length=xs.length:=List.length_mergeSort _
section
variable {P:bq} {G:Nat->U} {X:Type} {enc:X->ag} {k:Nat}
theorem xa (hk:∀ x,(enc x).length=k) (xs:List X) {j:Nat} (o:j<xs.length*k) :∃ x c,xs[j / k]?=some x/\(enc x)[j % k]?=some c/\((xs.map enc).flatten)[j]?=some c:=by
 have t:0<k:=Nat.pos_of_ne_zero fun h=>by subst h;simp at o
 have h1:j / k<xs.length:=Nat.div_lt_of_lt_mul (by rw[Ba];exact o);have g:j % k<k:=mq _ t;refine⟨xs[j / k],(enc xs[j / k])[j % k]'(by rw[hk];exact g),bK h1,bK _,?_⟩;have p:(xs.map enc)[j / k]?=some (enc xs[j / k]):=by rw[b1,bK h1];rfl
 have m:=ll (z:=k) (fun e q=>by obtain⟨x,_,rfl⟩:=cC.1 q;exact hk x) p g;rw[Ba,Nat.div_add_mod] at m;rw[m];exact bK _
theorem Hu [Inhabited X] (hk:∀ x,(enc x).length=k) (xs:List X) {j:Nat} (h:j<xs.length*k) {c:U} (g:((xs.map enc).flatten)[j]?=some c) :(flatK (fun x=>(enc x).map valOf) k xs.toArray)[j]! = valOf c:=by
 obtain⟨x,v,h1,m,o⟩:=xa hk xs h;rw[o] at g;cases g;rw[get_flatK _ _ _ _ (by simpa using h)];have p:xs.toArray[j / k]! = x:=by
  have u:=(aK.1 h1).1;rw[getElem!_pos _ _ (by simpa using u)];simpa using (aK.1 h1).2
 rw[p];obtain⟨q,t⟩:=aK.1 m;rw[getElem!_pos _ _ (by simpa using q)];simp[t]
theorem W9 [Inhabited X] {f g b off len cap sz:Nat} {cs:ag} {xs:List X} {h:aM} (z:X->X->Int) (a6:Bf P f g k (fun x=>(enc x).map valOf) z) (a7:SWO (ltOf z)) (bd:∀ x y,ltOf z x y=false->ltOf z y x=false->x=y)
  (hk:∀ x,(enc x).length=k) (ax:∀ x,∀ c∈enc x,um c=true) (bj:∀ x y,i9 P G g [.af (enc x),.af (enc y)] (.int .i64 (z x y)))
  (Q:h.f b=.cells sz cs) (C:xs.length=len) (h1:0<len) (a4:len<4611686018427387904) (bk:(cs.drop off).take (len*k)=(xs.map enc).flatten) (bT:off+len*k<=sz) :
  jR P G f [.Z k b off len cap sz,.fn g [] []] h (.a1 []) (h.set b (.cells sz (aw cs off ((sorted z xs).map enc).flatten))):=by
 intro ao B w muZ bI rel aC bs aS;obtain⟨bH⟩:=bI
 match bH,bs with
 | [bF,bG],_=>
 have bz:=aS 0 _ bF rfl rfl;have bA:=aS 1 _ bG rfl rfl;have bx:¬ qg h b sz:=by
  rintro (H | ⟨n,aY,H,bO⟩)
  ·rw[Q] at H;cases H
  ·rw[Q] at H;cases H;omega
 cases bA with
 | fn _ _ _ a3 aZ bo bh _ _=>
 have bq:a3=#[]:=AE bo;have bl:aZ=#[]:=AE bh;subst bq bl;cases bz with
 | fc _ _ _ _ _ _ _ _ _ _ br=>exact bW br bx
 | gu=>omega
 | Z _ _ _ _ _ _ aX aY o aE ai bU bV bP=>
 rw[Q] at aE;cases aE;have hblk:=rel.blk b o ai;rw[Q] at hblk;obtain⟨bR,bp,arr,e,bN,al,bb,aJ,U⟩:=hblk;have aR:live (h.f b)=true:=by rw[Q];rfl
 have bv:Own h muZ o.r:=⟨b,o,aR,ai,rfl⟩
 have bt:=rel.lt aR ai;have aQ:∀ m,m<len*k->∃ c,((xs.map enc).flatten)[m]?=some c/\cs[off+m]?=some c/\um c=true:=by
  intro m p;obtain⟨x,c,aq,J,K⟩:=xa hk xs (by rw[C];exact p);refine⟨c,K,?_,ax x c (cJ J)⟩;rw[<-bk,dS p,gy] at K;exact K
 have hH:HoldsK (fun x=>(enc x).map valOf) k w o.r (o.s+off) xs.toArray:=by
  intro m p;rw[size_flatK] at p;have aL:m<len*k:=by simpa [C] using p
  obtain⟨c,aq,J,K⟩:=aQ m aL;obtain⟨v,D,S,O⟩:=U (off+m) c J;have ah:o.s+off+m<arr.size:=by
   have:=(ij.1 D).1;omega
  constructor
  ·simp only[World.cell?,al,rA];rw[Hu hk xs (by rw[C];exact aL) aq,<-Yp K O,i5];exact D
  ·simp only[World.frozen?,al];rcases aJ with H | H
   ·subst H;simp
   ·simp;intro ar;omega
 have bi:CmpLays P g #[] (fun x=>(enc x).map valOf) k z o.r (o.s+off) xs.toArray.size w:=by
  intro n os a0 bS x y;obtain⟨W,aD⟩:∃ W,W=sortWorldK (fun x=>(enc x).map valOf) k w o.r (o.s+off) n a0 os:=⟨_,rfl⟩
  have bc:∀ i,i≠o.r->i<w.heap.size->W.heap[i]?=w.heap[i]?:=by
   intro i u ah;rw[aD];show (((w.heap.modify o.r _)++os))[i]?=_;rw[o4 (by simpa using ah),AG,aj (fun h=>u h.symm)]
  rw[<-aD];have a5:∀ i,(ao i/\¬ Own h muZ i)->i<w.heap.size->W.heap[i]?=w.heap[i]?:=fun i u ah=>bc i (fun bn=>u.2 (by rw[bn];exact bv)) ah
  have bC:=bj x y W (fun i=>ao i/\¬ Own h muZ i) #[.agg ((enc x).map valOf).toArray,.agg ((enc y).map valOf).toArray] (fun aB=>Yo a5 (nq (aC aB).2 (aC aB).1)) rfl (fun m c v p ad=>by
   have one:∀ am:X,dg W (fun i=>ao i/\¬ Own h muZ i) (.af (enc am)) (.agg ((enc am).map valOf).toArray):=fun am=>by
    refine .af _ _ V (fun i v u=>?_) (fun i c v u aK=>?_)
    ·simp only[u6,b1,Fs] at u;obtain⟨c,_,rfl⟩:=u;exact EO c
    ·simp only[u6,b1,Fs] at aK;obtain⟨bJ,ar,rfl⟩:=aK;rw[u] at ar;cases ar;exact Jz (ax am c (cJ u))
   match m with
   | 0=>simp at p ad;subst p ad;exact one x
   | 1=>simp at p ad;subst p ad;exact one y
   | m+2=>simp at p)
  refine bC.mono ?_;rintro e w' ⟨v,rfl,bg,bw⟩;obtain⟨q,bD,rfl⟩:=Oz bg;cases bw;exact⟨rfl,q,bD,rfl⟩
 have aF:=a6 o.r (o.s+off) aX xs.toArray w bi hH bt (by simpa [C] using a4);have bX:((xs.toArray.size:Nat) :Int)=(len:Int):=by simp[C]
 rw[show (xs.toArray.size)=len by simp[C]] at aF;refine aF.mono ?_;rintro bL w' ⟨rfl,ap,n,os,a8,a9,rfl⟩;have aH:ap.toList=sorted z xs:=by
  have:=sorted_unique_holds a7 bd xs.toArray ap (by simpa [C] using a8) (by simpa [C] using a9);simpa [sorted] using this
 obtain⟨t,aU⟩:∃ t,t=sorted z xs:=⟨_,rfl⟩
 rw[<-aU] at aH ⊢;have T:t.length=len:=by rw[aU,Lc,C]
 have bm:ap=t.toArray:=by rw[<-aH]
 subst bm;have aI:((t.map enc).flatten).length=len*k:=by
  have:∀ l:List X,((l.map enc).flatten).length=l.length*k:=fun l=>by
   induction l with
   | nil=>simp
   | cons a l bB=>simp only[di,hG,cF,bB,hk,dN];rw[ek];omega
  rw[this,T]
 obtain⟨R,I⟩:∃ R,R=putRowK (fun x=>(enc x).map valOf) k (Sort.ahead w n) o.r (o.s+off) t.toArray:=⟨_,rfl⟩
 have au:R.heap=w.heap.modify o.r (onCells (putCells id (o.s+off) (flatK (fun x=>(enc x).map valOf) k t.toArray))):=by rw[I];rfl
 have aG:off<=cs.length:=F;obtain⟨az,bE⟩:=rel.write (w':=R) (sz':=sz) (cs':=aw cs off ((t.map enc).flatten)) (arr':=putCells id (o.s+off) (flatK (fun x=>(enc x).map valOf) k t.toArray) arr) Q ai al bb aJ (by rw[I];rfl) (by rw[I];rfl) (by rw[I];rfl) (by rw[au];simp)
  (by rw[au,AG,ak rfl,al];rfl) (fun i u=>by rw[au,AG,aj (fun h=>u h.symm)]) (by simp[putCells])
  (by rw[oV aG,aI];omega) (aN _) bp (fun m c p=>by
   rw[Eh aG,aI] at p;have Y:(putCells id (o.s+off) (flatK (fun x=>(enc x).map valOf) k t.toArray) arr)[o.s+m]?=(arr[o.s+m]?).map fun x=>if o.s+off<=o.s+m/\o.s+m<o.s+off+(flatK (fun x=>(enc x).map valOf) k t.toArray).size then (flatK (fun x=>(enc x).map valOf) k t.toArray)[o.s+m - (o.s+off)]! else x:=by
    unfold putCells;rw[Array.getElem?_mapIdx];rfl
   rw[size_flatK] at Y;by_cases aO:m<off
   ·rw[ak aO] at p;obtain⟨v,D,S,O⟩:=U m c p;refine⟨v,?_,S,O⟩;rw[Y,D,cz,aj F]
   ·rw[aj aO] at p;by_cases aP:m<off+len*k
    ·rw[ak aP] at p;have av:m - off<len*k:=F;obtain⟨aW,aq,J,K⟩:=aQ (m - off) av;rw[show off+(m - off)=m by omega] at J;obtain⟨v,D,S,O⟩:=U m aW J;obtain⟨x,bK,bM,a2,ay⟩:=xa hk t (j:=m - off) (by rw[T];exact av);rw[ay] at p;cases p;refine⟨valOf c,?_,EO c,Jz (ax x c (cJ a2))⟩;rw[Y,D,cz,ak (by simp[T];omega),show o.s+m - (o.s+off)=m - off by omega,Hu hk t (by rw[T];exact av) ay]
    ·rw[aj aP] at p;obtain⟨v,D,S,O⟩:=U m c p;refine⟨v,?_,S,O⟩;rw[Y,D,cz,aj (by simp[T];omega)]) (by rw[I];exact Nat.le_add_right _ _)
 have bf:ew R (grow R os):=⟨⟨rfl,rfl,rfl,by simp[grow],fun i u=>by simp only[grow];rw[o4 u]⟩,aN _⟩
 obtain⟨aA,aV⟩:=pO bE bf;refine⟨_,muZ,rfl,?_,?_,.a1 [] #[] rfl (fun m c v p _=>by simp at p)⟩
 ·rw[I] at az aA;exact az.trans aA
 ·rw[I] at aV;exact aV
end
section
variable {P:bq} {G:Nat->U} {X:Type} {enc:X->ag} {k:Nat}
theorem KI {k:Nat}:∀ {es:List (ag)},(∀ e∈es,e.length=k)->es.flatten.length=es.length*k
 | [],_=>V
 | e::es,h=>by
  rw[hG,cF,h e V,KI (fun x g=>h x (by simp[g])),dN,ek];omega
theorem W8 [Inhabited X] {f g:Nat} (m:X->X->Int) (S:Bf P f g k (fun x=>(enc x).map valOf) m) (T:SWO (ltOf m)) (W:∀ x y,ltOf m x y=false->ltOf m y x=false->x=y)
  (hk:∀ x,(enc x).length=k) (ao:∀ x,∀ c∈enc x,um c=true) (ah:∀ x y,i9 P G g [.af (enc x),.af (enc y)] (.int .i64 (m x y)))
  {l:ad} {v:U} {j:Nat} {xs:List X} (q:gS k l v j (xs.map enc)) (R:xs.length<4611686018427387904) {K:U->ad->Prop}
  (Q:xs=[]->fS P G f [v,.fn g [] []] l (c:=⟨K⟩))
  (t:∀ l',l'.length=l.length->(∀ b,b≠j->l'[b]?=l[b]?)->gS k l' v j ((sorted m xs).map enc)->K (.a1 []) l') :fS P G f [v,.fn g [] []] l (c:=⟨K⟩):=by
 cases xs with
 | nil=>exact Q rfl
 | cons x xs=>
 obtain⟨o,J⟩:∃ o,o=x::xs:=⟨_,rfl⟩
 rw[<-J] at q R t;have C:0<o.length:=by rw[J];simp
 generalize p:o.map enc=O at q;cases q with
 | nil j=>rw[m7] at p;rw[p] at C;simp at C
 | Z j off n cap ap cs O u aq am au w ag ai=>
 subst p;have B:o.length=n:=by simpa using am
 have ar:n*k<=cap*k:=ck _ w;have z:j<l.length:=(aK.1 u).1;have H:=W9 (P:=P) (G:=G) (cap:=cap) m S T W hk ao ah (h:=aZ l) (hK.2 u) B F F ai F;rw[mu _ z] at H;refine⟨_,_,.ext H,V,?_⟩;have I:((sorted m o).map enc).length=n:=by rw[cg,Lc,B]
 have D:∀ e∈(sorted m o).map enc,e.length=k:=fun e ak=>by obtain⟨x,_,rfl⟩:=cC.1 ak;exact hk x
 have al:(((sorted m o).map enc).flatten).length=n*k:=by rw[KI D,I]
 have aj:off<=cs.length:=F;refine t _ V (fun b Y=>by rw[bg (fun h=>Y h.symm)]) ?_;refine .Z j off n cap ap _ _ (bV z) (by rw[oV aj,al];omega) I D w ag ?_;unfold aw;have h1:(List.take off cs).length=off:=by rw[cL];omega
 rw[hl,nY F,p8 F,h0,ik F,aH F]
end
end Go.bl
namespace Go.bl
open Go
section
variable {P:bq} {l:ad} {cm:aY->U}
@[simp ↓] theorem abT (g:aF) (zero:U) (h:Bool) (m k:aY) :bT P cm l (.wv g zero h m k)=dt l (ww P l g zero h (cm m) (cm k)):=id rfl
@[simp ↓] theorem abX (g:aF) (m k x:aY) :bT P cm l (.ub g m k x)=(sd P l g (cm m) (cm k) (cm x)).map fun l'=>(fC,l'):=id rfl
@[simp ↓] theorem ab2 (x:aY) :bT P cm l (.ux x)=w3 l (cm x):=id rfl
@[simp ↓] theorem ab0 (x:aY) :bT P cm l (.ud x)=cP l (cm x):=id rfl
@[simp ↓] theorem abg (x:Option aY) (v:U) (K:U->ad->Prop) :ep (.tZ x) v l K=K v l:=id rfl
@[simp ↓] theorem abd (g:aF) (zero:U) (h:Bool) (m k:aY) (v:U) (K:U->ad->Prop) :ep (.wv g zero h m k) v l K=K v l:=id rfl
@[simp ↓] theorem abi (g:aF) (m k x:aY) (v:U) (K:U->ad->Prop) :ep (.ub g m k x) v l K=K v l:=id rfl
@[simp ↓] theorem abn (x:aY) (v:U) (K:U->ad->Prop) :ep (.ux x) v l K=K v l:=id rfl
@[simp ↓] theorem abl (x:aY) (v:U) (K:U->ad->Prop) :ep (.ud x) v l K=K v l:=id rfl
end
section
variable {z:Nat} {l l' : ad} {v:U} {j:Nat} {es:List (ag)}
theorem hN (h:aE z l v j es) {by_:Nat} {x:U} {xs:List (ag)} (J:cr l z x=some (xs.flatten,xs.length)) (K:∀ e∈xs,e.length=z) (G:z≠0) (H:by_≠0) (I:(es.length+xs.length)*by_<=dk) :
  ∃ m o l',ea l z by_ v x=some (m,l')/\aE z l' m o (es++xs)/\l.length<=l'.length/\(∀ b,b<l.length->v=.ae\/b≠j->l'[b]?=l[b]?)/\(l.length<=o\/(v≠.ae/\o=j)\/m=.ae)/\bo m=(bo v&&xs.isEmpty):=by
 by_cases C:v=.ae
 ·subst C;have O:es=[]:=h.q.oN;subst O;obtain⟨m,o,D,h1,p,t,u,g,w⟩:=lR (.nil (z:=z) (l:=l) (l.length+1)) J K G H I;refine⟨m,o,D,h1,p,t,fun b B _=>u b B F,?_,qG w⟩;rcases g with g | g
  ·exact .inl F
  ·exact .inl g
 ·obtain⟨m,o,D,h1,p,t,u,g,w⟩:=lR h J K G H I;refine⟨m,o,D,h1,p,t,fun b B P=>u b B (P.resolve_left C),?_,qG w⟩;rcases g with g | g
  ·exact .inr (.inl ⟨C,g⟩)
  ·exact .inl g
theorem bP.oz {K:U->ad->Prop} (h:aE z l v j es) (J:bo v=false) (w:K (.bu z es) (l.set j .dead)) :bP v l (c:=⟨K⟩):=by
 cases h with
 | nil j=>cases J
 | Z j n cap t cs es g R I o C P D=>
 have H:=aX g;have q:(aZ (l.set j .dead)).f j=.dead:=by rw[jT,n0,ak rfl,ak H]
 have S:n*z<=cap*z:=ck _ C;refine .inr ⟨_,_,⟨V,fun u=>?_⟩,.Z z j 0 n cap t cs es (hK.2 g) q I o F (fun i k e c O m hk p=>?_),w⟩
 ·by_cases B:u=j
  ·subst B;exact .inr ⟨t,cs,hK.2 g,.inl q⟩
  ·left;rw[jT,jT,n0,aj F]
 ·have G:k<z:=by rw[<-o e (cJ m)];exact (aK.1 hk).1
  have Q:=(aK.1 m).1;have T:i*z+z<=n*z:=by rw[<-ek];exact ck _ F
  have h1:=ll o m G;rw[<-D,dS F,hk] at h1;rw[hJ,h1] at p;cases p;exact .same _
end
inductive ks where
 | b
 | i (k:cV)
 | s
def xn:ks->U->Bool
 | .b,.bool _=>true
 | .i k,.int g _=>decide (k=g)
 | .s,.str _=>true
 | _,_=>false
def gQ:List ks->ag->Bool
 | [],[]=>true
 | k::b5,c::cs=>xn k c&&gQ b5 cs
 | _,_=>false
theorem wN:∀ {b5:List ks} {cs:ag},gQ b5 cs=true->cs.length=b5.length
 | [],[],_=>rfl
 | [],_::_,h=>by cases h
 | _::_,[],h=>by cases h
 | k::b5,c::cs,h=>by simp only[gQ,bU] at h;simp[wN h.2]
theorem wO:∀ {l r:List ks} {m:ag},gQ (l++r) m=true->∃ g j,m=g++j/\gQ l g=true/\gQ r j=true
 | [],r,m,h=>⟨[],m,rfl,rfl,h⟩
 | k::l,r,[],h=>by cases h
 | k::l,r,c::m,h=>by
  simp only[iK,gQ,bU] at h;obtain⟨g,j,rfl,h1,o⟩:=wO h.2;exact⟨c::g,j,rfl,by simp[gQ,h.1,h1],o⟩
theorem Jb {k:cV} {xs:ag} (h:gQ [.i k] xs=true) :∃ p,xs=[.int k p]:=by
 cases xs with
 | nil=>cases h
 | cons c r=>
  simp only[gQ,bU] at h;cases r with
  | cons _ _=>cases h.2
  | nil=>
   cases c<;>simp only[xn] at h<;>try (cases h.1;done)
   rename_i k' p;have hk:k=k':=by simpa using h.1
   subst hk;exact⟨p,rfl⟩
theorem Bs:∀ {g j m o:ag},g.length=j.length->dz (g++m) (j++o)=(dz g j&&dz m o)
 | [],[],_,_,_=>by simp[dz]
 | [],_::_,_,_,h=>by simp at h
 | _::_,[],_,_,h=>by simp at h
 | a::g,b::j,m,o,h=>by
  simp only[dN,Nat.add_right_cancel_iff] at h;simp only[iK,dz,Bs h,E0]
section
variable (P:bq)
def yY (f:aF->Option (List ks)) :List Field->Nat->Option (List ks)
 | [],_=>some []
 | fd::j,g=>match f fd.type,b9 P fd.type with
  | some l,some h=>match fd.name != "_"&&Nat.beq fd.offset g&&Nat.beq l.length h with
   | true=>match yY f j (g+h) with
    | some r=>some (l++r)
    | none=>none
   | false=>none
  | _,_=>none
def mK:Nat->aF->Option (List ks)
 | 0,_=>none
 | d+1,g=>match P.underlying g with
  | some .bool=>some [.b]
  | some (.int k)=>some [.i k]
  | some .string=>some [.s]
  | some (.array n e)=>match mK d e,b9 P e with
   | some l,some j=>match Nat.beq l.length j with
    | true=>some (List.replicate n l).flatten
    | false=>none
   | _,_=>none
  | some (.struct h)=>match P.stoodInHeld g with
   | false=>yY P (mK d) h.toList 0
   | true=>none
  | _=>none
def jc (t:aF) (l:ag) :Option U:=match dE P t with
 | some true=>some (.af l)
 | some false=>l[0]?
 | none=>none
end
variable {P:bq}
theorem zx {t:aF} {z:Nat} (m:b9 P t=some z) {pre mid post:ag} (o:mid.length=z) (j:dE P t=some false->mid.length=1) :go P t (pre++(mid++post)) pre.length=jc P t mid:=by
 unfold go jc;rw[m];cases h:dE P t with
 | none=>rfl
 | some g=>
  cases g with
  | true=>
   simp only;rw[ak (by simp;omega),E5,ik F,aH F]
  | false=>
   have:=j h;simp only;rw[eu F,s9,aU F]
def EqAt (P:bq) (f:aF->Option (List ks)) (eq:aF->U->U->Option Bool) :Prop:=
 ∀ g b5,f g=some b5->(dE P g=some false->b5.length=1)/\∀ h j,gQ b5 h=true->gQ b5 j=true->∃ a b,jc P g h=some a/\jc P g j=some b/\eq g a b=some (dz h j)
theorem Hf {f:aF->Option (List ks)} {eq:aF->U->U->Option Bool} (G:EqAt P f eq) :∀ (fs:List Field) (o:Nat) (b5:List ks),yY P f fs o=some b5->∀ (m p g j:ag),m.length=o->p.length=o->gQ b5 g=true->gQ b5 j=true->
  dL.eqFields P eq (m++g) (p++j) fs=some (dz g j)
 | [],o,b5,h,m,p,g,j,H,I,v,w=>by
  cases h;cases g with
  | nil=>cases j with | nil=>rfl | cons _ _=>cases w
  | cons _ _=>cases v
 | fd::fs,o,b5,h,m,p,g,j,H,I,v,w=>by
  unfold yY at h;split at h
  ·rename_i l z Y J;split at h
   ·rename_i q;simp only[bU,bne_iff_ne,ne_eq] at q;split at h
    ·rename_i r ah;cases h;obtain⟨t,O,rfl,B,R⟩:=wO v;obtain⟨u,Q,rfl,C,S⟩:=wO w;have ad:fd.offset=o:=mo q.1.2;have al:l.length=z:=mo q.2;obtain⟨D,X⟩:=G _ _ Y;obtain⟨a,b,T,W,V⟩:=X t u B C;have ai:=wN B;have ak:=wN C;unfold dL.eqFields;rw[aj q.1.1,ad];rw[show go P fd.type (m++(t++O)) o=some a by rw[<-H,zx J F (fun h=>by rw[ai];exact D h)];exact T];rw[show go P fd.type (p++(u++Q)) o=some b by rw[<-I,zx J F (fun h=>by rw[ak];exact D h)];exact W];simp only[V];rw[Bs F];have K:=Hf G fs (o+z) r ah (m++t) (p++u) O Q (by simp;omega) (by simp;omega) R S;rw[hl,hl] at K;cases dz t u with
     | true=>simpa using K
     | false=>simp
    ·cases h
   ·cases h
  ·cases h
theorem He {eq:aF->U->U->Option Bool} {e:aF} {l:List ks} {z:Nat} (w:b9 P e=some z) (W:l.length=z) (v:dE P e=some false->l.length=1)
  (G:∀ xs B,gQ l xs=true->gQ l B=true->∃ a b,jc P e xs=some a/\jc P e B=some b/\eq e a b=some (dz xs B)) :∀ (n i:Nat) (m o g j:ag),m.length=i*z->o.length=i*z->gQ (List.replicate n l).flatten g=true->gQ (List.replicate n l).flatten j=true->
  dL.oy P eq e z (m++g) (o++j) n i=some (dz g j)
 | 0,i,m,o,g,j,H,I,p,q=>by
  simp only[List.replicate_zero,List.flatten_nil] at p q;cases g with
  | nil=>cases j with | nil=>rfl | cons _ _=>cases q
  | cons _ _=>cases p
 | n+1,i,m,o,g,j,H,I,p,q=>by
  rw[k4,hG] at p q;obtain⟨t,K,rfl,C,Q⟩:=wO p;obtain⟨u,O,rfl,D,R⟩:=wO q;obtain⟨a,b,S,V,T⟩:=G t u C D;have X:=wN C;have Y:=wN D;unfold dL.oy;rw[show go P e (m++(t++K)) (i*z)=some a by rw[<-H,zx w F (fun h=>by rw[X];exact v h)];exact S];rw[show go P e (o++(u++O)) (i*z)=some b by rw[<-I,zx w F (fun h=>by rw[Y];exact v h)];exact V];simp only[T];rw[Bs F];have J:=He w W v G n (i+1) (m++t) (o++u) K O (by simp[ek];omega) (by simp[ek];omega) Q R;rw[hl,hl] at J;cases dz t u with
  | true=>simpa using J
  | false=>simp
theorem BZ:∀ (d D:Nat),d<=D->EqAt P (mK P d) (dL P D)
 | 0,D,_,v,b5,h=>by cases h
 | d+1,0,H,v,b5,h=>F
 | d+1,D+1,H,v,b5,h=>by
  have z:=BZ d D F;unfold mK at h;split at h
  ·rename_i j;have g:dE P v=some false:=by unfold dE;rw[j];rfl
   cases h;refine⟨fun _=>rfl,fun m o p t=>?_⟩
   match m,o,p,t with
   | [.bool u],[.bool q],_,_=>
    refine⟨.bool u,.bool q,by simp[jc,g],by simp[jc,g],?_⟩;unfold dL;rw[j];cases u<;>cases q<;>rfl
  ·rename_i k j;have g:dE P v=some false:=by unfold dE;rw[j];rfl
   cases h;refine⟨fun _=>rfl,fun m o p t=>?_⟩;obtain⟨u,rfl⟩:=Jb p;obtain⟨q,rfl⟩:=Jb t
   ·refine⟨.int k u,.int k q,by simp[jc,g],by simp[jc,g],?_⟩;unfold dL;rw[j];by_cases h:u=q<;>simp[dz,U.beq,h]
  ·rename_i j;have g:dE P v=some false:=by unfold dE;rw[j];rfl
   cases h;refine⟨fun _=>rfl,fun m o p t=>?_⟩
   match m,o,p,t with
   | [.str u],[.str q],_,_=>
    refine⟨.str u,.str q,by simp[jc,g],by simp[jc,g],?_⟩;unfold dL;rw[j];by_cases h:u=q<;>simp[dz,U.beq,h]
  ·rename_i n e j;have g:dE P v=some true:=by unfold dE;rw[j];rfl
   split at h
   ·rename_i l O I w;split at h
    ·rename_i J;cases h;obtain⟨C,G⟩:=z _ _ I;refine⟨fun h=>(by rw[g] at h;cases h),fun m o p t=>⟨.af m,.af o,by simp[jc,g],by simp[jc,g],?_⟩⟩;unfold dL;rw[j];simp only[w];exact He w (mo J) C G n 0 [] [] m o V V p t
    ·cases h
   ·cases h
  ·rename_i B j;have g:dE P v=some true:=by unfold dE;rw[j];rfl
   split at h
   ·rename_i K;refine⟨fun h=>(by rw[g] at h;cases h),fun m o p t=>⟨.af m,.af o,by simp[jc,g],by simp[jc,g],?_⟩⟩;unfold dL;rw[j];simp only[K,kj,if_false];exact Hf z B.toList 0 b5 h [] [] m o rfl rfl p t
   ·cases h
  ·cases h
theorem vA {t:aF} {b5:List ks} (hk:mK P 20 t=some b5) (o:dE P t=some true) (p:P.eqGuardType P.depth t=false) {xs g:ag} (q:gQ b5 xs=true) (u:gQ b5 g=true) :eb P .eql t (.af xs) (.af g)=some (.bool (dz xs g)):=by obtain⟨a,b,h,j,m⟩:=(BZ (P:=P) 20 10000 F t b5 hk).2 xs g q u;simp only[jc,o,bc] at h j;subst h;subst j;exact Ot p m
theorem Bt {t:aF} {b5:List ks} (hk:mK P 20 t=some b5) (o:dE P t=some true) (p:P.eqGuardType P.depth t=false) {xs g:ag} (q:gQ b5 xs=true) (u:gQ b5 g=true) :eb P .neq t (.af xs) (.af g)=some (.bool (!dz xs g)):=by obtain⟨a,b,h,j,m⟩:=(BZ (P:=P) 20 10000 F t b5 hk).2 xs g q u;simp only[jc,o,bc] at h j;subst h;subst j;exact Ou p m
end Go.bl
namespace Go.bl
open Go Go.Proofs Go.Proofs.Tryz Go.Shelf
structure qi (P:bq) (f:cj) (T m e z:Nat) :Prop where
 sO:P.underlying T=some (.slice e)
 X6:P.underlying m=some (.int .i64)
 fin:∀ (base:Option Addr) (n c j g h:Nat) (r:aD) (w w' : aT),n<=c->n<=4611686018427387904->(base=none->n=0/\c=0)->
  (Builtin.append_ #[T,T] T #[.slice base n c,.slice (some ⟨g,h,none⟩) 1 j]).run P w=.ok r w'->
  Calls P f #[.slice base n c,.int .i64 n,.slice (some ⟨g,h,none⟩) 1 j] w fun x w2=>x=.returned r/\w2=w'
 shift:∀ (b off n c i g h j:Nat) (q t:aD) (w o p:aT) (B ef:aF) (mH v:Nat),i<n->n+1<=c->n<=4611686018427387904->g≠b->
  w.shape? g=some (B,mH)->w.shape? b=some (ef,v)->v≠0->w.frozen? ⟨g,h,none⟩=false->w.frozen? ⟨g,mH,none⟩=false->
  (Builtin.copy_ #[T,T] m #[.slice (some ⟨b,off+(i+1)*z,none⟩) (n - i) (c - (i+1)),.slice (some ⟨b,off+i*z,none⟩) (n+1 - i) (c - i)]).run P w.drew=.ok q o->
  (Builtin.copy_ #[T,T] m #[.slice (some ⟨b,off+i*z,none⟩) (n+1 - i) (c - i),.slice (some ⟨g,h,none⟩) 1 j]).run P o=.ok t p->
  Calls P f #[.slice (some ⟨b,off,none⟩) n c,.int .i64 i,.slice (some ⟨g,h,none⟩) 1 j] w fun x w2=>x=.returned (.slice (some ⟨b,off,none⟩) (n+1) c)/\w2=p
 grow:∀ (b off n c i g h j N G:Nat) (q t:aD) (w u o p:aT),i<n->n<=c->c<n+1->n+1<=G->n<=4611686018427387904->
  (Builtin.append_ #[T,m] T #[.slice (some ⟨b,off,none⟩) i c,.int .i64 ((n:Int)+1 - (i:Int))]).run P w=.ok (.slice (some ⟨N,0,none⟩) (n+1) G) u->
  (Builtin.copy_ #[T,T] m #[.slice (some ⟨N,i*z,none⟩) (n+1 - i) (G - i),.slice (some ⟨g,h,none⟩) 1 j]).run P u=.ok q o->
  (Builtin.copy_ #[T,T] m #[.slice (some ⟨N,(i+1)*z,none⟩) (n - i) (G - (i+1)),.slice (some ⟨b,off+i*z,none⟩) (n - i) (c - i)]).run P o.drew=.ok t p->
  Calls P f #[.slice (some ⟨b,off,none⟩) n c,.int .i64 i,.slice (some ⟨g,h,none⟩) 1 j] w fun x w2=>x=.returned (.slice (some ⟨N,0,none⟩) (n+1) G)/\w2=p
section
variable {P:bq} {G:Nat->U} {R:Nat->Prop} {B:Nat} {w:aT} {h:aM} {muZ:b3}
theorem y1 (rel:bC R B w h muZ) {b sz o n:Nat} {cs:ag} {m:M} (v:h.f b=.cells sz cs) (H:muZ b=some m) (U:o+n<=sz) :
  ∃ vs:List aD,pe w R h muZ ((cs.drop o).take n) vs/\(loadCells ⟨m.r,m.s+o,none⟩ n).run P w=.ok vs.toArray w:=by
 have j:=rel.blk b m H;rw[v] at j;obtain⟨Q,S,arr,e,K,I,O,T,z⟩:=j;have D:((cs.drop o).take n).length=n:=by rw[cL,i2];omega
 obtain⟨vs,p,C⟩:=D3 (P:=P) (w:=w) (R:=R) (h:=h) (muZ:=muZ) (w2:=w) (xs:=(cs.drop o).take n) (blk:=m.r) (o:=m.s+o) (fun _=>rfl) (fun q c g=>by
  have G:q<n:=by have:=(aK.1 g).1;omega
  rw[dS G,gy] at g;obtain⟨J,h1,t,u⟩:=z (o+q) c g;refine⟨J,?_,t,u⟩;simp only[World.cell?,I,rA];rw[i5];exact h1)
 refine⟨vs,p,?_⟩;have:=C n F w (fun _=>rfl)
 rwa [aH (by rw[p.1,D];exact aN _)] at this
theorem yp (rel:bC R B w h muZ) {t u ty e z:Nat} (G:P.underlying t=some (.slice e)) (H:b9 P e=some z) {b sz k:Nat} {cs:ag} {m:M} (q:h.f b=.cells sz cs) (F:muZ b=some m) (hk:k<=sz)
  {dLen dc sLen sc cnt:Nat} {a:Addr} {xs:ag} {vs:List aD} (v:Nat.min sLen dLen=cnt) (p:xs.length=cnt*z) (D:(loadCells a (cnt*z)).run P w=.ok vs.toArray w)
  (o:pe w R h muZ xs vs) (C:m.s+max sz (k+cnt*z)<=m.T) :
  ∃ w',(Builtin.copy_ #[t,u] ty #[.slice (some ⟨m.r,m.s+k,none⟩) dLen dc,.slice (some a) sLen sc]).run P w=.ok (goInt cnt) w' ∧
   cY w h muZ w' (h.set b (.cells (max sz (k+cnt*z)) (aw cs k xs))) muZ/\bC R B w' (h.set b (.cells (max sz (k+cnt*z)) (aw cs k xs))) muZ:=by obtain⟨w',h1,g,j⟩:=sS (P:=P) rel (cvs:=xs) (vs:=vs) (k:=k) q F hk o.1 (by rw[p];exact C) o.2;rw[p] at g j;refine⟨w',?_,g,j⟩;simp[Builtin.copy_,cc G,Builtin.lenOf,Builtin.firstCells,eB H,v,D,h1]
theorem Kx {j:aT} {h1:aM} {u:b3} (U:bC R B j h1 u) (H:cY w h muZ j h1 u) {b z n nc ns:Nat} {row:ag} {v:aD} (D:h1.f=bt h.f b (.cells ns row)) (t:h1.n=h.n) (al:ns=nc*z) (Y:0<n) (ah:b<h.n)
  (S:aA j R h1 u (.Z z b 0 n nc ns) v) :
  ∃ muZ',cY w h muZ j ((h.set b .dead).push (.cells ns row)) muZ'/\bC R B j ((h.set b .dead).push (.cells ns row)) muZ'/\aA j R ((h.set b .dead).push (.cells ns row)) muZ' (.Z z h.n 0 n nc ns) v:=by
 have q:h1.f b=.cells ns row:=by rw[D,fJ]
 cases S with
 | fc _ _ _ _ _ _ _ _ _ _ g=>
  exfalso;rcases g with g | ⟨am,W,g,ai⟩
  ·rw[q] at g;cases g
  ·rw[q] at g;cases g;omega
 | gu=>omega
 | Z _ _ _ _ _ _ G X p ad P O Q C=>
  have F:=U.Kw (b:=b) (off:=0) (m:=p) (h':=(h.set b .dead).push (.cells ns row)) q P (fR _) (by
   rw[dX,dn,hW,D,t];funext x;simp only[bt,vd,lG];by_cases o:x=h.n
   ·rw[ak o,ak o]
   ·rw[aj o,aj o];split<;>rfl) (by rw[jl,hW,t])
  refine⟨_,H.trans F.1,F.2,?_⟩;rw[t];exact .Z z h.n 0 n nc ns G row ⟨p.r,p.s+0,p.T⟩ (by rw[dX,hW,fJ]) V O Q (by
   rcases C with C | ⟨I,J,K⟩
   ·omega
   ·exact .inr ⟨I,J,by simpa using K⟩)
theorem F6 (w:aT) :RowKit.Below w.heap.size w w.drew:=⟨rfl,rfl,rfl,aN _,fun _ _=>rfl⟩
theorem RS {z i len:Nat} {cs vs:ag} (o:vs.length=z) (m:i<len) (u:len*z<=cs.length) :
  aw (aw cs ((i+1)*z) ((cs.drop (i*z)).take ((len - i)*z))) (i*z) vs=ip z cs vs i len:=by
 have h1:(i+1)*z=i*z+z:=by rw[ek]
 have p:(i+1)*z<=len*z:=ck _ m;have q:i*z+(len - i)*z=len*z:=by rw[<-eP];congr 1;omega
 have t:(len+1)*z=len*z+z:=by rw[ek]
 have j:((cs.drop (i*z)).take ((len - i)*z)).length=(len - i)*z:=by rw[cL,i2];omega
 have g:(cs.take ((i+1)*z)).length=i*z+z:=by rw[cL];omega
 unfold ip aw;rw[j,o];have h:(i+1)*z+(len - i)*z=(len+1)*z:=F;rw[h,hl (cs.take ((i+1)*z)),ik (by rw[g];omega),lK,show min (i*z) ((i+1)*z)=i*z by omega];rw[show i*z+z=(cs.take ((i+1)*z)).length by rw[g],E5];simp only[hl]
theorem RO {z i len:Nat} {cs vs:ag} (h:vs.length=z) (q:i<len) (w:len*z=cs.length) :
  aw (aw (cs.take (i*z)) (i*z) vs) ((i+1)*z) ((cs.drop (i*z)).take ((len - i)*z))=ip z cs vs i len:=by
 have h1:(i+1)*z=i*z+z:=by rw[ek]
 have t:(i+1)*z<=len*z:=ck _ q;have u:i*z+(len - i)*z=len*z:=by rw[<-eP];congr 1;omega
 have v:(len+1)*z=len*z+z:=by rw[ek]
 have g:(cs.take (i*z)).length=i*z:=by rw[cL];omega
 have j:aw (cs.take (i*z)) (i*z) vs=cs.take (i*z)++vs:=by
  unfold aw;rw[k3 (by rw[g];omega),eK,aH (by rw[g];exact aN _)]
 rw[j];unfold ip aw;have m:(cs.take (i*z)++vs).take ((i+1)*z)=cs.take (i*z)++vs:=aH (by rw[cF,g,h];omega);have o:∀ k,(cs.take (i*z)++vs).drop ((i+1)*z+k)=[]:=fun k=>k3 (by rw[cF,g,h];omega)
 have p:cs.drop ((len+1)*z)=[]:=k3 F;rw[m,o,p]
theorem SO (a b z:Nat) :max a b*z=max (a*z) (b*z):=by
 rcases Nat.le_total a b with h | h
 ·rw[A8 h,A8 (ck _ h)]
 ·rw[A7 h,A7 (ck _ h)]
theorem RI {j e z by_:Nat} (p:gj P j=some e) (D:b9 P e=some z) (u:gM P e=some by_) (O:0<z) (H:0<by_) (G:mm P e=some z)
  {b bv len cap:Nat} {cs vs:ag} (q:h.f b=.cells (cap*z) cs) (I:cs.length=cap*z) (t:h.f bv=.cells z vs) (C:vs.length=z) (v:len<=cap) (w:(len+1)*by_<=dk) :
  oh P h j (.Z z b 0 len cap (cap*z)) (.Z z bv 0 1 1 z)=some (.Z z b 0 (len+1) (max cap (len+1)) (max cap (len+1)*z),h.set b (.cells (max cap (len+1)*z) (ip z cs vs len len))):=by
 have o:(len+1)*z=len*z+z:=by rw[ek]
 have J:len*z<=cap*z:=ck _ v;have m:ip z cs vs len len=cs.take (len*z)++vs++cs.drop ((len+1)*z):=by simp[ip]
 have B:(vs.drop 0).take (1*z)=vs:=by rw[lG,vc,aH F]
 unfold oh;rw[p];simp only[D,u,contents,t,and_self,if_true,B];unfold qo;rw[aj F,aj (by rw[G];simp;omega)];simp only[q,true_and,w,if_true];by_cases g:len+1<=cap
 ·have K:(len+1)*z<=cap*z:=ck _ g;rw[ak g,A7 g,m];simp only[aw,hJ,C,<-o]
 ·obtain rfl:len=cap:=F;rw[aj g,aj F,A8 F,m,k3 F,eK]
theorem Ia {f T I e z by_:Nat} (L:qi P f T I e z) (bJ:gj P T=some e) (H:b9 P e=some z) (aL:gM P e=some by_) (b6:0<z) (bf:0<by_) (bw:mm P e=some z)
  {b bv len cap i:Nat} {cs vs:ag} (p:h.f b=.cells (cap*z) cs) (D:h.f bv=.cells z vs) (bo:bv≠b) (cO:i<=len) (bm:len<=cap) (aR:(len+1)*by_<=dk) :
  jR P G f [.Z z b 0 len cap (cap*z),.int .i64 i,.Z z bv 0 1 1 z] h (.Z z h.n 0 (len+1) (max cap (len+1)) (max cap (len+1)*z)) ((h.set b .dead).push (.cells (max cap (len+1)*z) (ip z cs vs i len))):=by
 intro R B w muZ cn rel cv bl aW;obtain⟨cp⟩:=cn
 match cp,bl with
 | [bC,cl,cm],_=>
 have aX:=aW 0 _ bC rfl rfl;have aC:=aW 1 _ cl rfl rfl;have bs:=aW 2 _ cm rfl rfl;have cf:=bs;cases aC;have aI:len<=4611686018427387904:=by
  have:=Nat.le_mul_of_pos_right (len+1) bf;unfold dk at aR;omega
 have b4:uc P T:=⟨_,L.sO,fun k hk=>by cases hk⟩
 have cT:=SO cap (len+1) z;have cz:(len+1)*z=len*z+z:=by rw[ek]
 have cQ:len*z<=cap*z:=ck _ bm;cases bs with
 | fc _ _ _ _ _ _ _ _ _ _ j=>
  exfalso;rcases j with j | ⟨bA,a4,j,ay⟩
  ·rw[D] at j;cases j
  ·rw[D] at j;cases j;omega
 | Z _ _ _ _ _ _ al cV dW cE ad cS cU cJ=>
 have bc:=rel.blk bv dW ad;rw[D] at bc;obtain⟨aY,cM,a3,dA,cu,aS,cC,bj,cI⟩:=bc;by_cases bX:i=len
 ·subst bX;have b0:∃ a g,bC=.slice (some a) i g/\i<=g/\cs.length=cap*z/\b<h.n:=by
   cases aX with
   | fc _ _ _ _ _ _ _ _ _ _ j=>
    exfalso;rcases j with j | ⟨bA,a4,j,ay⟩
    ·rw[p] at j;cases j
    ·rw[p] at j;cases j;omega
   | gu _ _ _ _ a a5 m aq q=>
    have C:=rel.blk b m q;rw[p] at C;exact⟨a,0,rfl,aN _,C.1,rel.ku q⟩
   | Z _ _ _ _ _ _ g a5 m aq q bl b8 aM=>
    have C:=rel.blk b m q;rw[p] at C;exact⟨_,g,rfl,F,C.1,rel.ku q⟩
  obtain⟨a,g,rfl,bZ,bh,aJ⟩:=b0;obtain⟨aE,cq,cW,cd,bU,cc,cg⟩:=Br (P:=P) (ty:=T) (u:=T) rel b4 (RI (P:=P) bJ H aL b6 bf bw p bh D aY bm aR) aX cf;refine (L.fin (some a) i g al dW.r (dW.s+0) aE w cq bZ aI (fun h=>by cases h) cd).mono ?_;rintro x a0 ⟨rfl,rfl⟩;obtain⟨muZ',h1,aG,X⟩:=Kx (h:=h) cc bU (b:=b) (row:=ip z cs vs i i) (ns:=max cap (i+1)*z) (dn _ _ _) rfl rfl F aJ cg;exact⟨aE,muZ',rfl,h1,aG,X⟩
 have Y:i<len:=F;have cw:(i+1)*z=i*z+z:=by rw[ek]
 have cx:(i+1)*z<=len*z:=ck _ Y;have cy:i*z+(len - i)*z=len*z:=by rw[<-eP];congr 1;omega
 cases aX with
 | fc _ _ _ _ _ _ _ _ _ _ j=>
  exfalso;rcases j with j | ⟨bA,a4,j,ay⟩
  ·rw[p] at j;cases j
  ·rw[p] at j;cases j;omega
 | gu=>omega
 | Z _ _ _ _ _ _ g a5 m aq q cP b8 aM=>
 rw[p] at aq;cases aq;have C:=rel.blk b m q;rw[p] at C;obtain⟨bh,cK,arr,bE,ct,cb,cB,cN,cH⟩:=C;obtain⟨bg,au⟩:cap<=g/\m.s+g*z<=m.T:=by
  rcases aM with aM | ⟨cG,bg,au⟩
  ·omega
  ·exact⟨bg,by simpa using au⟩
 have aJ:=rel.ku q;have b2:dW.r≠m.r:=fun bT=>bo (rel.inj bv b dW m (by rw[D];rfl) (by rw[p];rfl) ad q bT)
 have aC:(vs.drop 0).take z=vs:=by rw[lG,aH F]
 have a7:((cs.drop (i*z)).take ((len - i)*z)).length=(len - i)*z:=by rw[cL,i2];omega
 by_cases bi:len+1<=g
 ·have cR:(len+1)*z<=g*z:=ck _ bi;obtain⟨am,K⟩:=DK rel (w':=w.drew) (F6 w);obtain⟨ci,az,aP⟩:=y1 (P:=P) K (o:=i*z) (n:=(len - i)*z) p q F;obtain⟨Q,av,S,O⟩:=yp (P:=P) (t:=T) (u:=T) (ty:=I) K L.sO H (k:=(i+1)*z) p q F (dLen:=len - i) (dc:=g - (i+1)) (sLen:=len+1 - i) (sc:=g - i) (cnt:=len - i)
   (by simp only[A9];split<;>omega) a7 aP az F
  have aU:max (cap*z) ((i+1)*z+(len - i)*z)=max cap (len+1)*z:=F;rw[aU] at S O;have bK:(h.set b (.cells (max cap (len+1)*z) (aw cs ((i+1)*z) ((cs.drop (i*z)).take ((len - i)*z))))).f b=.cells (max cap (len+1)*z) (aw cs ((i+1)*z) ((cs.drop (i*z)).take ((len - i)*z))):=by rw[dn,fJ]
  have bO:(h.set b (.cells (max cap (len+1)*z) (aw cs ((i+1)*z) ((cs.drop (i*z)).take ((len - i)*z))))).f bv=.cells z vs:=by rw[dn,bS _ _ _ _ bo];exact D
  obtain⟨cj,aB,aQ⟩:=y1 (P:=P) O (o:=0) (n:=z) bO ad F;rw[aC] at aB;obtain⟨aF,ax,U,ai⟩:=yp (P:=P) (t:=T) (u:=T) (ty:=I) O L.sO H (k:=i*z) bK q F (dLen:=len+1 - i) (dc:=g - i) (sLen:=1) (sc:=al) (cnt:=1)
   (by simp only[A9];split<;>omega) F (by rw[vc];exact aQ) aB F
  have aV:max (max cap (len+1)*z) (i*z+1*z)=max cap (len+1)*z:=F;rw[aV,RS aY Y F] at U ai;have bV:w.frozen? ⟨dW.r,dW.s+0,none⟩=false:=by
   simp only[World.frozen?,aS];rcases bj with W | W
   ·subst W;simp
   ·simp;intro X;omega
  have bW:w.frozen? ⟨dW.r,a3.size,none⟩=false:=by
   simp only[World.frozen?,aS];rcases bj with W | W
   ·subst W;simp
   ·simp;intro X;omega
  refine (L.shift m.r m.s len g i dW.r (dW.s+0) al _ _ w Q aF dA bE a3.size arr.size Y bi aI b2 (by simp[World.shape?,aS]) (by simp[World.shape?,cb]) F bV bW av ax).mono ?_;rintro x a0 ⟨rfl,rfl⟩;obtain⟨muZ',h1,aG,X⟩:=Kx (h:=h) ai ((am.trans S).trans U) (b:=b) (row:=ip z cs vs i len) (ns:=max cap (len+1)*z) (n:=len+1) (nc:=max cap (len+1)) (z:=z) (v:=.slice (some ⟨m.r,m.s+0,none⟩) (len+1) g) (by
   rw[dn,dn];funext y;simp only[bt];split<;>rfl) rfl rfl F aJ (.Z z b 0 (len+1) (max cap (len+1)) (max cap (len+1)*z) g _ m (by rw[dn,fJ]) q F F (.inr ⟨F,F,by simpa using au⟩))
  exact⟨_,muZ',rfl,h1,aG,X⟩
 ·obtain rfl:cap=len:=F;obtain rfl:g=cap:=F;obtain⟨J,a2,aO,ch,bx⟩:=Mz bw;have ce:J.size=z:=by simp[b9,aO] at H;exact H
  have bP:J.bytes=by_:=by simp[gM,aO] at aL;exact aL
  have bR:contents h z (.Z z b 0 i g (g*z))=some ((cs.drop 0).take (i*z),i):=by simp[contents,p]
  obtain⟨bp,_,aZ,ah,ca⟩:=qB (P:=P) rel bR (aA.Z z b 0 i g (g*z) g cs m p q F F (.inr ⟨F,aN _,by simpa using au⟩));have bq:=ca i (aN _) w.drew (fun _=>rfl);rw[aH (by rw[ah.1,bp];exact aN _)] at bq;rw[lG] at ah bp;have br:(g+1)*J.bytes<=dk:=by rw[bP];exact aR
  have bk:i+(g+1 - i)=g+1:=F;have cD:(g+1 - i)*J.bytes<=(g+1)*J.bytes:=ck _ F;have ap:=Lib.run_append_grow_zeros w T I T e J a2 .i64 .i64 L.sO L.X6 aO ch (some ⟨m.r,m.s+0,none⟩) i g aZ (by rw[ce];exact bq) (g+1 - i) F F F F (by unfold dk at br;omega)
   (by rw[bk];have:=growslice_fits (old:=g) (need:=g+1) F br;omega)
  rw[bk] at ap;obtain⟨n9,a8⟩:∃ n9,n9=grownCap w (g+1) g e:=⟨_,rfl⟩
  have a9:g+1<=n9:=by rw[a8];exact grownCap_ge w _ _ _
  rw[<-a8] at ap;obtain⟨ROW,ao⟩:∃ ROW:Array aD,ROW=aZ.toArray++Builtin.zeroCells a2.cells (g+1 - i)++Builtin.zeroCells a2.cells (n9 - (g+1)):=⟨_,rfl⟩
  rw[<-ao] at ap;have cA:(g+1)*z<=ROW.size:=by
   have bD:i*z+(g+1 - i)*z=(g+1)*z:=by rw[<-eP];congr 1
   rw[ao];simp only[EW,xN,Builtin.zeroCells];simp[bx,ah.1];omega
  have bI:(cs.take (i*z)).length=i*z:=by rw[cL];omega
  obtain⟨am,K⟩:=rel.push (w':=w.drew.alloc (.cells ROW e)) (cs.take (i*z)) ROW e rfl rfl rfl rfl F (fun bz c bY=>by
   obtain⟨aE,a6,bG,bH⟩:=ah.2 bz c bY;refine⟨aE,?_,bG,bH⟩;have ay:bz<aZ.length:=(aK.1 a6).1;rw[ao,AD,o4 (by simpa using ay)];simpa using a6)
  rw[bI] at am K;have ar:b≠h.n:=F;have cF:=rel.ku ad;have bd:bv≠h.n:=F;have bn:(bt muZ h.n (some ⟨w.heap.size,0,ROW.size⟩)) h.n=some ⟨w.heap.size,0,ROW.size⟩:=fJ _ _ _;have b3:(bt muZ h.n (some ⟨w.heap.size,0,ROW.size⟩)) bv=some dW:=by rw[bS _ _ _ _ bd];exact ad
  have b1:(bt muZ h.n (some ⟨w.heap.size,0,ROW.size⟩)) b=some m:=by rw[bS _ _ _ _ ar];exact q
  have bL:(h.push (.cells (i*z) (cs.take (i*z)))).f h.n=.cells (i*z) (cs.take (i*z)):=by rw[dX,fJ]
  have bN:(h.push (.cells (i*z) (cs.take (i*z)))).f bv=.cells z vs:=by rw[dX,bS _ _ _ _ bd];exact D
  obtain⟨cj,az,aP⟩:=y1 (P:=P) K (o:=0) (n:=z) bN b3 F;rw[aC] at az;obtain⟨Q,av,S,O⟩:=yp (P:=P) (t:=T) (u:=T) (ty:=I) K L.sO H (k:=i*z) bL bn (aN _) (dLen:=g+1 - i) (dc:=n9 - i) (sLen:=1) (sc:=al) (cnt:=1)
   (by simp only[A9];split<;>omega) F (by rw[vc];exact aP) az (by simp only;omega)
  have aU:max (i*z) (i*z+1*z)=(i+1)*z:=F;rw[aU] at S O;obtain⟨bF,bB⟩:=DK O (w':=Q.drew) (F6 Q);have bM:((h.push (.cells (i*z) (cs.take (i*z)))).set h.n (.cells ((i+1)*z) (aw (cs.take (i*z)) (i*z) vs))).f h.n=.cells ((i+1)*z) (aw (cs.take (i*z)) (i*z) vs):=by rw[dn,fJ]
  have bb:((h.push (.cells (i*z) (cs.take (i*z)))).set h.n (.cells ((i+1)*z) (aw (cs.take (i*z)) (i*z) vs))).f b=.cells (g*z) cs:=by rw[dn,bS _ _ _ _ ar,dX,bS _ _ _ _ ar];exact p
  obtain⟨ci,aB,aQ⟩:=y1 (P:=P) bB (o:=i*z) (n:=(g - i)*z) bb b1 F;obtain⟨aF,ax,U,ai⟩:=yp (P:=P) (t:=T) (u:=T) (ty:=I) bB L.sO H (k:=(i+1)*z) bM bn (aN _) (dLen:=g - i) (dc:=n9 - (i+1)) (sLen:=g - i) (sc:=g - i) (cnt:=g - i)
   (by simp only[A9];split<;>omega) a7 aQ aB (by simp only;omega)
  have aV:max ((i+1)*z) ((i+1)*z+(g - i)*z)=(g+1)*z:=F;rw[aV,RO aY Y F] at U ai;simp only[hJ] at av ax;have b5:max g (g+1)=g+1:=F;rw[b5];refine (L.grow m.r (m.s+0) g g i dW.r (dW.s+0) al w.heap.size n9 _ _ w _ Q aF Y (aN _) F a9 aI ?_ av ax).mono ?_
  ·have:(g:Int)+1 - (i:Int)=((g+1 - i:Nat) :Int):=F;rw[this];exact ap
  rintro x a0 ⟨rfl,rfl⟩;have hk:=ai.kill (b:=b) (sz:=g*z) (cs:=cs) (h':=(h.set b .dead).push (.cells ((g+1)*z) (ip z cs vs i g))) (by rw[dn,bS _ _ _ _ ar];exact bb) (by rw[hW,hW,jl];omega) (by
   rw[dX,dn,hW,dn,dn,dX];funext y;simp only[bt];by_cases h1:y=h.n
   ·rw[ak h1,aj F,ak h1]
   ·rw[aj h1];split
    ·rfl
    ·simp) (by rw[jl,hW,hW,hW,jl])
  refine⟨_,_,rfl,(((am.trans S).trans bF).trans U).trans hk.1,hk.2,?_⟩;have:=aA.Z (w:=a0) (R:=R) (h:=(h.set b .dead).push (.cells ((g+1)*z) (ip z cs vs i g))) (muZ:=bt muZ h.n (some ⟨w.heap.size,0,ROW.size⟩)) z h.n 0 (g+1) (g+1) ((g+1)*z) n9 (ip z cs vs i g) ⟨w.heap.size,0,ROW.size⟩ (by rw[dX,hW,fJ]) V (aN _) F (.inr ⟨F,a9,by
   simp only;have bD:i*z+(g+1 - i)*z=(g+1)*z:=by rw[<-eP];congr 1
   have cr:(g+1)*z+(n9 - (g+1))*z=n9*z:=by rw[<-eP];congr 1;omega
   rw[ao];simp only[EW,xN,Builtin.zeroCells];simp[bx,ah.1];omega⟩)
  simpa using this
theorem H9 {f T C e z by_:Nat} (L:qi P f T C e z) (D:gj P T=some e) (ad:b9 P e=some z) (I:gM P e=some by_) (aB:0<z) (ax:0<by_) (ah:mm P e=some z)
  {bv:Nat} {vs:ag} (j:h.f bv=.cells z vs) (U:by_<=dk) :
  jR P G f [.ae,.int .i64 0,.Z z bv 0 1 1 z] h (.Z z h.n 0 1 1 z) (h.push (.cells z vs)):=by
 intro R B w muZ am rel av K m;obtain⟨ap⟩:=am
 match ap,K with
 | [ai,ak,al],_=>
 have q:=m 0 _ ai rfl rfl;have o:=m 1 _ ak rfl rfl;have t:=m 2 _ al rfl rfl;have X:=t;cases o;have W:=q;cases q;have Q:uc P T:=⟨_,L.sO,fun k hk=>by cases hk⟩
 cases t with
 | fc _ _ _ _ _ _ _ _ _ _ g=>
  exfalso;rcases g with g | ⟨aE,au,g,az⟩
  ·rw[j] at g;cases g
  ·rw[j] at g;cases g;omega
 | Z _ _ _ _ _ _ ao aF dW aw O aA aC ay=>
 have p:=rel.blk bv dW O;rw[j] at p;obtain⟨aD,_⟩:=p;have H:oh P h T .ae (.Z z bv 0 1 1 z)=some (.Z z h.n 0 1 1 z,h.push (.cells z vs)):=by
  have o:(vs.drop 0).take (1*z)=vs:=by rw[lG,vc,aH F]
  unfold oh;rw[D];simp only[ad,I,contents,j,and_self,if_true,o];unfold qo;rw[aj F,aj (by rw[ah];simp;omega)];simp only[vc,U,if_true]
 obtain⟨v,aq,ar,V,J,S,Y⟩:=Br (P:=P) (ty:=T) (u:=T) rel Q H W X;refine (L.fin none 0 0 ao dW.r (dW.s+0) v w aq (aN _) F (fun _=>⟨rfl,rfl⟩) V).mono ?_;rintro x aG ⟨rfl,rfl⟩;exact⟨v,ar,rfl,J,S,Y⟩
theorem H6 {f p F e z by_:Nat} (L:qi P f p F e z) (q:gj P p=some e) (C:b9 P e=some z) (v:gM P e=some by_) (B:0<z) (w:0<by_) (D:mm P e=some z)
  (args:ag) (h:aM) (r:U) (h' : aM) (g:tO z by_ args h=some (r,h')) :jR P G f args h r h':=by
 unfold tO at g;split at g
 ·rename_i s x y;split at g
  ·rename_i i ai Q V S R X j;have O:x=.int .i64 i:=by
    unfold FX at j;split at j
    ·split at j
     ·cases j;rfl
     ·cases j
    ·cases j
   subst O;split at g
   ·rename_i T ad u;split at g
    ·rename_i m;obtain⟨rfl,rfl,rfl,rfl,rfl,rfl,H⟩:=m;obtain⟨k,rfl⟩:=m6 H;rw[fm] at g;unfold H8 at g;cases s<;>simp only at g<;>try (cases g;done)
     case ae=>
      split at g
      ·rename_i m;obtain⟨rfl,o⟩:=m;cases g;exact H9 L q C v B w D u o
      ·cases g
     case Z ah b W len cap Y=>
      cases t:h.f b<;>rw[t] at g<;>(try simp only at g)<;>try (cases g;done)
      split at g
      ·rename_i m;obtain⟨rfl,rfl,rfl,rfl,K,I,J,o⟩:=m;cases g;exact Ia L q C v B w D t u K I J o
      ·cases g
    ·cases g
   ·cases g
  ·cases g
 ·cases g
end
end Go.bl
namespace Go.bl
open Go
theorem bp {p:Prop} (h:p:=by kernel_rfl) :p:=h
section
variable (P:bq)
abbrev mv:=List (List Nat)
def cR (a:Nat) :Nat->mv
 | 0=>[]
 | n+1=>[a] ::cR (a+1) n
def Lo (ops:Array bb) (o:bb) (i:Nat) (g:List Nat) (bm:Bool) :da:=
 let h:=match o.guard with | none=>none | some j=>some (match ops[j.1]? with | some p=>p.dst | none=>none,j.2)
 match kz P o.op with
 | some m=>⟨i,o.dst,h,.fy m,g,bm⟩
 | none=>match o.op with
  | .call c=>match c.callee with
   | .value (.func f)=>⟨i,o.dst,h,.lc f c.args.toList,g,bm⟩
   | .value x=>⟨i,o.dst,h,.lT x c.args.toList,g,bm⟩
   | .invoke x name=>⟨i,o.dst,h,.nn x name c.args.toList,g,bm⟩
   | _=>⟨i,none,none,.fy .stop,[],false⟩
  | _=>⟨i,none,none,.fy .stop,[],false⟩
def Lr (ops:Array bb) :List bb->Nat->List da
 | [],_=>[]
 | g::r,i=>Lo P ops g i [] false::Lr ops r (i+1)
def H4 (i:Nat) :List Nat->Bool
 | []=>false
 | x::r=>match Nat.beq i x with | true=>true | false=>H4 i r
def Io (i:Nat) :mv->Bool
 | []=>false
 | p::r=>match H4 i p.tail with | true=>true | false=>Io i r
def FP:mv->Bool
 | []=>false
 | p::r=>match p.tail with | []=>FP r | _=>true
def Eo (ops:Array bb) (q:mv) (n:Nat) :mv->List da
 | []=>Lr P ops (ops.toList.drop n) n
 | p::r=>(match p with
  | []=>⟨0,none,none,.fy .stop,[],false⟩
  | i::c=>match ops[i]? with | some g=>Lo P ops g i c (Io i q) | none=>⟨0,none,none,.fy .stop,[],false⟩) ::Eo ops q n r
def DH (ops:Array bb) (p:mv) :fF:=match FP p with
 | true=>.vR (Eo P ops p p.length p)
 | false=>.jH (Eo P ops p p.length p)
def Xi (a b:fF) :fF:=match a with
 | .skip=>b
 | a=>match b with
  | .skip=>a
  | b=>.seq a b
def qM:Code->List mv->fF × List mv
 | .skip,g=>(.skip,g)
 | .label _,g=>(.skip,g)
 | .ret,g=>(.ret,g)
 | .exit id,g=>(.exit id,g)
 | .region _ ops true,g=>match g with
  | []=>(DH P ops [],[])
  | x::g=>(DH P ops x,g)
 | .region _ ops false,g=>(DH P ops [],g)
 | .seq a b,g=>match qM a g with | (a,g)=>match qM b g with | (b,g)=>(Xi a b,g)
 | .cond c a b,g=>match qM a g with | (a,g)=>match qM b g with | (b,g)=>(.cond c a b,g)
 | .block id c,g=>match qM c g with | (c,g)=>(.block id c,g)
 | .loop c,g=>match qM c g with | (c,g)=>(.loop c,g)
 | .scope c,g=>qM c g
 | _,g=>(.skip,g)
def tU (fn:Func) (p:List mv) :fF:=match fn.body with
 | some c=>(qM P c p).1
 | none=>.skip
def sa:List ResultVar->List dy
 | []=>[]
 | x::r=>(match BH P x with | some g=>g | none=>.stop) ::sa r
end
theorem DM (x:U) (t:ag) :x::x::x::x::x::x::x::x::x::x::x::x::x::x::x::x::x::x::x::x::x::x::x::x::x::x::x::x::x::x::x::x::t=bZ 32 x++t:=rfl
theorem DN (x:U) (t:ag) :bZ 32 x++(bZ 32 x++t)=bZ 64 x++t:=rfl
theorem Rc {P:bq} {f:cj} {fn:Func} (m:P.funcs[f]?=some fn) (p:List mv) {c:fF} {ms:List dy}
  (g:tU P fn p=c:=by conv=>lhs;(cbv;try simp only[DM,DN,eK]))
  (j:sa P fn.results.toList=ms:=by conv=>lhs;cbv)
  (hk:(vM P f,vN P f)=(some (tU P fn p),some (sa P fn.results.toList)):=by kernel_rfl)
  {G:Nat->U} {args:ag} {l:ad} {K:qj} (h:run P G c (ju args) l (tS P G ms K.k)) :fS P G f args l (c:=K):=by rw[g,j] at hk;exact Gq (ve hk).1 (ve hk).2 h
theorem c0 {P:bq} {f:cj} {fn:Func} (t:P.funcs[f]?=some fn) (p:List mv) {g:Tables} {j:Array Func} {c:fF} {ms:List dy} (q:P=⟨g,j⟩:=by rfl)
  (m:tU ⟨g,#[]⟩ fn p=c:=by conv=>lhs;(cbv;try simp only[DM,DN,eK]))
  (o:sa ⟨g,#[]⟩ fn.results.toList=ms:=by conv=>lhs;cbv)
  (hk:(vM P f,vN P f)=(some (tU ⟨g,#[]⟩ fn p),some (sa ⟨g,#[]⟩ fn.results.toList)):=by kernel_rfl)
  {G:Nat->U} {args:ag} {l:ad} {K:qj} (h:run P G c (ju args) l (tS P G ms K.k)) :fS P G f args l (c:=K):=by rw[m,o] at hk;exact Gq (ve hk).1 (ve hk).2 h
namespace cu
abbrev W:=BitVec 32
abbrev B:=BitVec 8
def kR (x:W) (n:Nat) :W:=(x >>> n) ||| (x <<< (32 - n))
def mj (l:List B) :W:=l.foldl (fun a x=>(a <<< 8) ||| x.setWidth 32) 0#32
def part (b:List B) (k t:Nat) :W:=mj (((b.take k).drop (4*t)).take 4)
def et (b:List B) :List W:=(List.range 16).map fun g=>mj ((b.drop (4*g)).take 4)
def ext (w:List W) :W:=
 let g:=w.length
 let x:=w.getD (g - 15) 0#32
 let y:=w.getD (g - 2) 0#32
 w.getD (g - 16) 0#32+w.getD (g - 7) 0#32+(kR x 7 ^^^ kR x 18 ^^^ (x >>> 3))+(kR y 17 ^^^ kR y 19 ^^^ (y >>> 10))
def gX:Nat->List W->List W
 | 0,w=>w
 | n+1,w=>gX n (w++[ext w])
def eC (b:List B) :List W:=gX 48 (et b)
def CS (x:W) (i j k:Nat) :W:=kR x i ^^^ kR x j ^^^ kR x k
structure dO where
 (a b c d e f g h:W)
def round (s:dO) (k w:W) :dO:=
 let j:=s.h+CS s.e 6 11 25+((s.e &&& s.f) ^^^ (~~~s.e &&& s.g))+k+w
 let q:=CS s.a 2 13 22+((s.a &&& s.b) ^^^ (s.a &&& s.c) ^^^ (s.b &&& s.c))
 ⟨j+q,s.a,s.b,s.c,s.d+j,s.e,s.f,s.g⟩
def rounds:dO->List W->List W->dO
 | s,k::b5,w::g=>rounds (round s k w) b5 g
 | s,_,_=>s
def table:List Nat:=[0x428a2f98,0x71374491,0xb5c0fbcf,0xe9b5dba5,0x3956c25b,0x59f111f1,0x923f82a4,0xab1c5ed5,0xd807aa98,0x12835b01,0x243185be,0x550c7dc3,0x72be5d74,0x80deb1fe,0x9bdc06a7,0xc19bf174,0xe49b69c1,0xefbe4786,0x0fc19dc6,0x240ca1cc,0x2de92c6f,0x4a7484aa,0x5cb0a9dc,0x76f988da,0x983e5152,0xa831c66d,0xb00327c8,0xbf597fc7,0xc6e00bf3,0xd5a79147,0x06ca6351,0x14292967,0x27b70a85,0x2e1b2138,0x4d2c6dfc,0x53380d13,0x650a7354,0x766a0abb,0x81c2c92e,0x92722c85,0xa2bfe8a1,0xa81a664b,0xc24b8b70,0xc76c51a3,0xd192e819,0xd6990624,0xf40e3585,0x106aa070,0x19a4c116,0x1e376c08,0x2748774c,0x34b0bcb5,0x391c0cb3,0x4ed8aa4a,0x5b9cca4f,0x682e6ff3,0x748f82ee,0x78a5636f,0x84c87814,0x8cc70208,0x90befffa,0xa4506ceb,0xbef9a3f7,0xc67178f2]
def b5:List W:=table.map (BitVec.ofNat 32)
def grind (h:dO) (b:List B) :dO:=
 let j:=rounds h b5 (eC b)
 ⟨h.a+j.a,h.b+j.b,h.c+j.c,h.d+j.d,h.e+j.e,h.f+j.f,h.g+j.g,h.h+j.h⟩
def Bw:Nat->dO->List B->dO × List B
 | 0,h,b=>(h,b)
 | n+1,h,b=>if 64<=b.length then Bw n (grind h (b.take 64)) (b.drop 64) else (h,b)
def fT (h:dO) (b:List B) :dO × List B:=Bw (b.length / 64) h b
def first:dO:=⟨0x6a09e667#32,0xbb67ae85#32,0x3c6ef372#32,0xa54ff53a#32,0x510e527f#32,0x9b05688c#32,0x1f83d9ab#32,0x5be0cd19#32⟩
def vD (n:BitVec 64) :List B:=[(n >>> 56).setWidth 8,(n >>> 48).setWidth 8,(n >>> 40).setWidth 8,(n >>> 32).setWidth 8,(n >>> 24).setWidth 8,(n >>> 16).setWidth 8,(n >>> 8).setWidth 8,(n >>> 0).setWidth 8]
def tail (n:Nat) :List B:=128#8::List.replicate ((119 - n % 64) % 64) 0#8++vD (BitVec.ofNat 64 n*8#64)
def p0 (w:W) :List B:=[(w >>> 24).setWidth 8,(w >>> 16).setWidth 8,(w >>> 8).setWidth 8,w.setWidth 8]
def dO.l (s:dO) :List W:=[s.a,s.b,s.c,s.d,s.e,s.f,s.g,s.h]
def written (s:dO) :List B:=(s.l.map p0).flatten
def gq (b:List B) :List B:=written (fT first (b++tail b.length)).1
theorem YH (l:List B) (x:B) :mj (l++[x])=(mj l <<< 8) ||| x.setWidth 32:=by simp[mj,AU]
theorem rW:∀ (n:Nat) (w:List W),(gX n w).length=w.length+n
 | 0,w=>rfl
 | n+1,w=>by rw[gX,rW n];simp;omega
theorem xd (b:List B) :(eC b).length=64:=by rw[eC,rW];simp[et]
theorem AA (s:dO) :(written s).length=32:=rfl
theorem oT (b:List B) :(gq b).length=32:=rfl
theorem B1:∀ (n:Nat) (w:List W),gX (n+1) w=gX n w++[ext (gX n w)]
 | 0,w=>rfl
 | n+1,w=>by rw[gX,B1 n (w++[ext w])];rfl
theorem Ac (a:W) (x:B) :(a <<< 8) ||| x.setWidth 32=a*256#32+x.setWidth 32:=by
 apply e2;have o:x.toNat<256:=x.isLt;have m:=a.isLt;rw[BitVec.toNat_or,sZ,EY,uX,fw];have h1:x.toNat % 2 ^ 32=x.toNat:=eg F;have g:a.toNat <<< 8 % 2 ^ 32=(a.toNat % 2 ^ 24) <<< 8:=by rw[n4,n4];omega
 have h:=MF (b:=x.toNat) (i:=8) F (a.toNat % 2 ^ 24);rw[h1,g,<-h,n4];have j:(256#32).toNat=256:=rfl;rw[j];omega
theorem vB (h:dO) (b:List B) (g:64<=b.length) :fT h b=fT (grind h (b.take 64)) (b.drop 64):=by
 have:b.length / 64=(b.drop 64).length / 64+1:=by simp;omega
 rw[fT,this,Bw,ak g];rfl
theorem x9 (h:dO) (b:List B) (g:b.length<64) :fT h b=(h,b):=by rw[fT,qb g];rfl
theorem Oy (h:dO) (b:List B) :(fT h b).2.length=b.length % 64:=by
 generalize g:b.length=n
 induction n using Nat.strongRecOn generalizing h b with
 | _ n j=>
  rcases fE b.length 64 with h1 | h1
  ·rw[x9 h b h1,eg F];exact g
  ·rw[vB h b h1,j (b.length - 64) F _ (b.drop 64) V];omega
theorem Gc (h:dO) (a b:List B) :fT h (a++b)=fT (fT h a).1 ((fT h a).2++b):=by
 generalize j:a.length=n
 induction n using Nat.strongRecOn generalizing h a with
 | _ n g=>
  rcases fE a.length 64 with h1 | h1
  ·rw[x9 h a h1]
  ·rw[vB h a h1,vB h (a++b) (by simp;omega),ik h1,nY h1];exact g (a.length - 64) F _ (a.drop 64) V
end cu
end Go.bl
namespace Go.bl
open Go Go.Proofs Go.Proofs.Tryz
def uN:ag:=cu.b5.map bh
def GS:Nat->U:=fun g=>match Nat.beq g 1 with | true=>.b7 uN 0 | false=>.bad
theorem eG:∀ g,(GS g).ar=true:=by
 intro g;unfold GS;split
 ·exact jw bh (fun _=>rfl) _
 ·rfl
@[simp]
theorem Y0:GS 1=.b7 uN 0:=id rfl
abbrev aW:=@i9 prog GS
abbrev MO:=@fS prog GS
abbrev cM (f:cj) (args:ag) (l:ad) (K:U->ad->Prop) :Prop:=fS prog GS f args l (c:=⟨K⟩)
abbrev cA:=U->ad->Prop
abbrev aQ:=List (List cu.B)
theorem ds:dk=140737488355328:=rfl
theorem a8 {f:cj} {fn:Func} (q:prog.funcs[f]?=some fn) (p:List mv) {g:Tables} {j:Array Func} {c:fF} {ms:List dy} (m:prog=⟨g,j⟩:=by rfl)
  (o:tU ⟨g,#[]⟩ fn p=c:=by conv=>lhs;(cbv;try simp only[DM,DN,eK]))
  (t:sa ⟨g,#[]⟩ fn.results.toList=ms:=by conv=>lhs;cbv)
  (hk:(vM prog f,vN prog f)=(some (tU ⟨g,#[]⟩ fn p),some (sa ⟨g,#[]⟩ fn.results.toList)):=by kernel_rfl)
  {args:ag} {r:U} (h:run prog GS c (ju args) [] (tS prog GS ms (⟨fun u l=>Rd l u r⟩:qj).k)) :i9 prog GS f args r:=
 uo checked.mixed eG (c0 q p m o t hk h)
theorem XC (i:Nat) (h:i<64) :uN[i]?=some (bh (cu.b5.getD i 0#32)):=by have g:cu.b5.length=64:=rfl;unfold uN;rw[b1,gx,bK F];rfl
namespace cu
def DU (x:W) (k:Int) :W:=(x <<< (BitVec.ofInt 64 k &&& 31#64).toNat) ||| (x >>> (32#64 - (BitVec.ofInt 64 k &&& 31#64)).toNat)
theorem sA (x:W) (n:Nat) (g:0<n) (h:n<32) :DU x (-(n:Int))=kR x n:=by
 have h1:∀ n:Fin 32,0<n.val->(BitVec.ofInt 64 (-(n.val:Int)) &&& 31#64)=BitVec.ofNat 64 (32 - n.val):=by decide
 have j:=h1 ⟨n,h⟩ g;simp only at j;unfold DU kR;rw[j,BitVec.or_comm];congr 2
 ·have:∀ n:Fin 32,0<n.val->(32#64 - BitVec.ofNat 64 (32 - n.val)).toNat=n.val:=by decide
  exact this ⟨n,h⟩ g
 ·have:∀ n:Fin 32,0<n.val->(BitVec.ofNat 64 (32 - n.val)).toNat=32 - n.val:=by decide
  exact this ⟨n,h⟩ g
theorem sy (x:W) (k:Int) :aW 291 [bh x,.i6 k] (bh (DU x k)):=by apply a8 func291 [];simp;exact aL
theorem II (x:W) (i j k:Nat) (h:0<i/\i<32) (m:0<j/\j<32) (hk:0<k/\k<32) :aW 286 [bh x,.i6 i,.i6 j,.i6 k] (bh (CS x i j k)):=by
 apply a8 func286 [];have g:∀ n:Nat,n<32->IntKind.i64.wrap (-(n:Int))=-(n:Int):=fun n g=>wrap_i64 F F
 simp[g i h.2];refine au (sy x _) rfl ?_;simp[g j m.2];refine au (sy x _) rfl ?_;simp[g k hk.2];refine au (sy x _) rfl ?_;simp[sA x _ h.1 h.2,sA x _ m.1 m.2,sA x _ hk.1 hk.2];exact aL
def bY (x:B) :ag:=[a7 x]
abbrev dZ:=bX B
abbrev cp (s:dZ) :U:=b4 1 bY s
theorem jZ (s:dZ) :(cp s).ar=true:=ot (fun _=>rfl) s
def ml (b:List B) (k:Nat) :List W:=((List.range 16).map fun g=>mj (((b.take k).drop (4*g)).take 4))++List.replicate 48 0#32
theorem Mr (b:List B) (k:Nat) :(ml b k).length=64:=by simp[ml]
theorem YS (b:List B) :ml b 0=List.replicate 64 0#32:=by simp[ml,mj];rfl
theorem ET (b:List B) (k t:Nat) (g:t<16) :(ml b k)[t]?=some (mj (((b.take k).drop (4*t)).take 4)):=by unfold ml;rw[aU (by simpa using g),b1,ho g];rfl
theorem YR (b:List B) (k:Nat) (hk:k<64) (t:k<b.length) (x:B) (p:b[k]?=some x) :
  (ml b k).set (k / 4) ((mj (((b.take k).drop (4*(k / 4))).take 4) <<< 8) ||| x.setWidth 32)=ml b (k+1):=by
 apply g3;intro g;rw[n0,Mr];have o:b.take (k+1)=b.take k++[x]:=by rw[ej,p];rfl
 have u:(b.take k).length=k:=by simp;omega
 by_cases m:g<16
 ·rw[ET b _ g m,ET b _ g m];by_cases h:k / 4=g
  ·rw[ak h,ak F,<-YH,o,h];congr 2;rw[nY F];obtain⟨A,j⟩:=al (List.drop (4*g) (List.take k b));have q:A.length<4:=by rw[j];simp;omega
   rw[<-j,aH F,aH (by simp;omega)]
  ·rw[aj h,o];congr 2;rcases fE k (4*g) with h1 | h1
   ·rw[k3 F,k3 (by simp;omega)]
   ·rw[nY F,ik (by simp;omega)]
 ·rw[aj F];unfold ml;rw[eu (by simp;omega),eu (by simp;omega)];simp
theorem YQ (b:List B) (h:64<=b.length) :ml b 64=et b++List.replicate 48 0#32:=by unfold ml et;congr 1;apply mn;intro j g;have:=g5.1 g;congr 1;rw[p9,lK,i7 F]
def mU (b:List B) (k:Nat) :List W:=gX k (et b)++List.replicate (48 - k) 0#32
theorem WH (b:List B) (k:Nat) (hk:k<=48) :(mU b k).length=64:=by simp[mU,rW,et];omega
theorem z7 (b:List B) (k i:Nat) (g:i<16+k) :(mU b k)[i]?=some ((gX k (et b)).getD i 0#32):=by
 unfold mU;have h:(gX k (et b)).length=16+k:=by simp[rW,et]
 rw[aU F,gx,bK F];rfl
theorem WI (b:List B) (k:Nat) (hk:k<48) :(mU b k).set (16+k) (ext (gX k (et b)))=mU b (k+1):=by
 have g:(gX k (et b)).length=16+k:=by simp[rW,et]
 unfold mU;rw[o6 _ _ F,g,s9,show 48 - k=(48 - (k+1))+1 by omega,k4,s6,B1];simp
theorem WK (b:List B) (ao:64<=b.length) :aW 285 [cp (some b)] (.af ((eC b).map bh)):=by
 apply a8 func285 [];have aC:dw (.Z 1) (cp (some b)) none (some (.i6 64)) none=some (cp (some (b.take 64))):=by
  unfold cp;rw[Ef F F];rfl
 have ay:min 64 b.length=64:=F;simp[aC,ay];refine bx 64 (fun k m l=>m 2=.ptr 0 0 64/\m 11=cp (some (b.take 64))/\m 12=.i6 64/\m 13=.i6 k/\l=[.q 64 ((ml b k).map bh)]) ?_ ?_
 ·rintro k m l hk ⟨o,D,G,H,rfl⟩;obtain⟨m,rfl⟩:=eO o D G H;clear o D G H;simp;by_cases h:(k:Int)<64
  ·obtain⟨x,J⟩:∃ x,b[k]?=some x:=⟨_,bK F⟩
   have aF:(b.take 64)[k]?=some x:=by rw[dS F];exact J
   have aq:bO (.Z 1) (cp (some (b.take 64))) (.i6 k)=some (.b7 (bY x) 0):=by simp[cp,oD,aF]
   obtain⟨q,z⟩:=al (k / 4);have aA:cx .quo .i64 (k:Int) .i64 4=some (.i6 (q:Int)):=by rw[z];exact By k 4 F F
   have aE:IntKind.i64.wrap ((k:Int)+1)=k+1:=wrap_i64 F F;have az:(q:Int)<64:=F;have ap:=ET b k q F;have j:=mh bh (ml b k) q (((mj (((b.take k).drop (4*q)).take 4) <<< 8) ||| x.setWidth 32)) (by rw[Mr];omega);rw[z,YR b k F F x J,<-z] at j;have w:q+1<=64:=F;simp[h,aq,bY,aA,az,ap,w,aE,j];omega
  ·have av:k=64:=F;subst av;simp;refine bx 48 (fun g m l=>m 2=.ptr 0 0 64/\m 5=.i6 (16+g:Nat)/\l=[.q 64 ((mU b g).map bh)]) ?_ ?_
   ·rintro g m l aG ⟨o,I,rfl⟩;obtain⟨m,rfl⟩:=kh o I;clear o I;obtain⟨t,C⟩:=al (16+g);rw[<-C];simp;by_cases h:(t:Int)<64
    ·have aD:IntKind.i64.wrap ((t:Int)+1)=(t+1:Nat):=wrap_i64 F F;have V:IntKind.i64.wrap ((t:Int) - 15)=(t - 15:Nat):=by rw[wrap_i64 F F];omega
     have X:IntKind.i64.wrap ((t:Int) - 2)=(t - 2:Nat):=by rw[wrap_i64 F F];omega
     have W:IntKind.i64.wrap ((t:Int) - 16)=(t - 16:Nat):=by rw[wrap_i64 F F];omega
     have Y:IntKind.i64.wrap ((t:Int) - 7)=(t - 7:Nat):=by rw[wrap_i64 F F];omega
     have aw:(gX g (et b)).length=t:=by simp[rW,et];omega
     have p:=z7 b g (t - 15) F;have o:=z7 b g (t - 2) F;have u:=z7 b g (t - 16) F;have v:=z7 b g (t - 7) F;have j:=mh bh (mU b g) t (ext (gX g (et b))) (by rw[WH b g F];omega);rw[C,WI b g F,<-C] at j;unfold ext at j;rw[aw] at j
     dsimp only at j
     obtain⟨K,aj⟩:=al (t - 15);obtain⟨P,ak⟩:=al (t - 2);obtain⟨O,yu⟩:=al (t - 16);obtain⟨Q,am⟩:=al (t - 7);rw[<-aj] at V p j;rw[<-ak] at X o j;rw[<-yu] at W u j;rw[<-am] at Y v j;have ad:(K:Int)<64:=F;have ah:(P:Int)<64:=F;have ag:(O:Int)<64:=F;have ai:(Q:Int)<64:=F;have w:t+1<=64:=F;generalize (gX g (et b)).getD K 0#32=x at p j;generalize (gX g (et b)).getD P 0#32=y at o j;generalize (gX g (et b)).getD O 0#32=aI at u j;generalize (gX g (et b)).getD Q 0#32=aJ at v j;have U:=sA x 7 F F;have S:=sA x 18 F F;have R:=sA y 17 F F;have T:=sA y 19 F F;simp at U S R T;simp[h,V,X,p,o,ad,ah];refine au (sy _ _) rfl ?_;simp;refine au (sy _ _) rfl ?_;simp;refine au (sy _ _) rfl ?_;simp;refine au (sy _ _) rfl ?_;simp[U,S,R,T,W,Y,u,v,ag,ai,h,j,aD,w];omega
    ·have ar:g=48:=F;have aB:mU b 48=eC b:=by simp[mU,eC]
     subst ar;have ax:=xd b;rw[aB];simp[h,ax,mg,aH];exact aR rfl (GC bh (fun _=>rfl) _)
   ·simp[mU,gX,YQ b ao]
 ·simp[YS,Ku _ 32]
theorem YO (b:List B) (n:Nat) (h:64<=n) :et (b.take n)=et b:=by unfold et;apply mn;intro j g;have:=g5.1 g;congr 1;rw[p9,lK,i7 F]
theorem WJ (b:List B) (n:Nat) (g:64<=n) :eC (b.take n)=eC b:=by unfold eC;rw[YO b n g]
theorem rounds_succ:∀ (k:Nat) (s:dO) (a b:List W) (x y:W),a[k]?=some x->b[k]?=some y->rounds s (a.take (k+1)) (b.take (k+1))=round (rounds s (a.take k) (b.take k)) x y
 | 0,s,a,b,x,y,g,h=>by
  cases a with
  | nil=>simp at g
  | cons a j=>
   cases b with
   | nil=>simp at h
   | cons b m=>simp at g h;subst g h;simp[rounds]
 | k+1,s,a,b,x,y,g,h=>by
  cases a with
  | nil=>simp at g
  | cons a j=>
   cases b with
   | nil=>simp at h
   | cons b m=>
    simp only[List.take_succ_cons,rounds];exact rounds_succ k _ j m x y (by simpa using g) (by simpa using h)
def ka (h:dO) (b:List B) (k:Nat) :dO:=rounds h (b5.take k) ((eC b).take k)
theorem J4 (h:dO) (b:List B) :ka h b 0=h:=rfl
theorem J3 (h:dO) (b:List B) (k:Nat) (hk:k<64) :ka h b (k+1)=round (ka h b k) (b5.getD k 0#32) ((eC b).getD k 0#32):=by
 have h1:b5.length=64:=rfl;have g:=xd b;refine rounds_succ k h b5 (eC b) _ _ ?_ ?_
 ·rw[gx,bK F];rfl
 ·rw[gx,bK F];rfl
theorem J2 (h:dO) (b:List B) :ka h b 64=rounds h b5 (eC b):=by have h1:b5.length=64:=rfl;have g:=xd b;unfold ka;rw[aH F,aH F]
def g7 (a b:List W) (k:Nat) :List W:=(List.zipWith (·+·) a b).take k++a.drop k
theorem FJ (a b:List W) :g7 a b 0=a:=rfl
theorem Bj {a b:List W} (h:a.length=b.length) (k:Nat) :(g7 a b k).length=a.length:=by simp[g7];omega
theorem FH {a b:List W} (h:a.length=b.length) {k:Nat} (hk:k<a.length) :(g7 a b k)[k]?=a[k]?:=by
 unfold g7;rw[eu (by simp;omega)];have:(List.take k (List.zipWith (·+·) a b)).length=k:=by simp;omega
 rw[this,gy];simp
theorem FI {a b:List W} (h:a.length=b.length) {k:Nat} {x y:W} (g:a[k]?=some x) (m:b[k]?=some y) :(g7 a b k).set k (x+y)=g7 a b (k+1):=by
 have hk:=(aK.1 g).1;unfold g7;have j:(List.take k (List.zipWith (·+·) a b)).length=k:=by simp;omega
 have o:(List.zipWith (·+·) a b)[k]?=some (x+y):=by rw[List.getElem?_zipWith,g,m]
 rw[o6 _ _ F,j,s9,k2 hk,s6,ej,o];simp
theorem Rg {h:dO} {b:List B} (aA:64<=b.length) {l:ad} {bk sz:Nat} {rest:ag} {x:U} {K:cA} (G:l[bk]?=some (.q sz (h.l.map bh++rest))) (aY:8<=sz) (aM:fp (aZ l) x (cp (some b)))
  (ak:∀ junk,K (.a1 []) (l.set bk (.q sz ((grind h b).l.map bh++rest))++junk)) :cM 273 [.ptr bk 0 sz,x] l K:=by
 apply c0 func273 [[],[[0],[1]]++cR 4 8++[[13],[14],[15],[17],[18],[19],[2,19,15],[3],[12],[16]]];simp;refine iC (WK b aA) (.cons aM .nil) (Hv bh (fun _=>rfl) _) ?_;have u:=aX G;have aK:=xd b;have aH:(l++[ao.q 64 ((eC b).map bh)])[bk]?=some (.q sz (h.l.map bh++rest)):=by rw[aU u];exact G
 have m:∀ i (y:W),i<8->h.l[i]?=some y->(h.l.map bh++rest)[i]?=some (bh y):=fun i y aE w=>by
  rw[aU (by simpa [dO.l] using aE),b1,w];rfl
 have aO:=m 0 h.a F rfl;have q1:=m 1 h.b F rfl;have aP:=m 2 h.c F rfl;have aQ:=m 3 h.d F rfl;have aR:=m 4 h.e F rfl;have aS:=m 5 h.f F rfl;have aT:=m 6 h.g F rfl;have aV:=m 7 h.h F rfl;simp[mg,aK,aH,aO,q1,aP,aQ,aR,aS,aT,aV];refine bx 64 (fun k j t=>j 0=.ptr bk 0 sz/\j 4=.ptr l.length 0 64/\j 5=bh (ka h b k).a/\j 6=bh (ka h b k).b/\j 7=bh (ka h b k).c/\j 8=bh (ka h b k).d/\j 9=bh (ka h b k).e/\j 10=bh (ka h b k).f/\j 11=bh (ka h b k).g/\j 12=bh (ka h b k).h/\j 52=.i6 k ∧
  t=l++[.q 64 ((eC b).map bh)]) ?_ ?_
 ·rintro k j t hk ⟨p,T,V,Y,ah,ai,aj,O,P,S,X,rfl⟩;obtain⟨j,rfl⟩:=L3 p T V Y ah ai aj O P S X;clear p T V Y ah ai aj O P S X;simp;by_cases C:(k:Int)<64
  ·have J:IntKind.i64.wrap ((k:Int)+1)=k+1:=wrap_i64 F F;have D:k<64:=F;have ar:=XC k D;have aq:(eC b)[k]?=some ((eC b).getD k 0#32):=by rw[gx,bK F];rfl
   rw[J3 h b k D];generalize (eC b).getD k 0#32=a2 at *
   generalize b5.getD k 0#32=a0 at *
   generalize ka h b k=s at *
   have ay:=II s.e 6 11 25 F F F;have az:=II s.a 2 13 22 F F F;simp at ay az;simp[C,ar,aq];refine au ay rfl ?_;simp[ar,aq];refine au az rfl ?_;simp[D,J];simp[round]
  ·have aF:k=64:=F;subst aF;rw[J2];obtain⟨v,av⟩:∃ v,rounds h b5 (eC b)=v:=⟨_,rfl⟩
   rw[av];have aC:grind h b=⟨h.a+v.a,h.b+v.b,h.c+v.c,h.d+v.d,h.e+v.e,h.f+v.f,h.g+v.g,h.h+v.h⟩:=by unfold grind;rw[av]
   simp;have I:h.l.length=v.l.length:=rfl;have H:h.l.length=8:=rfl;have aB:(grind h b).l=g7 h.l v.l 8:=by rw[aC];rfl
   rw[aB] at ak;refine bx 8 (fun k j t=>j 0=.ptr bk 0 sz/\j 111=.af (v.l.map bh)/\j 112=.i6 k/\t=l.set bk (.q sz ((g7 h.l v.l k).map bh++rest))++[.q 64 ((eC b).map bh)]) ?_ ?_
   ·rintro k j t hk ⟨p,Q,R,rfl⟩;obtain⟨j,rfl⟩:=gJ p Q R;clear p Q R;simp;by_cases C:(k:Int)<8
    ·have J:IntKind.i64.wrap ((k:Int)+1)=k+1:=wrap_i64 F F;have o:k<8:=F;obtain⟨y,w⟩:∃ y,v.l[k]?=some y:=⟨_,bK (show k<v.l.length from o)⟩
     obtain⟨z,ax⟩:∃ z,h.l[k]?=some z:=⟨_,bK (show k<h.l.length from o)⟩
     have al:=FH I (k:=k) (by rw[H];exact o);rw[ax] at al;have am:=Bj I k;have ap:=mh bh (g7 h.l v.l k) k (z+y) (by rw[am,H];exact o);rw[FI I ax w] at ap;have aW:((g7 h.l v.l k).map bh).length=8:=by rw[cg,am,H]
     have aL:aw ((g7 h.l v.l k).map bh++rest) k [bh (z+y)]=(g7 h.l v.l (k+1)).map bh++rest:=by
      rw[<-ap];unfold aw;rw[ik F,nY (by simp;omega)];simp
     have aD:((g7 h.l v.l k).map bh++rest)[k]?=some (bh z):=by rw[aU F,b1,al];rfl
     have aI:(l.set bk (.q sz ((g7 h.l v.l k).map bh++rest))++[ao.q 64 ((eC b).map bh)])[bk]?=some (.q sz ((g7 h.l v.l k).map bh++rest)):=by
      rw[aU (by simpa using u),n0];simp[u]
     have aG:k+1<=sz:=F;simp[C,w,aD,aI,J,aL,o,aG,u]
    ·have o:k=8:=F;subst o;simp;exact ak _
   ·have aJ:l.set bk (.q sz ((g7 h.l v.l 0).map bh++rest))=l:=by
     rw[FJ];exact WN G
    rw[aJ];simp[dO.l]
 ·simp[J4]
abbrev kC (g:bX dZ) :U:=b4 1 (fun s=>[cp s]) g
theorem Gy (g:bX dZ) :(kC g).ar=true:=ot (fun s=>by simp only[aq,jZ,k1]) g
def bytesOf (g:List dZ) :List B:=(g.map bX.l).flatten
theorem bytesOf_take (g:List dZ) (k:Nat) (s:dZ) (h:g[k]?=some s) :bytesOf (g.take (k+1))=bytesOf (g.take k)++s.l:=by unfold bytesOf;rw[ej,h];simp
theorem Gl (g:List dZ) (k:Nat) :(bytesOf (g.take k)).length<=(bytesOf g).length:=by
 conv=>rhs;rw[<-i4 k g]
 unfold bytesOf;rw[cS,jq,cF];omega
theorem Rk {n:Nat} (C:n<=1000000000) {l:ad} {K:cA} (h:∀ v j l',aE 1 l' v j []->l.length<=l'.length->(∀ b,b<l.length->l'[b]?=l[b]?)->(bo v=decide (n=0))->K v l') :cM 219 [.ae,.i6 n] l K:=by
 apply c0 func219 [];have h1:¬((n:Int)<0):=F;have w:IntKind.i64.wrap (n:Int)=n:=wrap_i64 F F;have z:IntKind.i64.wrap (0:Int)=0:=rfl;by_cases g:n=0
 ·subst g;simp;exact h _ 0 _ (.nil 0) (aN _) (fun _ _=>rfl) rfl
 have B:(0:Int)<n:=F;have p:og l 1 1 [.int .u8 0] .ae (.i6 n)=some (.Z 1 l.length 0 n n (n*1),l++[.q (n*1) (c3 [.int .u8 0] n)]):=by
  unfold og hr;simp only[fm];have m:=ds;rw[ak ⟨F,F,by rw[m];omega⟩,aj g,aj F,ak (by rw[m];omega)]
 have o:dw (.Z 1) (.Z 1 l.length 0 n n (n*1)) none (some (.i6 0)) none=some (.Z 1 l.length 0 0 n (n*1)):=by
  rw[q7,ya,ak ⟨F,F⟩];simp[g]
 rw[n3] at p o;have t:0<n:=F;simp[h1,t,w,p,z,o];refine h _ l.length (l++[.q n (c3 [.int .u8 0] n)]) (.Z _ 0 n n (c3 [.int .u8 0] n) [] V (by rw[ut];simp) rfl V F F rfl) V (fun b u=>aU u) ?_;simp[bo,g]
def tz (g:List dZ) :dZ:=if bytesOf g=[] then none else some (bytesOf g)
theorem OZ (Iv:List dZ) :(tz Iv).l=bytesOf Iv:=by unfold tz;split<;>simp_all
theorem Pu (g:List dZ) (T:(bytesOf g).length<=1000000000) (ai:g.length<=1000000000) :nh prog GS 172 [kC (some g)] (cp (tz g)):=by
 refine wY checked.mixed eG ?_;apply c0 func172 [];simp;have Q:∀ (k:Nat) (s:dZ),g[k]?=some s->bO (.Z 1) (kC (some g)) (.i6 k)=some (.b7 [cp s] 0):=fun k s m=>by simp[kC,oD,m]
 refine bx g.length (fun k j l=>j 0=kC (some g)/\j 9=kC (some g)/\j 10=.i6 g.length/\j 11=.i6 k/\j 3=.i6 (bytesOf (g.take k)).length/\l=[]) ?_ ?_
 ·rintro k j l hk ⟨C,P,D,G,K,rfl⟩;obtain⟨j,rfl⟩:=gv C K P D G;clear C K P D G;simp;by_cases h:k<g.length
  ·obtain⟨s,m,_⟩:=aP h;have o:=bytesOf_take g k s m;have z:=Gl g (k+1);rw[o,cF] at z;have V:IntKind.i64.wrap (((bytesOf (g.take k)).length:Int)+s.l.length)=((bytesOf (g.take k)).length:Int)+s.l.length:=wrap_i64 F F;have B:IntKind.i64.wrap ((k:Int)+1)=k+1:=wrap_i64 F F;have U:¬(((bytesOf (g.take k)).length:Int)+s.l.length<0):=F;simp[h,Q k s m,V,U,B,o]
  ·have w:k=g.length:=F;subst w;simp;refine Rk T ?_;intro t v l q ah _ u;simp;refine bx g.length (fun k j l=>j 25=kC (some g)/\j 26=.i6 g.length/\j 27=.i6 k/\∃ t v,j 6=t/\aE 1 l t v ((bytesOf (g.take k)).map bY)/\bo t=decide (bytesOf g=[])) ?_ ?_
   ·rintro k j l hk ⟨H,I,J,t,v,O,q,u⟩;obtain⟨j,rfl⟩:=eO O H I J;clear O H I J;simp;by_cases h:k<g.length
    ·obtain⟨s,m,_⟩:=aP h;have o:=bytesOf_take g k s m;have z:=Gl g (k+1);rw[o,cF] at z;have B:IntKind.i64.wrap ((k:Int)+1)=k+1:=wrap_i64 F F;have aj:=ds;obtain⟨al,W,ak,h1,R,Y,ad,ag,S⟩:=lR (by_:=1) q (x:=cp s) (xs:=s.l.map bY) (by simp[cp]) (fun e p=>by obtain⟨x,_,rfl⟩:=cC.1 p;rfl) F F (by simp;omega);simp[h,Q k s m,h1];refine bP.bm ?_;simp[h,B];refine⟨⟨W,by rw[o,cS];exact R⟩,?_⟩;rw[qG S,u];by_cases p:bytesOf g=[]
     ·have X:(bytesOf g).length=0:=by rw[p];rfl
      have:s.l=[]:=hp.1 F;simp[p,this]
     ·simp[p]
    ·have w:k=g.length:=F;subst w;simp;rw[e3] at q;refine q.DG (fun _=>rfl) _ ?_ (OZ g);rw[u];unfold tz;split<;>simp_all
   ·simp;refine⟨⟨v,by simpa [bytesOf] using q⟩,?_⟩;rw[u];simp[hp]
 ·simp[bytesOf]
theorem Pd (s:bX B) :eb prog .eql 100 (b4 1 bY s) .ae=some (.bool s.isNone):=vz (e:=5) bp 1 bY s
theorem Pe {s:bX B} (D:s.l.length<=1000000000) {l:ad} {K:cA} (g:∀ v j l',aE 1 l' v j (s.l.map bY)->l.length<=l'.length->(∀ b,b<l.length->l'[b]?=l[b]?)->(v=.ae\/l.length<=j)->bo v=s.isNone->K v l') :cM 274 [b4 1 bY s] l K:=by
 apply c0 func274 [];simp[Pd];cases s with
 | none=>
  simp;exact g _ 0 _ (.nil 0) (aN _) (fun _ _=>rfl) (.inl rfl) rfl
 | some b=>
  simp;have I:=ds;have J:b.length<=1000000000:=D;have C:aE 1 (l++[ao.q 0 []]) (.Z 1 l.length 0 0 0 0) l.length []:=.Z l.length 0 0 0 [] [] V rfl rfl V (aN _) F rfl;obtain⟨O,G,l',h1,m,o,p,t,u⟩:=lR (by_:=1) C (x:=b4 1 bY (some b)) (xs:=b.map bY) V (fun e z=>by obtain⟨x,_,rfl⟩:=cC.1 z;rfl) F F (by simp;omega);simp[h1];refine bP.bm ?_;simp;have H:l.length+1<=l'.length:=by simpa using o
  refine g _ G _ m F (fun b w=>?_) (.inr (by rcases t with h | h<;>(try simp only[cF,dN,hq] at h)<;>omega)) ?_
  ·rw[p b (by simp;omega) F,aU w]
  ·rw[qG u];rfl
structure pc where
 st:dO
 rest:dZ
 n:Int
def fi (s:dO) (r:U) (n:Int) :ag:=s.l.map bh++[r,.i6 n]
def nt (m:pc) :U:=.af (fi m.st (cp m.rest) m.n)
def pr (m:pc) (b:dZ) :pc:=
 let all:=m.rest.l++b.l
 ⟨(fT m.st all).1,if all=[] then none else some (fT m.st all).2,m.n+b.l.length⟩
theorem O0 (a b:dZ) :tz [a,b]=if a.l++b.l=[] then none else some (a.l++b.l):=by
 have:bytesOf [a,b]=a.l++b.l:=by simp[bytesOf]
 unfold tz;rw[this]
theorem Rh (h:dO) (b:List B) :grind h (b.take 64)=grind h b:=by unfold grind;rw[WJ b 64 F]
theorem qO (s:dO) (r:U) (n:Int) :(fi s r n).length=10:=rfl
theorem Hk (m:pc) (b:dZ) (Q:m.rest.l.length+b.l.length<=1000000000) (aG:0<=m.n) (aH:m.n<=1000000000) :nh prog GS 248 [nt m,cp b] (nt (pr m b)):=by
 refine wY checked.mixed eG ?_;apply c0 func248 [cR 0 6++[[6,1]]];have aD:(U.af (fi m.st (cp m.rest) m.n)).cells=some (fi m.st (cp m.rest) m.n):=rfl;have ai:(fi m.st (cp m.rest) m.n)[8]?=some (cp m.rest):=rfl;have P:=Pu [m.rest,b] (by simp[bytesOf];exact Q) V;rw[O0] at P;simp[nt,qO,ai];refine JR P (.cons ?_ .nil) ?_
 ·exact zP (es:=[[cp m.rest],[cp b]]) (rest:=[]) rfl rfl V (by simp[aq,jZ])
 obtain⟨all,z⟩:=al (m.rest.l++b.l);have aC:all.length<=1000000000:=by rw[z];simpa using Q
 rw[<-z];simp;refine bx (all.length / 64) (fun k j l=>j 1=cp b/\j 2=.ptr 0 0 10/\j 4=.ptr 1 0 10/\∃ h s o junk,j 5=cp s/\l=.q 10 (fi h (cp m.rest) m.n) ::.q 10 o::junk/\fT m.st all=fT h s.l/\s.l.length=all.length - 64*k/\o.length=10/\s.isNone=decide (all=[])) ?_ ?_
 ·rintro k j l hk ⟨B,C,D,h,s,o,junk,G,rfl,J,t,X,S⟩;obtain⟨j,rfl⟩:=eO B C D G;clear B C D G;have ao:bz (.Z 1) (cp s)=some (.i6 s.l.length):=b6 _;simp[ao];by_cases w:(64:Int)<=s.l.length
  ·cases s with
   | none=>simp at w
   | some g=>
   have ah:(64:Int)<=g.length:=w;have H:64<=g.length:=F;simp[ah];refine Rg (h:=h) (b:=g) H (l:=.q 10 (fi h (cp m.rest) m.n) ::.q 10 o::junk) (bk:=0) (sz:=10) (rest:=[cp m.rest,.i6 m.n]) rfl F (Kg (jZ _)) (fun aI=>?_);have av:dw (.Z 1) (cp (some g)) (some (.i6 64)) none none=some (cp (some (g.drop 64))):=by
    unfold cp;rw[K6 F F];rfl
   simp[av];have aE:g.length=all.length - 64*k:=t;refine⟨F,grind h g,some (g.drop 64),rfl,o,⟨rfl,rfl⟩,?_,?_,X,?_⟩
   ·rw[J];show fT h g=_;rw[vB h g H,Rh];rfl
   ·simp;omega
   ·exact S
  ·have ap:s.l.length<64:=F;have aA:IntKind.i64.wrap (m.n+(b.l.length:Int))=m.n+b.l.length:=wrap_i64 F F;have I:(fi h (cp m.rest) m.n)[9]?=some (.i6 m.n):=rfl;have am:bz (.Z 1) (cp b)=some (.i6 b.l.length):=b6 _;simp[w,I,am,aA];refine Pe F ?_;intro ag Y l T aF R p ar;obtain⟨l',rfl⟩:∃ l',l=.q 10 (fi h (cp m.rest) m.n) ::.q 10 o::l':=by
    have u:=R 0 V;have v:=R 1 V;cases l with
    | nil=>simp at u
    | cons a l=>cases l with
     | nil=>simp at v
     | cons c l=>simp at u v;subst u v;exact⟨l,rfl⟩
   have ay:∀ r n IQ,aw (fi h r n) 9 [.i6 IQ]=fi h r IQ:=fun _ _ _=>rfl
   have ax:∀ r n ad,aw (fi h r n) 8 [ad]=fi h ad n:=fun _ _ _=>rfl
   have az:=T.cells;simp[I,ay,ax,az,qO,X,mg];have W:∀ r n,List.take 10 (fi h r n)=fi h r n:=fun _ _=>rfl
   rw[W,W];have ak:pr m b=⟨h,if all=[] then none else some s.l,m.n+b.l.length⟩:=by
    unfold pr;rw[<-z]
    dsimp only
    rw[J,x9 h s.l ap]
   rw[ak];have au:=(T.cl (l':=.q 10 (fi h ag (m.n+(b.l.length:Int))) ::.q 10 (fi h ag (m.n+(b.l.length:Int))) ::l') (by
    rcases p with p | p
    ·exact .inl p
    ·obtain⟨q,rfl⟩:∃ q,Y=q+2:=⟨Y - 2,by simp at p;omega⟩
     exact .inr rfl)).DG (fun _=>rfl) (if all=[] then none else some s.l) (by
     rw[ar,S];split<;>simp_all) (by
     split
     ·rename_i aj;rw[aj] at t;simp at t;rw[t];rfl
     ·rfl)
   refine .af _ _ rfl fun i c aB K O=>?_
   rcases i with _ | _ | _ | _ | _ | _ | _ | _ | _ | _ | i<;>simp[fi,dO.l] at K O
   all_goals subst K O
   all_goals first | exact au | exact .flat _ rfl
 ·simp;exact⟨m.st,(if all=[] then none else some all),rfl,⟨[.int .u32 0,.int .u32 0,.int .u32 0,.int .u32 0,.int .u32 0,.int .u32 0,.int .u32 0,.int .u32 0,.ae,.i6 0],⟨rfl,rfl⟩,by split<;>simp_all,by split<;>simp_all,rfl,by split<;>simp_all⟩⟩
def eo (b:List B) :U:=.af (b.map a7)
def kY (n k:Nat) :List B:=128#8::List.replicate ((119 - n % 64) % 64) 0#8++(vD (BitVec.ofNat 64 n*8#64)).take k
theorem Ey (n:Nat) :kY n 8=tail n:=rfl
theorem LI (n k:Nat) (x:B) (g:(vD (BitVec.ofNat 64 n*8#64))[k]?=some x) :kY n (k+1)=kY n k++[x]:=by unfold kY;rw[ej,g];simp
theorem Al (n k:Nat) :(kY n k).length<=80:=by unfold kY;have:(vD (BitVec.ofNat 64 n*8#64)).length=8:=rfl;simp;omega
theorem Gh (q:BitVec 64) (k:Nat) (hk:k<8) :(vD q)[k]?=some ((q >>> (56 - 8*k)).setWidth 8):=by
 match k,hk with
 | 0,_=>rfl
 | 1,_=>rfl
 | 2,_=>rfl
 | 3,_=>rfl
 | 4,_=>rfl
 | 5,_=>rfl
 | 6,_=>rfl
 | 7,_=>rfl
def mS (s:List W) (k:Nat) :List B:=((s.take k).map p0).flatten++List.replicate (32 - 4*k) 0#8
theorem Mo (s:List W) :(s.map p0).flatten.length=4*s.length:=by
 induction s with
 | nil=>rfl
 | cons w s g=>simp[g,p0];omega
theorem Ud (s:List W) (k:Nat) (hk:k<=s.length) (g:s.length=8) :(mS s k).length=32:=by unfold mS;rw[cF,Mo];simp;omega
theorem Ue (s:List W) (k:Nat) (w:W) (hk:s[k]?=some w) (o:s.length=8) :
  ((((mS s k).set (4*k) ((w >>> 24).setWidth 8)).set (4*k+1) ((w >>> 16).setWidth 8)).set (4*k+2) ((w >>> 8).setWidth 8)).set (4*k+3) (w.setWidth 8)=mS s (k+1):=by
 have m:=(aK.1 hk).1;unfold mS;rw[ej,hk];have g:((s.take k).map p0).flatten.length=4*k:=by rw[Mo];simp;omega
 obtain⟨A,h⟩:=al (((s.take k).map p0).flatten);rw[<-h] at g ⊢;have j:32 - 4*k=(32 - 4*(k+1))+1+1+1+1:=F;rw[j,k4,k4,k4,k4];rw[o6 _ _ F,o6 _ _ F,o6 _ _ F,o6 _ _ F];simp only[g,s9,Nat.add_sub_cancel_left,s6,xM,cS,jq,<-h];simp[p0]
def yx (s:dO) (r:dZ) (n:Nat) :List B:=written (fT s (r.l++tail n)).1
theorem Qe (s:dO) (r:dZ) (n:Nat) (bN:r.l.length<=100000000) (bJ:n<=100000000) :aW 249 [nt ⟨s,r,n⟩] (eo (yx s r n)):=by
 apply a8 func249 [];have aS:(fi s (cp r) n)[9]?=some (.i6 n):=rfl;have ai:(U.af (fi s (cp r) n)).cells=some (fi s (cp r) n):=rfl;have aw:=tp n 64 F;obtain⟨q,Q⟩:=al (n % 64);rw[show ((64:Int).toNat)=64 from rfl,<-Q] at aw;have bM:q<64:=by rw[Q];exact mq _ F
 have ay:IntKind.i64.wrap (119 - (q:Int))=(119 - q:Nat):=by rw[wrap_i64 F F];omega
 have I:=tp (119 - q) 64 F;rw[show ((64:Int).toNat)=64 from rfl] at I;obtain⟨v,P⟩:=al ((119 - q) % 64);rw[<-P] at I;have bH:v<64:=by rw[P];exact mq _ F
 obtain⟨bS,bj⟩:=al (119 - q);rw[<-bj] at ay I;have bg:dk=140737488355328:=rfl;obtain⟨L,D⟩:=al ([ao.q 10 (fi s (cp r) n),ao.q 32 (bZ 32 (U.int IntKind.u8 0)),ao.q 1 [U.int IntKind.u8 128]] :ad);have aV:L[0]?=some (ao.q 10 (fi s (cp r) n)):=by rw[D];rfl
 have aY:L[1]?=some (ao.q 32 (bZ 32 (U.int IntKind.u8 0))):=by rw[D];rfl
 have bE:L.length=3:=by rw[D];rfl
 have bc:aE 1 L (.Z 1 2 0 1 1 1) 2 [[U.int IntKind.u8 128]]:=by
  rw[D];exact .Z 2 1 1 1 [.int .u8 128] _ rfl rfl rfl V (aN _) (aN _) rfl
 have bb:v<9223372036854775808:=F;have bi:(List.length [[U.int IntKind.u8 128]]+v)*1<=dk:=by rw[bg];simp;omega
 have a9:=N9 (n:=v) (k:=.i64) (by_:=1) (zero:=[.int .u8 0]) bc rfl F F bb bi;obtain⟨t,j,l,h1,p,aQ,C,J,K⟩:=a9;have H:bo t=false:=by
  rw[p6];intro am;rw[gm,K] at am;cases am.1
 have bk:u 128#8=128:=by decide
 have a2:([[U.int IntKind.u8 128]]++List.replicate v [U.int IntKind.u8 0] :List (ag))=(kY n 0).map bY:=by
  have:v=(119 - n % 64) % 64:=by rw[P,Q]
  unfold kY;rw[<-this];simp[bY,bk]
 rw[a2] at p;have z:=(C 0 F F).trans aV;have o:=(C 1 F F).trans aY;have a5:2<=j:=by rcases J with h | h<;>omega
 simp[nt,qO,aS,aw,ay,I];rw[<-D];simp[h1];refine bx 8 (fun k m l=>m 1=.ptr 0 0 10/\m 2=.ptr 1 0 32/\m 3=c7 (BitVec.ofNat 64 n*8#64)/\m 5=.i6 (56 - 8*(k:Int))/\∃ t j,m 4=t/\2<=j/\bo t=false/\aE 1 l t j ((kY n k).map bY)/\l[0]?=some (ao.q 10 (fi s (cp r) n))/\l[1]?=some (ao.q 32 (bZ 32 (U.int IntKind.u8 0)))) ?_ ?_
 ·rintro k m l hk ⟨S,B,T,ah,t,j,Y,bF,H,p,z,o⟩;obtain⟨m,rfl⟩:=gv S B T Y ah;clear S B T Y ah;obtain⟨c,ai⟩:=al (56 - 8*(k:Int) :Int);rw[<-ai];simp;by_cases G:0<=c
  ·have a6:k<8:=F;have R:=Gh (BitVec.ofNat 64 n*8#64) k a6;have a0:c.toNat=56 - 8*k:=F;have bn:IntKind.i64.wrap (c - 8)=56 - 8*((k:Int)+1):=by rw[wrap_i64 F F];omega
   have bO:=Al n k;have bd:aE 1 (l++[ao.q 1 [a7 (((BitVec.ofNat 64 n*8#64) >>> (56 - 8*k)).setWidth 8)]]) t j ((kY n k).map bY):=p.more _;obtain⟨bz,c2,az,h1,aP,aQ,C,J,K⟩:=lR (by_:=1) bd (x:=.Z 1 l.length 0 1 1 1) (xs:=[[a7 (((BitVec.ofNat 64 n*8#64) >>> (56 - 8*k)).setWidth 8)]]) (by simp[cr]) V F F (by simp;omega);have bG:j<l.length:=by
    rcases p.lt with h | h
    ·subst h;simp[bo] at H
    ·exact h
   have aM:az[0]?=some (ao.q 10 (fi s (cp r) n)):=by rw[C 0 V F,aU (aX z)];exact z
   have aO:az[1]?=some (ao.q 32 (bZ 32 (U.int IntKind.u8 0))):=by
    have:=aX o;rw[C 1 (by simp;omega) F,aU (aX o)];exact o
   have bl:bo bz=false:=by rw[qG K,H];rfl
   have a4:2<=c2:=by
    rcases J with h | h
    ·omega
    ·have h:=dC (show l.length<=(l++[ao.q 1 [a7 (((BitVec.ofNat 64 n*8#64) >>> (56 - 8*k)).setWidth 8)]]).length by simp) h;omega
   simp[G,a0,h1];refine bP.bm ?_;simp[G,bn];exact⟨F,c2,a4,bl,by rw[LI n k _ R,cS];exact aP,aM,aO⟩
  ·have O:k=8:=F;subst O;rw[Ey] at p;have aj:=Hk ⟨s,r,n⟩ (some (tail n)) (by have:=Al n 8;rw[Ey] at this;simp;omega) V (by simp;omega);have R:=p.nM (fun _=>rfl) (some (tail n)) (by rw[H];rfl) rfl;have ak:(pr ⟨s,r,n⟩ (some (tail n))).st=(fT s (r.l++tail n)).1:=rfl;obtain⟨g,aT⟩:=al (pr ⟨s,r,n⟩ (some (tail n)));rw[<-aT] at aj ak;have bI:aq [nt ⟨s,r,n⟩]=true:=by simp[aq,nt,U.ar,fi,dO.l,jZ]
   have a3:yH 8 0 (nt g)=some (.af (g.st.l.map bh)):=rfl;have au:g.st.l.length=8:=rfl;simp[G,z,qO];refine JR aj (.cons (Kg ?_) (.cons R .nil)) ?_
   ·show (U.af (fi s (cp r) n)).ar=true;simp[U.ar,aq,fi,dO.l,jZ]
   simp[a3];refine bx 8 (fun k m l=>m 2=.ptr 1 0 32/\m 33=.af (g.st.l.map bh)/\m 34=.i6 k/\l[1]?=some (ao.q 32 ((mS g.st.l k).map a7))) ?_ ?_
   ·rintro k m l hk ⟨B,W,X,o⟩;obtain⟨m,rfl⟩:=gJ B W X;clear B W X;obtain⟨bT,bR,rfl⟩:=XQ o;clear o;simp;by_cases G:(k:Int)<8
    ·have ap:k<8:=F;obtain⟨w,ax⟩:∃ w,g.st.l[k]?=some w:=⟨_,bK (show k<g.st.l.length from ap)⟩
     have bL:=Ud g.st.l k F au;have av:=Ue g.st.l k w ax au;have aB:IntKind.i64.wrap (4*(k:Int))=(4*k:Nat):=by rw[wrap_i64 F F];omega
     have aC:IntKind.i64.wrap (((4*k:Nat) :Int)+1)=(4*k+1:Nat):=by rw[wrap_i64 F F];omega
     have aD:IntKind.i64.wrap (((4*k:Nat) :Int)+2)=(4*k+2:Nat):=by rw[wrap_i64 F F];omega
     have aF:IntKind.i64.wrap (((4*k:Nat) :Int)+3)=(4*k+3:Nat):=by rw[wrap_i64 F F];omega
     have bA:IntKind.i64.wrap ((k:Int)+1)=k+1:=wrap_i64 F F;obtain⟨a,aZ⟩:=al (4*k);rw[<-aZ] at aB aC aD aF av;have bt:=mh a7 (mS g.st.l k) a ((w >>> 24).setWidth 8) F;have bv:=mh a7 ((mS g.st.l k).set a ((w >>> 24).setWidth 8)) (a+1) ((w >>> 16).setWidth 8) (by simp;omega);have bw:=mh a7 (((mS g.st.l k).set a ((w >>> 24).setWidth 8)).set (a+1) ((w >>> 16).setWidth 8)) (a+2) ((w >>> 8).setWidth 8) (by simp;omega);have aA:=mh a7 ((((mS g.st.l k).set a ((w >>> 24).setWidth 8)).set (a+1) ((w >>> 16).setWidth 8)).set (a+2) ((w >>> 8).setWidth 8)) (a+3) (w.setWidth 8) (by simp;omega);rw[av] at aA;have aG:(a:Int)<32:=F;have bB:((a+1:Nat) :Int)<32:=F;have bC:((a+2:Nat) :Int)<32:=F;have bD:((a+3:Nat) :Int)<32:=F;have aI:a+1<=32:=F;have aJ:a+1+1<=32:=F;have aK:a+2+1<=32:=F;have aL:a+3+1<=32:=F;have d1:(a:Int)+1<32:=F;have d2:(a:Int)+2<32:=F;have d3:(a:Int)+3<32:=F;have f1:((a:Int)+1).toNat=a+1:=F;have f2:((a:Int)+2).toNat=a+2:=F;have f3:((a:Int)+3).toNat=a+3:=F;have bq:(0:Int)<=(a:Int)+1:=F;have br:(0:Int)<=(a:Int)+2:=F;have bs:(0:Int)<=(a:Int)+3:=F;simp[G,ap,ax,aB,aC,aD,aF,bA,aG,bt,bv,bw,aA,aI,aJ,aK,aL,d1,d2,d3,f1,f2,f3,bq,br,bs,-List.map_set]
    ·have O:k=8:=F;subst O;have bf:mS g.st.l 8=written g.st:=by simp[mS,written,dO.l]
     rw[bf];have bp:(written g.st).length=32:=rfl;simp[bp,mg,aH];exact aR (by unfold eo yx;rw[ak]) (GC a7 (fun _=>rfl) _)
   ·simp[o];rw[Ku .u8 8];rfl
 ·simp;exact⟨j,a5,H,p,z,o⟩
structure te (m:pc) (b:List B) :Prop where
 Bu:fT first b=(m.st,m.rest.l)
 n:m.n=b.length
theorem RU {m:pc} {b:List B} (h:te m b) (s:dZ) :te (pr m s) (b++s.l):=by
 have h1:fT first (b++s.l)=fT m.st (m.rest.l++s.l):=by rw[Gc,h.Bu]
 refine⟨?_,?_⟩
 ·rw[h1];unfold pr
  dsimp only
  split
  ·rename_i g;rw[g];rfl
  ·rfl
 ·unfold pr
  dsimp only
  rw[h.n];simp
theorem RV {m:pc} {b:List B} (h:te m b) :m.rest.l.length<64:=by
 have:=Oy first b
 rw[h.Bu] at this;simp only at this;rw[this];exact mq _ F
theorem RT {m:pc} {b:List B} (h:te m b) :yx m.st m.rest b.length=gq b:=by unfold yx gq;rw[Gc first b,h.Bu]
def start:pc:=⟨first,none,0⟩
theorem RW:te start []:=⟨rfl,rfl⟩
theorem Xm:nh prog GS 247 [] (nt start):=by refine wY checked.mixed eG ?_;apply c0 func247 [];simp;exact .flat _ rfl
def oF (s:dZ) :Bool:=decide ((10000:Int)<s.l.length)
theorem Sr (s:dZ) :aW 246 [cp s] (.bool (oF s)):=by apply a8 func246 [];simp[cp];exact aL
theorem QP:fI prog 246=true:=bp
def idx (l:List dZ) :Int:=match l.findIdx? oF with | some i=>(i:Int) | none=>-1
theorem Rt {l:List dZ} {k:Nat} {s:dZ} (o:l[k]?=some s) (h:oF s=true) (m:∀ j s,j<k->l[j]?=some s->oF s=false) :idx l=k:=by
 have:l.findIdx? oF=some k:=by
  rw[List.findIdx?_eq_some_iff_getElem];obtain⟨h1,rfl⟩:=aK.1 o;refine⟨h1,h,fun j g=>?_⟩;rw[m j l[j] g (bK F)];simp
 unfold idx;rw[this]
theorem H2 {l:List dZ} (h:∀ j s,j<l.length->l[j]?=some s->oF s=false) :idx l=-1:=by
 have:l.findIdx? oF=none:=by
  rw[List.findIdx?_eq_none_iff];intro x m;obtain⟨j,g⟩:=cq.1 m;exact h j x (aK.1 g).1 g
 unfold idx;rw[this]
theorem Cq (g:bX dZ) (I:g.l.length<=1000000000) :aW 272 [kC g,.fn 246 [] []] (.i6 (idx g.l)):=by
 apply a8 func272 [];have D:bz (.Z 1) (kC g)=some (.i6 g.l.length):=b6 _;simp[D];refine bx g.l.length (fun k m l=>m 0=kC g/\m 1=.fn 246 [] []/\m 7=.i6 g.l.length/\m 8=.i6 k/\∀ j s,j<k->g.l[j]?=some s->oF s=false) ?_ V;rintro k m l hk ⟨t,u,v,w,p⟩;obtain⟨m,rfl⟩:=eO t u v w;clear t u v w;simp;by_cases h:k<g.l.length
 ·obtain⟨s,o,_⟩:=aP h;have B:bO (.Z 1) (kC g) (.i6 k)=some (.b7 [cp s] 0):=by
   rw[oD];simp[o]
  have G:IntKind.i64.wrap ((k:Int)+1)=k+1:=wrap_i64 F F;simp[h,B];refine⟨QP,au (Sr s) (by simp[aq,jZ]) ?_⟩;cases z:oF s with
  | true=>
   simp;rw[Rt o z p];exact aL
  | false=>
   simp[h,G];intro j H C q;rcases fE j k with h1 | h1
   ·exact p j H h1 q
   ·have:j=k:=F;subst this;rw[o] at q;cases q;exact z
 ·simp[h];rw[H2 (fun j s C o=>p j s F o)];exact aL
theorem Pw (g:bX dZ) (h:g.l.length<=1000000000) :aW 245 [kC g,.fn 246 [] []] (.bool (decide (0<=idx g.l))):=by apply a8 func245 [];simp;refine au (Cq g h) (by simp[aq,U.ar,Gy]) ?_;simp;exact aL
theorem Jy (g:List dZ) (am:g.length<=20) (v:∀ s∈g,s.l.length<=10000) :aW 205 [kC (some g)] (.a1 [eo (gq (bytesOf g)),.i6 0]):=by
 have W:idx g=-1:=H2 fun aw s ap o=>by
  have:=v s (cJ o);unfold oF;simp;omega
 have Y:∀ k,(bytesOf (g.take k)).length<=200000:=fun k=>by
  have:∀ l:List dZ,(∀ s∈l,s.l.length<=10000)->(bytesOf l).length<=10000*l.length:=by
   intro l
   induction l with
   | nil=>intro _;simp[bytesOf]
   | cons s l ak=>
    intro h;have h1:=ak fun x aj=>h x (by simp[aj])
    have Q:=h s V;unfold bytesOf at h1 ⊢;rw[di,hG,cF,dN];omega
  have h1:=this (g.take k) fun s o=>v s (gA o)
  have Q:(g.take k).length<=20:=by simp;omega
  omega
 apply a8 func205 [];have R:¬(20:Int)<g.length:=F;have H:=Pw (some g) (by simp;omega);rw[bX.qL,W] at H;simp[R];refine au H (by simp[aq,U.ar,Gy]) ?_;simp;refine au Xm.Ao rfl ?_;simp[nt,qO];refine bx g.length (fun k m l=>m 2=.ptr 0 0 32/\m 4=.ptr 1 0 10/\m 16=kC (some g)/\m 17=.i6 g.length/\m 18=.i6 k/\∃ j,te j (bytesOf (g.take k))/\l=[.q 32 (bZ 32 (.int .u8 0)),.q 10 (fi j.st (cp j.rest) j.n)]) ?_ ?_
 ·rintro k m l hk ⟨C,D,w,z,B,j,p,rfl⟩;obtain⟨m,rfl⟩:=gv C D w z B;clear C D w z B;simp;have G:(U.af (fi j.st (cp j.rest) j.n)).ar=true:=by simp[U.ar,aq,fi,dO.l,jZ]
  have O:List.take 10 (fi j.st (cp j.rest) j.n)=fi j.st (cp j.rest) j.n:=rfl;have av:=RV p;have J:=p.n;have ad:=Y k;by_cases h:k<g.length
  ·obtain⟨s,o,ah⟩:=aP h;have T:bO (.Z 1) (kC (some g)) (.i6 k)=some (.b7 [cp s] 0):=by
    rw[oD];simp[o]
   have ai:IntKind.i64.wrap ((k:Int)+1)=k+1:=wrap_i64 F F;have h1:=v s ah;have I:=Hk j s F F F;have u:=RU p s;rw[<-bytesOf_take g k s o] at u;obtain⟨P,S⟩:=al (pr j s);rw[<-S] at I u;simp[h,T,qO,O];refine au I.Ao ?_ ?_
   ·simp only[aq,G,jZ,k1]
   simp[nt,qO,h,ai];exact⟨P,u,rfl⟩
  ·have X:k=g.length:=F;subst X;rw[e3] at p J ad;have t:=Qe j.st j.rest (bytesOf g).length F F;rw[RT p] at t;have ag:j=⟨j.st,j.rest,((bytesOf g).length:Int)⟩:=by rw[<-J]
   rw[<-ag] at t;have K:=oT (bytesOf g);simp[h,qO,O];refine au t ?_ ?_
   ·simp only[aq,G,k1]
   have ao:((gq (bytesOf g)).map a7).length=32:=by rw[cg,K]
   simp[eo,K,mg,aH];exact aR rfl (by simp[U.ar,aq,jw a7 (fun _=>rfl)])
 ·simp[bytesOf];exact⟨start,RW,rfl⟩
theorem Xy (s:dZ) (h:s.l.length<=10000) :aW 150 [cp s] (.a1 [eo (gq s.l),.i6 0]):=by
 have j:bytesOf [s]=s.l:=by simp[bytesOf]
 have g:=Jy [s] V (by simpa using h);rw[j] at g;apply a8 func150 [];have m:=oT s.l;simp;refine iC g (.cons ?_ .nil) (by simp[U.flat,kE,eo,tJ a7 (fun _=>rfl)]) ?_
 ·exact zP (es:=[[cp s]]) (rest:=[]) rfl rfl V (by simp[aq,jZ])
 simp[eo,m,mg,aH];exact aR rfl (by simp[U.ar,aq,jw a7 (fun _=>rfl)])
theorem o0 (x:W) (n:Nat) (m:0<n) (h:n<32) :aW 265 [bh x,.i6 n] (bh (kR x n)):=by
 apply a8 func265 [];have j:IntKind.i64.wrap (32 - (n:Int))=(32 - n:Nat):=by rw[wrap_i64 F F];omega
 obtain⟨o,g⟩:=al (32 - n);rw[<-g] at j;simp[j];exact aR (by unfold kR;rw[g]) rfl
def ec (x:W) :ag:=[bh x]
theorem Pv:nh prog GS 266 [] (b4 1 ec (some b5)):=by refine wY checked.mixed eG ?_;apply c0 func266 [];simp;exact Kj (z:=1) (es:=b5.map ec) (rest:=[]) bp bp (fun e g=>by obtain⟨y,_,rfl⟩:=cC.1 g;rfl) (fun e g=>by obtain⟨y,_,rfl⟩:=cC.1 g;rfl)
theorem QJ:aW 186 [] (.af (first.l.map bh)):=by apply a8 func186 [];simp;exact aL
theorem YM (b:List B) (t:Nat) (g j m o:B) (q:b[4*t]?=some g) (h1:b[4*t+1]?=some j) (u:b[4*t+2]?=some m) (p:b[4*t+3]?=some o) :
  mj ((b.drop (4*t)).take 4)=((g.setWidth 32*256#32+j.setWidth 32)*256#32+m.setWidth 32)*256#32+o.setWidth 32:=by
 have h:(b.drop (4*t)).take 4=[g,j,m,o]:=by
  have v:=(aK.1 p).1;apply g3;intro i
  match i with
  | 0=>simp[q]
  | 1=>simp[h1]
  | 2=>simp[u]
  | 3=>simp[p]
  | i+4=>rw[dY (by simp;omega),dY V]
 rw[h];show ((((0#32 <<< 8 ||| g.setWidth 32) <<< 8 ||| j.setWidth 32) <<< 8 ||| m.setWidth 32) <<< 8 ||| o.setWidth 32)=_;rw[Ac,Ac,Ac,Ac];simp
theorem Mh {l:ad} {v:U} {j:Nat} {g:List W} (h:aE 1 l v j (g.map ec)) (t:bo v=false) :∃ (cap sz:Nat) (cs:ag),v=.Z 1 j 0 g.length cap sz/\l[j]?=some (.q sz cs)/\∀ (i:Nat) (x:W),g[i]?=some x->cs[i]?=some (bh x):=by obtain⟨n,cap,sz,cs,h1,o,w,m,z,p,_⟩:=h.view t;rw[cg] at m;subst m;refine⟨cap,sz,cs,h1,o,fun i x u=>?_⟩;have:=p i (ec x) (by rw[b1,u];rfl) 0 F;simpa [ec] using this
theorem YP (b:List B) (k:Nat) (hk:k<16) :(et b).take (k+1)=(et b).take k++[mj ((b.drop (4*k)).take 4)]:=by
 have:(et b)[k]?=some (mj ((b.drop (4*k)).take 4)):=by unfold et;rw[b1,ho hk];rfl
 rw[ej,this];rfl
theorem YN (b:List B) :(et b).length=16:=by simp[et]
theorem Qu (k:Nat) (b:List B) :(gX k (et b)).length=16+k:=by simp[rW,et]
theorem Ri (h:dO) (b:List B) (cu:64<=b.length) :aW 231 [.af (h.l.map bh),cp (some b)] (.af ((grind h b).l.map bh)):=by
 have bk:dk=140737488355328:=rfl;have bN:(h.l.map bh).length=8:=rfl;apply a8 func231 [[],[],cR 0 13++[[14],[17],[18],[21],[23],[26],[27],[13,10,5],[15,10,5],[16],[19],[20],[22,10,5],[24,10,5],[25]],[],[[0],[1],[2],[4],[7]]++cR 11 8++cR 20 4++cR 25 4++[[3,28,23,1],[5,28,23,1],[6],[8,28,23,1],[9],[10],[19],[24]]];simp[bN];refine bx 16 (fun k m l=>m 1=cp (some b)/\m 2=.ptr 0 0 8/\m 4=.ptr 1 0 8/\m 6=.i6 k/\∃ v j o rest,m 5=v/\(bo v=true->k=0)/\(v=.ae\/2<=j)/\aE 1 l v j (((et b).take k).map ec)/\l=.q 8 (h.l.map bh) ::.q 8 o::rest/\o.length=8) ?_ ?_
 ·rintro k m l hk ⟨a4,u,C,a9,v,j,o,rest,K,J,V,D,rfl,ap⟩;obtain⟨m,rfl⟩:=gv a4 u C K a9;clear a4 u C K a9;by_cases bT:(k:Int)<16
  ·have G:k<16:=F;obtain⟨a,P⟩:=al (4*k);have cj:IntKind.i64.wrap (4*(k:Int))=(a:Nat):=by rw[wrap_i64 F F];omega
   obtain⟨nj,bG⟩:=al (a+1);obtain⟨Bi,bH⟩:=al (a+2);obtain⟨a3,bI⟩:=al (a+3);have ck:IntKind.i64.wrap ((a:Int)+1)=nj:=by rw[wrap_i64 F F];omega
   have a2:IntKind.i64.wrap ((a:Int)+2)=Bi:=by rw[wrap_i64 F F];omega
   have cn:IntKind.i64.wrap ((a:Int)+3)=a3:=by rw[wrap_i64 F F];omega
   have wk:IntKind.i64.wrap ((k:Int)+1)=k+1:=wrap_i64 F F;obtain⟨aG,bc⟩:∃ x,b[a]?=some x:=⟨_,bK F⟩
   obtain⟨aI,bd⟩:∃ x,b[nj]?=some x:=⟨_,bK F⟩
   obtain⟨X,bf⟩:∃ x,b[Bi]?=some x:=⟨_,bK F⟩
   obtain⟨aJ,bg⟩:∃ x,b[a3]?=some x:=⟨_,bK F⟩
   have aA:∀ (i:Nat) (x:B),b[i]?=some x->bO (.Z 1) (cp (some b)) (.i6 i)=some (.b7 (bY x) 0):=fun i x aF=>by rw[oD];simp[aF]
   have ce:=aA a aG bc;have cf:=aA nj aI bd;have r6:=aA Bi X bf;have ch:=aA a3 aJ bg;have aY:=YP b k G;rw[YM b k aG aI X aJ (by rw[<-P];exact bc) (by rw[<-P,<-bG];exact bd) (by rw[<-P,<-bH];exact bf) (by rw[<-P,<-bI];exact bg)] at aY;obtain⟨w,S⟩:=al (((aG.setWidth 32*256#32+aI.setWidth 32)*256#32+X.setWidth 32)*256#32+aJ.setWidth 32);rw[<-S] at aY;have aT:aE 1 ([.q 8 (h.l.map bh),.q 8 o]++(rest++[ao.q 1 [bh w]])) v j (((et b).take k).map ec):=D.more [ao.q 1 [bh w]];have cw:(((et b).take k).map ec).length<=16:=by simp;omega
   obtain⟨aw,av,a0,h1,aL,aO,aP⟩:=rK (by_:=4) aT V (x:=.Z 1 (rest.length+2) 0 1 1 1) (xs:=[ec w]) (by simp[cr,ec]) (by simp[ec]) F F (by rw[bk];simp;omega);have aM:aE 1 (.q 8 (h.l.map bh) ::.q 8 o::a0) aw av (((et b).take (k+1)).map ec):=by rw[aY,cS];exact aL
   simp only[iK,h0] at h1;have aD:bo aw=false:=by rw[aP];simp
   simp[bT,cj,ck,a2,cn,ce,cf,r6,ch,bY];rw[<-S];simp[h1];refine bP.bm ?_;simp[wk,G];exact⟨aD,av,aO,by rw[<-i3];exact aM,ap⟩
  ·have G:k=16:=F;subst G;have bn:bo v=false:=by
    cases ca:bo v with
    | false=>rfl
    | true=>exact bW (J ca) F
   have bR:2<=j:=by
    rcases V with h | h
    ·subst h;cases bn
    ·exact h
   have b0:aE 1 (.q 8 (h.l.map bh) ::.q 8 o::rest) v j ((et b).map ec):=by
    have:(et b).take 16=et b:=aH (by rw[YN];omega);rw[this] at D;exact D
   clear J V D;simp;refine bx 48 (fun k m l=>m 2=.ptr 0 0 8/\m 4=.ptr 1 0 8/\m 7=.i6 (16+k:Nat)/\∃ v j o rest,m 5=v/\bo v=false/\2<=j/\aE 1 l v j ((gX k (et b)).map ec)/\l=.q 8 (h.l.map bh) ::.q 8 o::rest/\o.length=8) ?_ ?_
   ·rintro k m l hk ⟨u,C,bb,v,j,o,rest,K,J,V,D,rfl,ap⟩;obtain⟨m,rfl⟩:=eO u C K bb;clear u C K bb;obtain⟨t,bl⟩:=al (16+k);rw[<-bl];by_cases aQ:(t:Int)<64
    ·have cb:IntKind.i64.wrap ((t:Int)+1)=(t+1:Nat):=wrap_i64 F F;have bZ:=Qu k b;obtain⟨wa,bC⟩:=al (t - 15);obtain⟨r6,bD⟩:=al (t - 2);obtain⟨wb,yu⟩:=al (t - 16);obtain⟨wc,bE⟩:=al (t - 7);have cl:IntKind.i64.wrap ((t:Int) - 15)=wa:=by rw[wrap_i64 F F];omega
     have a2:IntKind.i64.wrap ((t:Int) - 2)=r6:=by rw[wrap_i64 F F];omega
     have cm:IntKind.i64.wrap ((t:Int) - 16)=wb:=by rw[wrap_i64 F F];omega
     have cq:IntKind.i64.wrap ((t:Int) - 7)=wc:=by rw[wrap_i64 F F];omega
     obtain⟨p,cd⟩:=al (gX k (et b));have R:=B1 k (et b);rw[<-cd] at bZ D R;have cc:p.length=t:=F;unfold ext at R
     dsimp only at R
     rw[cc,<-bC,<-bD,<-yu,<-bE] at R;have ax:∀ i,i<t->p[i]?=some (p.getD i 0#32):=fun i cv=>by rw[gx,bK F];rfl
     obtain⟨x,aF⟩:=al (p.getD wa 0#32);obtain⟨y,am⟩:=al (p.getD r6 0#32);obtain⟨bs,bp⟩:=al (p.getD wb 0#32);obtain⟨bt,bq⟩:=al (p.getD wc 0#32);rw[<-aF,<-am,<-bp,<-bq] at R;obtain⟨cap,W,cs,rfl,aB,T⟩:=Mh D J;have bA:=T wa x (by rw[aF];exact ax wa F);have bB:=T r6 y (by rw[am];exact ax r6 F);have Y:=T wb bs (by rw[bp];exact ax wb F);have ad:=T wc bt (by rw[bq];exact ax wc F);obtain⟨w,S⟩:=al (bs+bt+(kR x 7 ^^^ kR x 18 ^^^ x >>> 3)+(kR y 17 ^^^ kR y 19 ^^^ y >>> 10));rw[<-S] at R;have aT:aE 1 ([.q 8 (h.l.map bh),.q 8 o]++(rest++[ao.q 1 [bh w]])) _ j (p.map ec):=D.more [ao.q 1 [bh w]];obtain⟨aw,av,a0,h1,aL,aO,aP⟩:=rK (by_:=4) aT (.inr V) (x:=.Z 1 (rest.length+2) 0 1 1 1) (xs:=[ec w]) (by simp[cr,ec]) (by simp[ec]) F F (by rw[bk];simp;omega);have aM:aE 1 (.q 8 (h.l.map bh) ::.q 8 o::a0) aw av ((gX (k+1) (et b)).map ec):=by rw[R,cS];exact aL
     simp only[iK,h0] at h1;have aD:bo aw=false:=by rw[aP];rfl
     obtain⟨I,rfl⟩:∃ I,j=I+2:=⟨j - 2,F⟩
     have H:rest[I]?=some (.q W cs):=by simpa using aB
     have aj:(rest++[ao.q 1 [bh w]])[I]?=some (.q W cs):=by rw[aU (aX H)];exact H
     have bv:wa<p.length:=F;have X:r6<p.length:=F;have bw:wb<p.length:=F;have bz:wc<p.length:=F;have t7:=o0 x 7 F F;have t18:=o0 x 18 F F;have t17:=o0 y 17 F F;have t19:=o0 y 19 F F;simp at t7 t18 t17 t19;simp[aQ,cl,a2,cm,cq,bv,X,bw,bz,H,bA,bB,Y,ad];refine au t7 rfl ?_;simp[H,Y,ad];refine au t18 rfl ?_;simp[H,Y,ad];refine au t17 rfl ?_;simp[H,Y,ad];refine au t19 rfl ?_;simp[H,Y,ad];rw[<-S];simp[h1];refine bP.bm ?_;simp[cb];exact⟨F,F,aD,av,aO.resolve_left (by intro e;subst e;cases aD),aM,ap⟩
    ·have G:k=48:=F;subst G;subst bl;have b6:gX 48 (et b)=eC b:=rfl;rw[b6] at D;obtain⟨cap,W,cs,rfl,aB,T⟩:=Mh D J;obtain⟨I,rfl⟩:∃ I,j=I+2:=⟨j - 2,F⟩
     have H:rest[I]?=some (.q W cs):=by simpa using aB
     have b8:=xd b;rw[b8];clear D J V aB;simp;refine au Pv.Ao rfl ?_;have Q:h.l.length=8:=rfl;simp[mg,Q];refine bx 64 (fun k m l=>m 2=.ptr 0 0 8/\m 4=.ptr 1 0 8/\m 5=.Z 1 (I+2) 0 64 cap W/\m 10=b4 1 ec (some b5)/\m 11=.ptr (rest.length+2) 0 8/\m 12=.i6 k/\l=.q 8 (h.l.map bh) ::.q 8 o::(rest++[.q 8 ((ka h b k).l.map bh)])) ?_ ?_
     ·rintro k m l hk ⟨u,C,K,a5,ah,a6,rfl⟩;obtain⟨m,rfl⟩:=m0 u C K a5 ah a6;clear u C K a5 ah a6;have bS:=aX H;have aj:∀ x:ao,(rest++[x])[I]?=some (.q W cs):=fun x=>by rw[aU bS];exact H
      by_cases aQ:(k:Int)<64
      ·have aS:k<64:=F;have aZ:IntKind.i64.wrap ((k:Int)+1)=(k+1:Nat):=wrap_i64 F F;have bj:b5[k]?=some (b5.getD k 0#32):=by rw[gx,bK (show k<b5.length from aS)];rfl
       have ak:=T k ((eC b).getD k 0#32) (by rw[gx,bK F];rfl);rw[J3 h b k aS];obtain⟨wk,S⟩:∃ wk,(eC b).getD k 0#32=wk:=⟨_,rfl⟩
       obtain⟨mL,bX⟩:∃ mL,b5.getD k 0#32=mL:=⟨_,rfl⟩
       obtain⟨s,b2⟩:∃ s,ka h b k=s:=⟨_,rfl⟩
       rw[S] at ak ⊢;rw[bX] at bj ⊢;rw[b2];have ci:bO (.Z 1) (b4 1 ec (some b5)) (.i6 k)=some (.b7 (ec mL) 0):=by rw[oD];simp[bj]
       have t6:=o0 s.e 6 F F;have t11:=o0 s.e 11 F F;have t25:=o0 s.e 25 F F;have t2:=o0 s.a 2 F F;have t13:=o0 s.a 13 F F;have t22:=o0 s.a 22 F F;simp at t6 t11 t25 t2 t13 t22;have b3:s.l=[s.a,s.b,s.c,s.d,s.e,s.f,s.g,s.h]:=rfl;have cx:(round s mL wk).l=[(round s mL wk).a,(round s mL wk).b,(round s mL wk).c,(round s mL wk).d,(round s mL wk).e,(round s mL wk).f,(round s mL wk).g,(round s mL wk).h]:=rfl;simp[aQ,b3,ci,ec,aj,ak];refine au t6 rfl ?_;simp[aj,ak];refine au t11 rfl ?_;simp[aj,ak];refine au t25 rfl ?_;simp[aj,ak];refine au t2 rfl ?_;simp;refine au t13 rfl ?_;simp;refine au t22 rfl ?_;simp[mg,aS,aZ];rfl
      ·have G:k=64:=F;subst G;rw[J2];obtain⟨v,J⟩:∃ v,rounds h b5 (eC b)=v:=⟨_,rfl⟩
       rw[J];have bL:grind h b=⟨h.a+v.a,h.b+v.b,h.c+v.c,h.d+v.d,h.e+v.e,h.f+v.f,h.g+v.g,h.h+v.h⟩:=by unfold grind;rw[J]
       have aC:h.l.length=v.l.length:=rfl;have Q:h.l.length=8:=rfl;have bJ:(grind h b).l=g7 h.l v.l 8:=by rw[bL];rfl
       rw[bJ];simp;refine bx 8 (fun k m l=>m 2=.ptr 0 0 8/\m 4=.ptr 1 0 8/\m 11=.ptr (rest.length+2) 0 8/\m 21=.i6 k/\l=.q 8 ((g7 h.l v.l k).map bh) ::.q 8 o::(rest++[.q 8 (v.l.map bh)])) ?_ ?_
       ·rintro k m l hk ⟨u,C,ah,a7,rfl⟩;obtain⟨m,rfl⟩:=eO u C ah a7;clear u C ah a7;by_cases bV:(k:Int)<8
        ·have ai:k<8:=F;have aZ:IntKind.i64.wrap ((k:Int)+1)=(k+1:Nat):=wrap_i64 F F;obtain⟨y,am⟩:∃ y,v.l[k]?=some y:=⟨_,bK (show k<v.l.length from ai)⟩
         obtain⟨z,br⟩:∃ z,h.l[k]?=some z:=⟨_,bK (show k<h.l.length from ai)⟩
         have P:=FH aC (k:=k) (by rw[Q];exact ai);rw[br] at P;have az:=Bj aC k;have aV:=mh bh (g7 h.l v.l k) k (z+y) (by rw[az,Q];exact ai);rw[FI aC br am] at aV;have bi:(List.map bh (g7 h.l v.l k))[k]?=some (bh z):=by rw[b1,P];rfl
         have bU:k<=7:=F;obtain⟨A,O⟩:=al ((g7 h.l v.l k).map bh);have ay:A.length=8:=by rw[O,cg,az,Q]
         rw[<-O] at bi aV ⊢;obtain⟨ct,bM⟩:=aK.1 bi;simp[bV,ai,aZ,bM,am,aV,ay,bU]
        ·have G:k=8:=F;subst G;have az:=Bj aC 8;have b9:∀ A:ag,A.length=8->A.take 8=A:=fun A O=>aH F
         obtain⟨A,O⟩:=al ((g7 h.l v.l 8).map bh);have ay:A.length=8:=by rw[O,cg,az,Q]
         have bF:aq A=true:=by rw[O];exact jw bh (fun _=>rfl) _
         rw[<-O];simp[mg,ap,ay,b9 A ay];exact aR rfl (by simp[U.ar,bF])
       ·simp[FJ]
     ·simp[J4];exact aH (by simp[Q])
   ·refine⟨rfl,rfl,rfl,v,j,o,rest,rfl,bn,bR,b0,rfl,ap⟩
 ·simp;exact⟨0,.nil 0⟩
end cu
end Go.bl

/-
  The canonical machine: slices.SortFunc on a row of one's own.
-/
import Derived.Test.YtdjbnhgdhambnaaGreatDoorXe
import Derived.Lib.AppendZerosOnto
import Derived.ProofKit
import Derived.Test.YtdjbnhgdhambnaaGreatDoorRows
set_option maxHeartbeats 16000000
set_option maxRecDepth 100000
set_option linter.unusedVariables false
set_option linter.unusedSimpArgs false
set_option linter.unnecessarySimpa false
namespace Go.bf
open Go Go.Proofs Go.Proofs.Tryz Go.Shelf Go.Sort Go.RowKit
def AE (P:bg) (f g:cb) (k:Nat) {X:Type} [Inhabited X] (dz:X->List aB) (o:X->X->Int) :Prop:=
 ∀ (h j cap:Nat) (d:Array X) (w:aO),CmpLays P g #[] dz k o h j d.size w->HoldsK dz k w h j d->h<w.heap.size->d.size<4611686018427387904->
  Calls P f #[.slice (some ⟨h,j,none⟩) d.size cap,.func (.func g) #[] #[]] w fun e w'=>e=.returned (.tuple #[])/\∃ m n p,PermIn 0 d.size d m/\SortedIn (ltOf o) 0 d.size m/\w'=sortWorldK dz k w h j n m p
def sorted {X:Type} (g:X->X->Int) (xs:List X) :List X:=xs.mergeSort fun x y=>!ltOf g y x
theorem KM {X:Type} (g:X->X->Int) (xs:List X) :(sorted g xs).length=xs.length:=List.length_mergeSort _
section
variable {P:bg} {G:Nat->U} {X:Type} {enc:X->ag} {k:Nat}
theorem wO (hk:∀ x,(enc x).length=k) (xs:List X) {j:Nat} (o:j<xs.length*k) :∃ x c,xs[j / k]?=some x/\(enc x)[j % k]?=some c/\((xs.map enc).flatten)[j]?=some c:=by
 have t:0<k:=Nat.pos_of_ne_zero fun h=>by subst h;simp at o
 have h1:j / k<xs.length:=Nat.div_lt_of_lt_mul (by rw[xy];exact o);have g:j % k<k:=iG _ t;refine⟨xs[j / k],(enc xs[j / k])[j % k]'(by rw[hk];exact g),bC h1,bC _,?_⟩;have p:(xs.map enc)[j / k]?=some (enc xs[j / k]):=by rw[bX,bC h1];rfl
 have m:=lx (z:=k) (fun e q=>by obtain⟨x,_,rfl⟩:=cF.1 q;exact hk x) p g;rw[xy,Nat.div_add_mod] at m;rw[m];exact bC _
theorem G4 [Inhabited X] (hk:∀ x,(enc x).length=k) (xs:List X) {j:Nat} (h:j<xs.length*k) {c:U} (g:((xs.map enc).flatten)[j]?=some c) :(flatK (fun x=>(enc x).map valOf) k xs.toArray)[j]! = valOf c:=by
 obtain⟨x,v,h1,m,o⟩:=wO hk xs h;rw[o] at g;cases g;rw[get_flatK _ _ _ _ (by simpa using h)];have p:xs.toArray[j / k]! = x:=by
  have u:=(aH.1 h1).1;rw[getElem!_pos _ _ (by simpa using u)];simpa using (aH.1 h1).2
 rw[p];obtain⟨q,t⟩:=aH.1 m;rw[getElem!_pos _ _ (by simpa using q)];simp[t]
theorem Wn [Inhabited X] {f g b off len cap sz:Nat} {cs:ag} {xs:List X} {h:aE} (z:X->X->Int) (a6:AE P f g k (fun x=>(enc x).map valOf) z) (a7:SWO (ltOf z)) (bd:∀ x y,ltOf z x y=false->ltOf z y x=false->x=y)
  (hk:∀ x,(enc x).length=k) (ax:∀ x,∀ c∈enc x,uc c=true) (bk:∀ x y,hW P G g [.ah (enc x),.ah (enc y)] (.int .i64 (z x y)))
  (Q:h.f b=.cells sz cs) (C:xs.length=len) (h1:0<len) (a4:len<4611686018427387904) (bl:(cs.drop off).take (len*k)=(xs.map enc).flatten) (bV:off+len*k<=sz) :
  jq P G f [.ad k b off len cap sz,.fn g [] []] h (.aZ []) (h.set b (.cells sz (aw cs off ((sorted z xs).map enc).flatten))):=by
 intro ao B w muZ bJ rel aC bt aT;obtain⟨bI⟩:=bJ
 match bI,bt with
 | [bG,bH],_=>
 have bz:=aT 0 _ bG rfl rfl;have bA:=aT 1 _ bH rfl rfl;have bx:¬ p0 h b sz:=by
  rintro (H | ⟨n,aY,H,bQ⟩)
  ·rw[Q] at H;cases H
  ·rw[Q] at H;cases H;omega
 cases bA with
 | fn _ _ _ a3 a0 bp bh _ _=>
 have br:a3=#[]:=z2 bp;have bm:a0=#[]:=z2 bh;subst br bm;cases bz with
 | e9 _ _ _ _ _ _ _ _ _ _ bs=>exact bK bs bx
 | gh=>omega
 | ad _ _ _ _ _ _ aX aY o aG ai bW bY bS=>
 rw[Q] at aG;cases aG;have hblk:=rel.blk b o ai;rw[Q] at hblk;obtain⟨bT,bq,arr,e,bP,al,bb,aL,U⟩:=hblk;have aS:live (h.f b)=true:=by rw[Q];rfl
 have bv:Own h muZ o.r:=⟨b,o,aS,ai,rfl⟩
 have bu:=rel.lt aS ai;have aR:∀ m,m<len*k->∃ c,((xs.map enc).flatten)[m]?=some c/\cs[off+m]?=some c/\uc c=true:=by
  intro m p;obtain⟨x,c,aq,J,K⟩:=wO hk xs (by rw[C];exact p);refine⟨c,K,?_,ax x c (cz J)⟩;rw[<-bl,dG p,gn] at K;exact K
 have hH:HoldsK (fun x=>(enc x).map valOf) k w o.r (o.s+off) xs.toArray:=by
  intro m p;rw[size_flatK] at p;have aN:m<len*k:=by simpa [C] using p
  obtain⟨c,aq,J,K⟩:=aR m aN;obtain⟨v,D,S,O⟩:=U (off+m) c J;have ae:o.s+off+m<arr.size:=by
   have:=(hT.1 D).1;omega
  constructor
  ·simp only[World.cell?,al,rh];rw[G4 hk xs (by rw[C];exact aN) aq,<-XE K O,iE];exact D
  ·simp only[World.frozen?,al];rcases aL with H | H
   ·subst H;simp
   ·simp;intro ar;omega
 have bi:CmpLays P g #[] (fun x=>(enc x).map valOf) k z o.r (o.s+off) xs.toArray.size w:=by
  intro n os a1 bU x y;obtain⟨W,aD⟩:∃ W,W=sortWorldK (fun x=>(enc x).map valOf) k w o.r (o.s+off) n a1 os:=⟨_,rfl⟩
  have bc:∀ i,i≠o.r->i<w.heap.size->W.heap[i]?=w.heap[i]?:=by
   intro i u ae;rw[aD];show (((w.heap.modify o.r _)++os))[i]?=_;rw[oB (by simpa using ae),z7,ak (fun h=>u h.symm)]
  rw[<-aD];have a5:∀ i,(ao i/\¬ Own h muZ i)->i<w.heap.size->W.heap[i]?=w.heap[i]?:=fun i u ae=>bc i (fun bo=>u.2 (by rw[bo];exact bv)) ae
  have bC:=bk x y W (fun i=>ao i/\¬ Own h muZ i) #[.agg ((enc x).map valOf).toArray,.agg ((enc y).map valOf).toArray] (fun aB=>XD a5 (m3 (aC aB).2 (aC aB).1)) rfl (fun m c v p Z=>by
   have one:∀ am:X,c5 W (fun i=>ao i/\¬ Own h muZ i) (.ah (enc am)) (.agg ((enc am).map valOf).toArray):=fun am=>by
    refine .ah _ _ V (fun i v u=>?_) (fun i c v u aM=>?_)
    ·simp only[uS,bX,ES] at u;obtain⟨c,_,rfl⟩:=u;exact Ef c
    ·simp only[uS,bX,ES] at aM;obtain⟨bL,ar,rfl⟩:=aM;rw[u] at ar;cases ar;exact Jg (ax am c (cz u))
   match m with
   | 0=>simp at p Z;subst p Z;exact one x
   | 1=>simp at p Z;subst p Z;exact one y
   | m+2=>simp at p)
  refine bC.mono ?_;rintro e w' ⟨v,rfl,bg,bw⟩;obtain⟨q,bE,rfl⟩:=N3 bg;cases bw;exact⟨rfl,q,bE,rfl⟩
 have aH:=a6 o.r (o.s+off) aX xs.toArray w bi hH bu (by simpa [C] using a4);have bZ:((xs.toArray.size:Nat) :Int)=(len:Int):=by simp[C]
 rw[show (xs.toArray.size)=len by simp[C]] at aH;refine aH.mono ?_;rintro bN w' ⟨rfl,ap,n,os,a8,a9,rfl⟩;have aJ:ap.toList=sorted z xs:=by
  have:=sorted_unique_holds a7 bd xs.toArray ap (by simpa [C] using a8) (by simpa [C] using a9);simpa [sorted] using this
 obtain⟨t,aU⟩:∃ t,t=sorted z xs:=⟨_,rfl⟩
 rw[<-aU] at aJ ⊢;have T:t.length=len:=by rw[aU,KM,C]
 have bn:ap=t.toArray:=by rw[<-aJ]
 subst bn;have aK:((t.map enc).flatten).length=len*k:=by
  have:∀ l:List X,((l.map enc).flatten).length=l.length*k:=fun l=>by
   induction l with
   | nil=>simp
   | cons a l bB=>simp only[dh,gR,cg,bB,hk,du];rw[ec];omega
  rw[this,T]
 obtain⟨R,I⟩:∃ R,R=putRowK (fun x=>(enc x).map valOf) k (Sort.ahead w n) o.r (o.s+off) t.toArray:=⟨_,rfl⟩
 have au:R.heap=w.heap.modify o.r (onCells (putCells id (o.s+off) (flatK (fun x=>(enc x).map valOf) k t.toArray))):=by rw[I];rfl
 have aI:off<=cs.length:=F;obtain⟨az,bF⟩:=rel.write (w':=R) (sz':=sz) (cs':=aw cs off ((t.map enc).flatten)) (arr':=putCells id (o.s+off) (flatK (fun x=>(enc x).map valOf) k t.toArray) arr) Q ai al bb aL (by rw[I];rfl) (by rw[I];rfl) (by rw[I];rfl) (by rw[au];simp)
  (by rw[au,z7,aj rfl,al];rfl) (fun i u=>by rw[au,z7,ak (fun h=>u h.symm)]) (by simp[putCells])
  (by rw[ou aI,aK];omega) (aF _) bq (fun m c p=>by
   rw[DK aI,aK] at p;have Y:(putCells id (o.s+off) (flatK (fun x=>(enc x).map valOf) k t.toArray) arr)[o.s+m]?=(arr[o.s+m]?).map fun x=>if o.s+off<=o.s+m/\o.s+m<o.s+off+(flatK (fun x=>(enc x).map valOf) k t.toArray).size then (flatK (fun x=>(enc x).map valOf) k t.toArray)[o.s+m - (o.s+off)]! else x:=by
    unfold putCells;rw[Array.getElem?_mapIdx];rfl
   rw[size_flatK] at Y;by_cases aP:m<off
   ·rw[aj aP] at p;obtain⟨v,D,S,O⟩:=U m c p;refine⟨v,?_,S,O⟩;rw[Y,D,cu,ak F]
   ·rw[ak aP] at p;by_cases aQ:m<off+len*k
    ·rw[aj aQ] at p;have av:m - off<len*k:=F;obtain⟨aW,aq,J,K⟩:=aR (m - off) av;rw[show off+(m - off)=m by omega] at J;obtain⟨v,D,S,O⟩:=U m aW J;obtain⟨x,bM,bO,a2,ay⟩:=wO hk t (j:=m - off) (by rw[T];exact av);rw[ay] at p;cases p;refine⟨valOf c,?_,Ef c,Jg (ax x c (cz a2))⟩;rw[Y,D,cu,aj (by simp[T];omega),show o.s+m - (o.s+off)=m - off by omega,G4 hk t (by rw[T];exact av) ay]
    ·rw[ak aQ] at p;obtain⟨v,D,S,O⟩:=U m c p;refine⟨v,?_,S,O⟩;rw[Y,D,cu,ak (by simp[T];omega)]) (by rw[I];exact Nat.le_add_right _ _)
 have bf:eo R (grow R os):=⟨⟨rfl,rfl,rfl,by simp[grow],fun i u=>by simp only[grow];rw[oB u]⟩,aF _⟩
 obtain⟨aA,aV⟩:=py bF bf;refine⟨_,muZ,rfl,?_,?_,.aZ [] #[] rfl (fun m c v p _=>by simp at p)⟩
 ·rw[I] at az aA;exact az.trans aA
 ·rw[I] at aV;exact aV
end
section
variable {P:bg} {G:Nat->U} {X:Type} {enc:X->ag} {k:Nat}
theorem Kl {k:Nat}:∀ {es:List (ag)},(∀ e∈es,e.length=k)->es.flatten.length=es.length*k
 | [],_=>V
 | e::es,h=>by
  rw[gR,cg,h e V,Kl (fun x g=>h x (by simp[g])),du,ec];omega
theorem Wm [Inhabited X] {f g:Nat} (m:X->X->Int) (S:AE P f g k (fun x=>(enc x).map valOf) m) (T:SWO (ltOf m)) (W:∀ x y,ltOf m x y=false->ltOf m y x=false->x=y)
  (hk:∀ x,(enc x).length=k) (ao:∀ x,∀ c∈enc x,uc c=true) (ag:∀ x y,hW P G g [.ah (enc x),.ah (enc y)] (.int .i64 (m x y)))
  {l:ae} {v:U} {j:Nat} {xs:List X} (q:gK k l v j (xs.map enc)) (R:xs.length<4611686018427387904) {K:U->ae->Prop}
  (Q:xs=[]->fP P G f [v,.fn g [] []] l (c:=⟨K⟩))
  (t:∀ l',l'.length=l.length->(∀ b,b≠j->l'[b]?=l[b]?)->gK k l' v j ((sorted m xs).map enc)->K (.aZ []) l') :fP P G f [v,.fn g [] []] l (c:=⟨K⟩):=by
 cases xs with
 | nil=>exact Q rfl
 | cons x xs=>
 obtain⟨o,J⟩:∃ o,o=x::xs:=⟨_,rfl⟩
 rw[<-J] at q R t;have C:0<o.length:=by rw[J];simp
 generalize p:o.map enc=O at q;cases q with
 | nil j=>rw[nD] at p;rw[p] at C;simp at C
 | ad j off n cap ap cs O u aq am au w Z ai=>
 subst p;have B:o.length=n:=by simpa using am
 have ar:n*k<=cap*k:=cj _ w;have z:j<l.length:=(aH.1 u).1;have H:=Wn (P:=P) (G:=G) (cap:=cap) m S T W hk ao ag (h:=aU l) (hq.2 u) B F F ai F;rw[ma _ z] at H;refine⟨_,_,.ext H,V,?_⟩;have I:((sorted m o).map enc).length=n:=by rw[cC,KM,B]
 have D:∀ e∈(sorted m o).map enc,e.length=k:=fun e ak=>by obtain⟨x,_,rfl⟩:=cF.1 ak;exact hk x
 have al:(((sorted m o).map enc).flatten).length=n*k:=by rw[Kl D,I]
 have aj:off<=cs.length:=F;refine t _ V (fun b Y=>by rw[bp (fun h=>Y h.symm)]) ?_;refine .ad j off n cap ap _ _ (bT z) (by rw[ou aj,al];omega) I D w Z ?_;unfold aw;have h1:(List.take off cs).length=off:=by rw[cI];omega
 rw[fc,nB F,pS F,im,hU F,aI F]
end
end Go.bf
namespace Go.bf
open Go
section
variable {P:bg} {l:ae} {cf:aT->U}
@[simp ↓] theorem aa8 (g:aC) (zero:U) (h:Bool) (m k:aT) :bG P cf l (.v6 g zero h m k)=dg l (v7 P l g zero h (cf m) (cf k)):=id rfl
@[simp ↓] theorem abe (g:aC) (m k x:aT) :bG P cf l (.tS g m k x)=(r0 P l g (cf m) (cf k) (cf x)).map fun l'=>(fz,l'):=id rfl
@[simp ↓] theorem abj (x:aT) :bG P cf l (.uo x)=wK l (cf x):=id rfl
@[simp ↓] theorem abh (x:aT) :bG P cf l (.tW x)=cL l (cf x):=id rfl
@[simp ↓] theorem aav (x:Option aT) (v:U) (K:U->ae->Prop) :eg (.tQ x) v l K=K v l:=id rfl
@[simp ↓] theorem aas (g:aC) (zero:U) (h:Bool) (m k:aT) (v:U) (K:U->ae->Prop) :eg (.v6 g zero h m k) v l K=K v l:=id rfl
@[simp ↓] theorem aax (g:aC) (m k x:aT) (v:U) (K:U->ae->Prop) :eg (.tS g m k x) v l K=K v l:=id rfl
@[simp ↓] theorem aaC (x:aT) (v:U) (K:U->ae->Prop) :eg (.uo x) v l K=K v l:=id rfl
@[simp ↓] theorem aaA (x:aT) (v:U) (K:U->ae->Prop) :eg (.tW x) v l K=K v l:=id rfl
end
section
variable {z:Nat} {l l' : ae} {v:U} {j:Nat} {es:List (ag)}
theorem i3 (h:aJ z l v j es) {by_:Nat} {x:U} {xs:List (ag)} (J:cD l z x=some (xs.flatten,xs.length)) (K:∀ e∈xs,e.length=z) (G:z≠0) (H:by_≠0) (I:(es.length+xs.length)*by_<=db) :
  ∃ m o l',ep l z by_ v x=some (m,l')/\aJ z l' m o (es++xs)/\l.length<=l'.length/\(∀ b,b<l.length->v=.af\/b≠j->l'[b]?=l[b]?)/\(l.length<=o\/(v≠.af/\o=j)\/m=.af)/\bq m=(bq v&&xs.isEmpty):=by
 by_cases C:v=.af
 ·subst C;have O:es=[]:=h.q.pn;subst O;obtain⟨m,o,D,h1,p,t,u,g,w⟩:=lp (.nil (z:=z) (l:=l) (l.length+1)) J K G H I;refine⟨m,o,D,h1,p,t,fun b B _=>u b B F,?_,qs w⟩;rcases g with g | g
  ·exact .inl F
  ·exact .inl g
 ·obtain⟨m,o,D,h1,p,t,u,g,w⟩:=lp h J K G H I;refine⟨m,o,D,h1,p,t,fun b B P=>u b B (P.resolve_left C),?_,qs w⟩;rcases g with g | g
  ·exact .inr (.inl ⟨C,g⟩)
  ·exact .inl g
theorem bY.yj {K:U->ae->Prop} (h:aJ z l v j es) (J:bq v=false) (w:K (.bj z es) (l.set j .dead)) :bY v l (c:=⟨K⟩):=by
 cases h with
 | nil j=>cases J
 | ad j n cap t cs es g R I o C P D=>
 have H:=aY g;have q:(aU (l.set j .dead)).f j=.dead:=by rw[js,nC,aj rfl,aj H]
 have S:n*z<=cap*z:=cj _ C;refine .inr ⟨_,_,⟨V,fun u=>?_⟩,.ad z j 0 n cap t cs es (hq.2 g) q I o F (fun i k e c O m hk p=>?_),w⟩
 ·by_cases B:u=j
  ·subst B;exact .inr ⟨t,cs,hq.2 g,.inl q⟩
  ·left;rw[js,js,nC,ak F]
 ·have G:k<z:=by rw[<-o e (cz m)];exact (aH.1 hk).1
  have Q:=(aH.1 m).1;have T:i*z+z<=n*z:=by rw[<-ec];exact cj _ F
  have h1:=lx o m G;rw[<-D,dG F,hk] at h1;rw[gT,h1] at p;cases p;exact .same _
end
inductive j0 where
 | b
 | i (k:cQ)
 | s
def w4:j0->U->Bool
 | .b,.bool _=>true
 | .i k,.int g _=>decide (k=g)
 | .s,.str _=>true
 | _,_=>false
def gv:List j0->ag->Bool
 | [],[]=>true
 | k::bZ,c::cs=>w4 k c&&gv bZ cs
 | _,_=>false
theorem ws:∀ {bZ:List j0} {cs:ag},gv bZ cs=true->cs.length=bZ.length
 | [],[],_=>rfl
 | [],_::_,h=>by cases h
 | _::_,[],h=>by cases h
 | k::bZ,c::cs,h=>by simp only[gv,bN] at h;simp[ws h.2]
theorem wu:∀ {l r:List j0} {m:ag},gv (l++r) m=true->∃ g j,m=g++j/\gv l g=true/\gv r j=true
 | [],r,m,h=>⟨[],m,rfl,rfl,h⟩
 | k::l,r,[],h=>by cases h
 | k::l,r,c::m,h=>by
  simp only[jo,gv,bN] at h;obtain⟨g,j,rfl,h1,o⟩:=wu h.2;exact⟨c::g,j,rfl,by simp[gv,h.1,h1],o⟩
theorem IR {k:cQ} {xs:ag} (h:gv [.i k] xs=true) :∃ p,xs=[.int k p]:=by
 cases xs with
 | nil=>cases h
 | cons c r=>
  simp only[gv,bN] at h;cases r with
  | cons _ _=>cases h.2
  | nil=>
   cases c<;>simp only[w4] at h<;>try (cases h.1;done)
   rename_i k' p;have hk:k=k':=by simpa using h.1
   subst hk;exact⟨p,rfl⟩
theorem AU:∀ {g j m o:ag},g.length=j.length->dn (g++m) (j++o)=(dn g j&&dn m o)
 | [],[],_,_,_=>by simp[dn]
 | [],_::_,_,_,h=>by simp at h
 | _::_,[],_,_,h=>by simp at h
 | a::g,b::j,m,o,h=>by
  simp only[du,Nat.add_right_cancel_iff] at h;simp only[jo,dn,AU h,Er]
section
variable (P:bg)
def yC (f:aC->Option (List j0)) :List Field->Nat->Option (List j0)
 | [],_=>some []
 | fd::j,g=>match f fd.type,b3 P fd.type with
  | some l,some h=>match fd.name != "_"&&Nat.beq fd.offset g&&Nat.beq l.length h with
   | true=>match yC f j (g+h) with
    | some r=>some (l++r)
    | none=>none
   | false=>none
  | _,_=>none
def my:Nat->aC->Option (List j0)
 | 0,_=>none
 | d+1,g=>match P.underlying g with
  | some .bool=>some [.b]
  | some (.int k)=>some [.i k]
  | some .string=>some [.s]
  | some (.array n e)=>match my d e,b3 P e with
   | some l,some j=>match Nat.beq l.length j with
    | true=>some (List.replicate n l).flatten
    | false=>none
   | _,_=>none
  | some (.struct h)=>match P.stoodInHeld g with
   | false=>yC P (my d) h.toList 0
   | true=>none
  | _=>none
def iK (t:aC) (l:ag) :Option U:=match ds P t with
 | some true=>some (.ah l)
 | some false=>l[0]?
 | none=>none
end
variable {P:bg}
theorem y7 {t:aC} {z:Nat} (m:b3 P t=some z) {pre mid post:ag} (o:mid.length=z) (j:ds P t=some false->mid.length=1) :gg P t (pre++(mid++post)) pre.length=iK P t mid:=by
 unfold gg iK;rw[m];cases h:ds P t with
 | none=>rfl
 | some g=>
  cases g with
  | true=>
   simp only;rw[aj (by simp;omega),xl,hU F,aI F]
  | false=>
   have:=j h;simp only;rw[ej F,sZ,aS F]
def EqAt (P:bg) (f:aC->Option (List j0)) (eq:aC->U->U->Option Bool) :Prop:=
 ∀ g bZ,f g=some bZ->(ds P g=some false->bZ.length=1)/\∀ h j,gv bZ h=true->gv bZ j=true->∃ a b,iK P g h=some a/\iK P g j=some b/\eq g a b=some (dn h j)
theorem GJ {f:aC->Option (List j0)} {eq:aC->U->U->Option Bool} (G:EqAt P f eq) :∀ (fs:List Field) (o:Nat) (bZ:List j0),yC P f fs o=some bZ->∀ (m p g j:ag),m.length=o->p.length=o->gv bZ g=true->gv bZ j=true->
  dA.eqFields P eq (m++g) (p++j) fs=some (dn g j)
 | [],o,bZ,h,m,p,g,j,H,I,v,w=>by
  cases h;cases g with
  | nil=>cases j with | nil=>rfl | cons _ _=>cases w
  | cons _ _=>cases v
 | fd::fs,o,bZ,h,m,p,g,j,H,I,v,w=>by
  unfold yC at h;split at h
  ·rename_i l z Y J;split at h
   ·rename_i q;simp only[bN,bne_iff_ne,ne_eq] at q;split at h
    ·rename_i r ae;cases h;obtain⟨t,O,rfl,B,R⟩:=wu v;obtain⟨u,Q,rfl,C,S⟩:=wu w;have Z:fd.offset=o:=l7 q.1.2;have al:l.length=z:=l7 q.2;obtain⟨D,X⟩:=G _ _ Y;obtain⟨a,b,T,W,V⟩:=X t u B C;have ai:=ws B;have aj:=ws C;unfold dA.eqFields;rw[ak q.1.1,Z];rw[show gg P fd.type (m++(t++O)) o=some a by rw[<-H,y7 J F (fun h=>by rw[ai];exact D h)];exact T];rw[show gg P fd.type (p++(u++Q)) o=some b by rw[<-I,y7 J F (fun h=>by rw[aj];exact D h)];exact W];simp only[V];rw[AU F];have K:=GJ G fs (o+z) r ae (m++t) (p++u) O Q (by simp;omega) (by simp;omega) R S;rw[fc,fc] at K;cases dn t u with
     | true=>simpa using K
     | false=>simp
    ·cases h
   ·cases h
  ·cases h
theorem GI {eq:aC->U->U->Option Bool} {e:aC} {l:List j0} {z:Nat} (w:b3 P e=some z) (W:l.length=z) (v:ds P e=some false->l.length=1)
  (G:∀ xs B,gv l xs=true->gv l B=true->∃ a b,iK P e xs=some a/\iK P e B=some b/\eq e a b=some (dn xs B)) :∀ (n i:Nat) (m o g j:ag),m.length=i*z->o.length=i*z->gv (List.replicate n l).flatten g=true->gv (List.replicate n l).flatten j=true->
  dA.n0 P eq e z (m++g) (o++j) n i=some (dn g j)
 | 0,i,m,o,g,j,H,I,p,q=>by
  simp only[List.replicate_zero,List.flatten_nil] at p q;cases g with
  | nil=>cases j with | nil=>rfl | cons _ _=>cases q
  | cons _ _=>cases p
 | n+1,i,m,o,g,j,H,I,p,q=>by
  rw[jV,gR] at p q;obtain⟨t,K,rfl,C,Q⟩:=wu p;obtain⟨u,O,rfl,D,R⟩:=wu q;obtain⟨a,b,S,V,T⟩:=G t u C D;have X:=ws C;have Y:=ws D;unfold dA.n0;rw[show gg P e (m++(t++K)) (i*z)=some a by rw[<-H,y7 w F (fun h=>by rw[X];exact v h)];exact S];rw[show gg P e (o++(u++O)) (i*z)=some b by rw[<-I,y7 w F (fun h=>by rw[Y];exact v h)];exact V];simp only[T];rw[AU F];have J:=GI w W v G n (i+1) (m++t) (o++u) K O (by simp[ec];omega) (by simp[ec];omega) Q R;rw[fc,fc] at J;cases dn t u with
  | true=>simpa using J
  | false=>simp
theorem Bv:∀ (d D:Nat),d<=D->EqAt P (my P d) (dA P D)
 | 0,D,_,v,bZ,h=>by cases h
 | d+1,0,H,v,bZ,h=>F
 | d+1,D+1,H,v,bZ,h=>by
  have z:=Bv d D F;unfold my at h;split at h
  ·rename_i j;have g:ds P v=some false:=by unfold ds;rw[j];rfl
   cases h;refine⟨fun _=>rfl,fun m o p t=>?_⟩
   match m,o,p,t with
   | [.bool u],[.bool q],_,_=>
    refine⟨.bool u,.bool q,by simp[iK,g],by simp[iK,g],?_⟩;unfold dA;rw[j];cases u<;>cases q<;>rfl
  ·rename_i k j;have g:ds P v=some false:=by unfold ds;rw[j];rfl
   cases h;refine⟨fun _=>rfl,fun m o p t=>?_⟩;obtain⟨u,rfl⟩:=IR p;obtain⟨q,rfl⟩:=IR t
   ·refine⟨.int k u,.int k q,by simp[iK,g],by simp[iK,g],?_⟩;unfold dA;rw[j];by_cases h:u=q<;>simp[dn,U.beq,h]
  ·rename_i j;have g:ds P v=some false:=by unfold ds;rw[j];rfl
   cases h;refine⟨fun _=>rfl,fun m o p t=>?_⟩
   match m,o,p,t with
   | [.str u],[.str q],_,_=>
    refine⟨.str u,.str q,by simp[iK,g],by simp[iK,g],?_⟩;unfold dA;rw[j];by_cases h:u=q<;>simp[dn,U.beq,h]
  ·rename_i n e j;have g:ds P v=some true:=by unfold ds;rw[j];rfl
   split at h
   ·rename_i l O I w;split at h
    ·rename_i J;cases h;obtain⟨C,G⟩:=z _ _ I;refine⟨fun h=>(by rw[g] at h;cases h),fun m o p t=>⟨.ah m,.ah o,by simp[iK,g],by simp[iK,g],?_⟩⟩;unfold dA;rw[j];simp only[w];exact GI w (l7 J) C G n 0 [] [] m o V V p t
    ·cases h
   ·cases h
  ·rename_i B j;have g:ds P v=some true:=by unfold ds;rw[j];rfl
   split at h
   ·rename_i K;refine⟨fun h=>(by rw[g] at h;cases h),fun m o p t=>⟨.ah m,.ah o,by simp[iK,g],by simp[iK,g],?_⟩⟩;unfold dA;rw[j];simp only[K,kA,if_false];exact GJ z B.toList 0 bZ h [] [] m o rfl rfl p t
   ·cases h
  ·cases h
theorem te {t:aC} {bZ:List j0} (hk:my P 20 t=some bZ) (o:ds P t=some true) (p:P.eqGuardType P.depth t=false) {xs g:ag} (q:gv bZ xs=true) (u:gv bZ g=true) :dP P .eql t (.ah xs) (.ah g)=some (.bool (dn xs g)):=by obtain⟨a,b,h,j,m⟩:=(Bv (P:=P) 20 10000 F t bZ hk).2 xs g q u;simp only[iK,o,bc] at h j;subst h;subst j;exact NW p m
theorem AV {t:aC} {bZ:List j0} (hk:my P 20 t=some bZ) (o:ds P t=some true) (p:P.eqGuardType P.depth t=false) {xs g:ag} (q:gv bZ xs=true) (u:gv bZ g=true) :dP P .neq t (.ah xs) (.ah g)=some (.bool (!dn xs g)):=by obtain⟨a,b,h,j,m⟩:=(Bv (P:=P) 20 10000 F t bZ hk).2 xs g q u;simp only[iK,o,bc] at h j;subst h;subst j;exact NY p m
end Go.bf
namespace Go.bf
open Go Go.Proofs Go.Proofs.Tryz Go.Shelf
structure p2 (P:bg) (f:cb) (T m e z:Nat) :Prop where
 sw:P.underlying T=some (.slice e)
 Xm:P.underlying m=some (.int .i64)
 fin:∀ (base:Option Addr) (n c j g h:Nat) (r:aB) (w w' : aO),n<=c->n<=4611686018427387904->(base=none->n=0/\c=0)->
  (Builtin.append_ #[T,T] T #[.slice base n c,.slice (some ⟨g,h,none⟩) 1 j]).run P w=.ok r w'->
  Calls P f #[.slice base n c,.int .i64 n,.slice (some ⟨g,h,none⟩) 1 j] w fun x w2=>x=.returned r/\w2=w'
 shift:∀ (b off n c i g h j:Nat) (q t:aB) (w o p:aO) (B dT:aC) (mv v:Nat),i<n->n+1<=c->n<=4611686018427387904->g≠b->
  w.shape? g=some (B,mv)->w.shape? b=some (dT,v)->v≠0->w.frozen? ⟨g,h,none⟩=false->w.frozen? ⟨g,mv,none⟩=false->
  (Builtin.copy_ #[T,T] m #[.slice (some ⟨b,off+(i+1)*z,none⟩) (n - i) (c - (i+1)),.slice (some ⟨b,off+i*z,none⟩) (n+1 - i) (c - i)]).run P w.drew=.ok q o->
  (Builtin.copy_ #[T,T] m #[.slice (some ⟨b,off+i*z,none⟩) (n+1 - i) (c - i),.slice (some ⟨g,h,none⟩) 1 j]).run P o=.ok t p->
  Calls P f #[.slice (some ⟨b,off,none⟩) n c,.int .i64 i,.slice (some ⟨g,h,none⟩) 1 j] w fun x w2=>x=.returned (.slice (some ⟨b,off,none⟩) (n+1) c)/\w2=p
 grow:∀ (b off n c i g h j N G:Nat) (q t:aB) (w u o p:aO),i<n->n<=c->c<n+1->n+1<=G->n<=4611686018427387904->
  (Builtin.append_ #[T,m] T #[.slice (some ⟨b,off,none⟩) i c,.int .i64 ((n:Int)+1 - (i:Int))]).run P w=.ok (.slice (some ⟨N,0,none⟩) (n+1) G) u->
  (Builtin.copy_ #[T,T] m #[.slice (some ⟨N,i*z,none⟩) (n+1 - i) (G - i),.slice (some ⟨g,h,none⟩) 1 j]).run P u=.ok q o->
  (Builtin.copy_ #[T,T] m #[.slice (some ⟨N,(i+1)*z,none⟩) (n - i) (G - (i+1)),.slice (some ⟨b,off+i*z,none⟩) (n - i) (c - i)]).run P o.drew=.ok t p->
  Calls P f #[.slice (some ⟨b,off,none⟩) n c,.int .i64 i,.slice (some ⟨g,h,none⟩) 1 j] w fun x w2=>x=.returned (.slice (some ⟨N,0,none⟩) (n+1) G)/\w2=p
section
variable {P:bg} {G:Nat->U} {R:Nat->Prop} {B:Nat} {w:aO} {h:aE} {muZ:bU}
theorem yG (rel:bu R B w h muZ) {b sz o n:Nat} {cs:ag} {m:M} (v:h.f b=.cells sz cs) (H:muZ b=some m) (U:o+n<=sz) :
  ∃ vs:List aB,oN w R h muZ ((cs.drop o).take n) vs/\(loadCells ⟨m.r,m.s+o,none⟩ n).run P w=.ok vs.toArray w:=by
 have j:=rel.blk b m H;rw[v] at j;obtain⟨Q,S,arr,e,K,I,O,T,z⟩:=j;have D:((cs.drop o).take n).length=n:=by rw[cI,iX];omega
 obtain⟨vs,p,C⟩:=Dx (P:=P) (w:=w) (R:=R) (h:=h) (muZ:=muZ) (w2:=w) (xs:=(cs.drop o).take n) (blk:=m.r) (o:=m.s+o) (fun _=>rfl) (fun q c g=>by
  have G:q<n:=by have:=(aH.1 g).1;omega
  rw[dG G,gn] at g;obtain⟨J,h1,t,u⟩:=z (o+q) c g;refine⟨J,?_,t,u⟩;simp only[World.cell?,I,rh];rw[iE];exact h1)
 refine⟨vs,p,?_⟩;have:=C n F w (fun _=>rfl)
 rwa [aI (by rw[p.1,D];exact aF _)] at this
theorem x1 (rel:bu R B w h muZ) {t u ty e z:Nat} (G:P.underlying t=some (.slice e)) (H:b3 P e=some z) {b sz k:Nat} {cs:ag} {m:M} (q:h.f b=.cells sz cs) (F:muZ b=some m) (hk:k<=sz)
  {dLen dc sLen sc cnt:Nat} {a:Addr} {xs:ag} {vs:List aB} (v:Nat.min sLen dLen=cnt) (p:xs.length=cnt*z) (D:(loadCells a (cnt*z)).run P w=.ok vs.toArray w)
  (o:oN w R h muZ xs vs) (C:m.s+max sz (k+cnt*z)<=m.T) :
  ∃ w',(Builtin.copy_ #[t,u] ty #[.slice (some ⟨m.r,m.s+k,none⟩) dLen dc,.slice (some a) sLen sc]).run P w=.ok (goInt cnt) w' ∧
   cN w h muZ w' (h.set b (.cells (max sz (k+cnt*z)) (aw cs k xs))) muZ/\bu R B w' (h.set b (.cells (max sz (k+cnt*z)) (aw cs k xs))) muZ:=by obtain⟨w',h1,g,j⟩:=sD (P:=P) rel (cvs:=xs) (vs:=vs) (k:=k) q F hk o.1 (by rw[p];exact C) o.2;rw[p] at g j;refine⟨w',?_,g,j⟩;simp[Builtin.copy_,b5 G,Builtin.lenOf,Builtin.firstCells,ew H,v,D,h1]
theorem J8 {j:aO} {h1:aE} {u:bU} (U:bu R B j h1 u) (H:cN w h muZ j h1 u) {b z n nc ns:Nat} {row:ag} {v:aB} (D:h1.f=bh h.f b (.cells ns row)) (t:h1.n=h.n) (al:ns=nc*z) (Y:0<n) (ae:b<h.n)
  (S:az j R h1 u (.ad z b 0 n nc ns) v) :
  ∃ muZ',cN w h muZ j ((h.set b .dead).push (.cells ns row)) muZ'/\bu R B j ((h.set b .dead).push (.cells ns row)) muZ'/\az j R ((h.set b .dead).push (.cells ns row)) muZ' (.ad z h.n 0 n nc ns) v:=by
 have q:h1.f b=.cells ns row:=by rw[D,fJ]
 cases S with
 | e9 _ _ _ _ _ _ _ _ _ _ g=>
  exfalso;rcases g with g | ⟨am,W,g,ai⟩
  ·rw[q] at g;cases g
  ·rw[q] at g;cases g;omega
 | gh=>omega
 | ad _ _ _ _ _ _ G X p Z P O Q C=>
  have F:=U.J7 (b:=b) (off:=0) (m:=p) (h':=(h.set b .dead).push (.cells ns row)) q P (ek _) (by
   rw[dL,de,hE,D,t];funext x;simp only[bh,uZ,lh];by_cases o:x=h.n
   ·rw[aj o,aj o]
   ·rw[ak o,ak o];split<;>rfl) (by rw[iR,hE,t])
  refine⟨_,H.trans F.1,F.2,?_⟩;rw[t];exact .ad z h.n 0 n nc ns G row ⟨p.r,p.s+0,p.T⟩ (by rw[dL,hE,fJ]) V O Q (by
   rcases C with C | ⟨I,J,K⟩
   ·omega
   ·exact .inr ⟨I,J,by simpa using K⟩)
theorem FB (w:aO) :RowKit.Below w.heap.size w w.drew:=⟨rfl,rfl,rfl,aF _,fun _ _=>rfl⟩
theorem Rl {z i len:Nat} {cs vs:ag} (o:vs.length=z) (m:i<len) (u:len*z<=cs.length) :
  aw (aw cs ((i+1)*z) ((cs.drop (i*z)).take ((len - i)*z))) (i*z) vs=h3 z cs vs i len:=by
 have h1:(i+1)*z=i*z+z:=by rw[ec]
 have p:(i+1)*z<=len*z:=cj _ m;have q:i*z+(len - i)*z=len*z:=by rw[<-eI];congr 1;omega
 have t:(len+1)*z=len*z+z:=by rw[ec]
 have j:((cs.drop (i*z)).take ((len - i)*z)).length=(len - i)*z:=by rw[cI,iX];omega
 have g:(cs.take ((i+1)*z)).length=i*z+z:=by rw[cI];omega
 unfold h3 aw;rw[j,o];have h:(i+1)*z+(len - i)*z=(len+1)*z:=F;rw[h,fc (cs.take ((i+1)*z)),hU (by rw[g];omega),mQ,show min (i*z) ((i+1)*z)=i*z by omega];rw[show i*z+z=(cs.take ((i+1)*z)).length by rw[g],xl];simp only[fc]
theorem Rh {z i len:Nat} {cs vs:ag} (h:vs.length=z) (q:i<len) (w:len*z=cs.length) :
  aw (aw (cs.take (i*z)) (i*z) vs) ((i+1)*z) ((cs.drop (i*z)).take ((len - i)*z))=h3 z cs vs i len:=by
 have h1:(i+1)*z=i*z+z:=by rw[ec]
 have t:(i+1)*z<=len*z:=cj _ q;have u:i*z+(len - i)*z=len*z:=by rw[<-eI];congr 1;omega
 have v:(len+1)*z=len*z+z:=by rw[ec]
 have g:(cs.take (i*z)).length=i*z:=by rw[cI];omega
 have j:aw (cs.take (i*z)) (i*z) vs=cs.take (i*z)++vs:=by
  unfold aw;rw[jS (by rw[g];omega),eb,aI (by rw[g];exact aF _)]
 rw[j];unfold h3 aw;have m:(cs.take (i*z)++vs).take ((i+1)*z)=cs.take (i*z)++vs:=aI (by rw[cg,g,h];omega);have o:∀ k,(cs.take (i*z)++vs).drop ((i+1)*z+k)=[]:=fun k=>jS (by rw[cg,g,h];omega)
 have p:cs.drop ((len+1)*z)=[]:=jS F;rw[m,o,p]
theorem Si (a b z:Nat) :max a b*z=max (a*z) (b*z):=by
 rcases Nat.le_total a b with h | h
 ·rw[Aw h,Aw (cj _ h)]
 ·rw[Av h,Av (cj _ h)]
theorem Ra {j e z by_:Nat} (p:gb P j=some e) (D:b3 P e=some z) (u:gG P e=some by_) (O:0<z) (H:0<by_) (G:l2 P e=some z)
  {b bv len cap:Nat} {cs vs:ag} (q:h.f b=.cells (cap*z) cs) (I:cs.length=cap*z) (t:h.f bv=.cells z vs) (C:vs.length=z) (v:len<=cap) (w:(len+1)*by_<=db) :
  nQ P h j (.ad z b 0 len cap (cap*z)) (.ad z bv 0 1 1 z)=some (.ad z b 0 (len+1) (max cap (len+1)) (max cap (len+1)*z),h.set b (.cells (max cap (len+1)*z) (h3 z cs vs len len))):=by
 have o:(len+1)*z=len*z+z:=by rw[ec]
 have J:len*z<=cap*z:=cj _ v;have m:h3 z cs vs len len=cs.take (len*z)++vs++cs.drop ((len+1)*z):=by simp[h3]
 have B:(vs.drop 0).take (1*z)=vs:=by rw[lh,sY,aI F]
 unfold nQ;rw[p];simp only[D,u,contents,t,and_self,if_true,B];unfold p8;rw[ak F,ak (by rw[G];simp;omega)];simp only[q,true_and,w,if_true];by_cases g:len+1<=cap
 ·have K:(len+1)*z<=cap*z:=cj _ g;rw[aj g,Av g,m];simp only[aw,gT,C,<-o]
 ·obtain rfl:len=cap:=F;rw[ak g,ak F,Aw F,m,jS F,eb]
theorem HL {f T I e z by_:Nat} (L:p2 P f T I e z) (bL:gb P T=some e) (H:b3 P e=some z) (aM:gG P e=some by_) (b8:0<z) (bf:0<by_) (bw:l2 P e=some z)
  {b bv len cap i:Nat} {cs vs:ag} (p:h.f b=.cells (cap*z) cs) (D:h.f bv=.cells z vs) (bq:bv≠b) (cO:i<=len) (bo:len<=cap) (aS:(len+1)*by_<=db) :
  jq P G f [.ad z b 0 len cap (cap*z),.int .i64 i,.ad z bv 0 1 1 z] h (.ad z h.n 0 (len+1) (max cap (len+1)) (max cap (len+1)*z)) ((h.set b .dead).push (.cells (max cap (len+1)*z) (h3 z cs vs i len))):=by
 intro R B w muZ cn rel cv bn aW;obtain⟨cp⟩:=cn
 match cp,bn with
 | [bC,cl,cm],_=>
 have aX:=aW 0 _ bC rfl rfl;have aD:=aW 1 _ cl rfl rfl;have bu:=aW 2 _ cm rfl rfl;have cf:=bu;cases aD;have aK:len<=4611686018427387904:=by
  have:=Nat.le_mul_of_pos_right (len+1) bf;unfold db at aS;omega
 have b6:tV P T:=⟨_,L.sw,fun k hk=>by cases hk⟩
 have cT:=Si cap (len+1) z;have cz:(len+1)*z=len*z+z:=by rw[ec]
 have cQ:len*z<=cap*z:=cj _ bo;cases bu with
 | e9 _ _ _ _ _ _ _ _ _ _ j=>
  exfalso;rcases j with j | ⟨bA,a4,j,ay⟩
  ·rw[D] at j;cases j
  ·rw[D] at j;cases j;omega
 | ad _ _ _ _ _ _ al cV dS cE Z cS cU cK=>
 have bc:=rel.blk bv dS Z;rw[D] at bc;obtain⟨aY,cM,a3,di,cu,aT,cC,bl,cJ⟩:=bc;by_cases bY:i=len
 ·subst bY;have b1:∃ a g,bC=.slice (some a) i g/\i<=g/\cs.length=cap*z/\b<h.n:=by
   cases aX with
   | e9 _ _ _ _ _ _ _ _ _ _ j=>
    exfalso;rcases j with j | ⟨bA,a4,j,ay⟩
    ·rw[p] at j;cases j
    ·rw[p] at j;cases j;omega
   | gh _ _ _ _ a a5 m aq q=>
    have C:=rel.blk b m q;rw[p] at C;exact⟨a,0,rfl,aF _,C.1,rel.j2 q⟩
   | ad _ _ _ _ _ _ g a5 m aq q bn b9 aN=>
    have C:=rel.blk b m q;rw[p] at C;exact⟨_,g,rfl,F,C.1,rel.j2 q⟩
  obtain⟨a,g,rfl,b0,bi,aL⟩:=b1;obtain⟨aE,cq,cW,cd,bV,cc,cg⟩:=AQ (P:=P) (ty:=T) (u:=T) rel b6 (Ra (P:=P) bL H aM b8 bf bw p bi D aY bo aS) aX cf;refine (L.fin (some a) i g al dS.r (dS.s+0) aE w cq b0 aK (fun h=>by cases h) cd).mono ?_;rintro x a1 ⟨rfl,rfl⟩;obtain⟨muZ',h1,aJ,X⟩:=J8 (h:=h) cc bV (b:=b) (row:=h3 z cs vs i i) (ns:=max cap (i+1)*z) (de _ _ _) rfl rfl F aL cg;exact⟨aE,muZ',rfl,h1,aJ,X⟩
 have Y:i<len:=F;have cw:(i+1)*z=i*z+z:=by rw[ec]
 have cx:(i+1)*z<=len*z:=cj _ Y;have cy:i*z+(len - i)*z=len*z:=by rw[<-eI];congr 1;omega
 cases aX with
 | e9 _ _ _ _ _ _ _ _ _ _ j=>
  exfalso;rcases j with j | ⟨bA,a4,j,ay⟩
  ·rw[p] at j;cases j
  ·rw[p] at j;cases j;omega
 | gh=>omega
 | ad _ _ _ _ _ _ g a5 m aq q cP b9 aN=>
 rw[p] at aq;cases aq;have C:=rel.blk b m q;rw[p] at C;obtain⟨bi,cL,arr,bG,ct,cb,cB,cN,cH⟩:=C;obtain⟨bg,au⟩:cap<=g/\m.s+g*z<=m.T:=by
  rcases aN with aN | ⟨cG,bg,au⟩
  ·omega
  ·exact⟨bg,by simpa using au⟩
 have aL:=rel.j2 q;have b4:dS.r≠m.r:=fun bU=>bq (rel.inj bv b dS m (by rw[D];rfl) (by rw[p];rfl) Z q bU)
 have aD:(vs.drop 0).take z=vs:=by rw[lh,aI F]
 have a7:((cs.drop (i*z)).take ((len - i)*z)).length=(len - i)*z:=by rw[cI,iX];omega
 by_cases bk:len+1<=g
 ·have cR:(len+1)*z<=g*z:=cj _ bk;obtain⟨am,K⟩:=Di rel (w':=w.drew) (FB w);obtain⟨ci,aA,aQ⟩:=yG (P:=P) K (o:=i*z) (n:=(len - i)*z) p q F;obtain⟨Q,av,S,O⟩:=x1 (P:=P) (t:=T) (u:=T) (ty:=I) K L.sw H (k:=(i+1)*z) p q F (dLen:=len - i) (dc:=g - (i+1)) (sLen:=len+1 - i) (sc:=g - i) (cnt:=len - i)
   (by simp only[Ax];split<;>omega) a7 aQ aA F
  have aU:max (cap*z) ((i+1)*z+(len - i)*z)=max cap (len+1)*z:=F;rw[aU] at S O;have bM:(h.set b (.cells (max cap (len+1)*z) (aw cs ((i+1)*z) ((cs.drop (i*z)).take ((len - i)*z))))).f b=.cells (max cap (len+1)*z) (aw cs ((i+1)*z) ((cs.drop (i*z)).take ((len - i)*z))):=by rw[de,fJ]
  have bQ:(h.set b (.cells (max cap (len+1)*z) (aw cs ((i+1)*z) ((cs.drop (i*z)).take ((len - i)*z))))).f bv=.cells z vs:=by rw[de,bE _ _ _ _ bq];exact D
  obtain⟨ck,aC,aR⟩:=yG (P:=P) O (o:=0) (n:=z) bQ Z F;rw[aD] at aC;obtain⟨aG,ax,U,ai⟩:=x1 (P:=P) (t:=T) (u:=T) (ty:=I) O L.sw H (k:=i*z) bM q F (dLen:=len+1 - i) (dc:=g - i) (sLen:=1) (sc:=al) (cnt:=1)
   (by simp only[Ax];split<;>omega) F (by rw[sY];exact aR) aC F
  have aV:max (max cap (len+1)*z) (i*z+1*z)=max cap (len+1)*z:=F;rw[aV,Rl aY Y F] at U ai;have bW:w.frozen? ⟨dS.r,dS.s+0,none⟩=false:=by
   simp only[World.frozen?,aT];rcases bl with W | W
   ·subst W;simp
   ·simp;intro X;omega
  have bX:w.frozen? ⟨dS.r,a3.size,none⟩=false:=by
   simp only[World.frozen?,aT];rcases bl with W | W
   ·subst W;simp
   ·simp;intro X;omega
  refine (L.shift m.r m.s len g i dS.r (dS.s+0) al _ _ w Q aG di bG a3.size arr.size Y bk aK b4 (by simp[World.shape?,aT]) (by simp[World.shape?,cb]) F bW bX av ax).mono ?_;rintro x a1 ⟨rfl,rfl⟩;obtain⟨muZ',h1,aJ,X⟩:=J8 (h:=h) ai ((am.trans S).trans U) (b:=b) (row:=h3 z cs vs i len) (ns:=max cap (len+1)*z) (n:=len+1) (nc:=max cap (len+1)) (z:=z) (v:=.slice (some ⟨m.r,m.s+0,none⟩) (len+1) g) (by
   rw[de,de];funext y;simp only[bh];split<;>rfl) rfl rfl F aL (.ad z b 0 (len+1) (max cap (len+1)) (max cap (len+1)*z) g _ m (by rw[de,fJ]) q F F (.inr ⟨F,F,by simpa using au⟩))
  exact⟨_,muZ',rfl,h1,aJ,X⟩
 ·obtain rfl:cap=len:=F;obtain rfl:g=cap:=F;obtain⟨J,a2,aP,ch,bx⟩:=Ma bw;have ce:J.size=z:=by simp[b3,aP] at H;exact H
  have bS:J.bytes=by_:=by simp[gG,aP] at aM;exact aM
  have bT:contents h z (.ad z b 0 i g (g*z))=some ((cs.drop 0).take (i*z),i):=by simp[contents,p]
  obtain⟨br,_,a0,ae,ca⟩:=qk (P:=P) rel bT (az.ad z b 0 i g (g*z) g cs m p q F F (.inr ⟨F,aF _,by simpa using au⟩));have bs:=ca i (aF _) w.drew (fun _=>rfl);rw[aI (by rw[ae.1,br];exact aF _)] at bs;rw[lh] at ae br;have bt:(g+1)*J.bytes<=db:=by rw[bS];exact aS
  have bm:i+(g+1 - i)=g+1:=F;have cD:(g+1 - i)*J.bytes<=(g+1)*J.bytes:=cj _ F;have ap:=Lib.run_append_grow_zeros w T I T e J a2 .i64 .i64 L.sw L.Xm aP ch (some ⟨m.r,m.s+0,none⟩) i g a0 (by rw[ce];exact bs) (g+1 - i) F F F F (by unfold db at bt;omega)
   (by rw[bm];have:=growslice_fits (old:=g) (need:=g+1) F bt;omega)
  rw[bm] at ap;obtain⟨nJ,a8⟩:∃ nJ,nJ=grownCap w (g+1) g e:=⟨_,rfl⟩
  have a9:g+1<=nJ:=by rw[a8];exact grownCap_ge w _ _ _
  rw[<-a8] at ap;obtain⟨ROW,ao⟩:∃ ROW:Array aB,ROW=a0.toArray++Builtin.zeroCells a2.cells (g+1 - i)++Builtin.zeroCells a2.cells (nJ - (g+1)):=⟨_,rfl⟩
  rw[<-ao] at ap;have cA:(g+1)*z<=ROW.size:=by
   have bF:i*z+(g+1 - i)*z=(g+1)*z:=by rw[<-eI];congr 1
   rw[ao];simp only[En,xv,Builtin.zeroCells];simp[bx,ae.1];omega
  have bK:(cs.take (i*z)).length=i*z:=by rw[cI];omega
  obtain⟨am,K⟩:=rel.push (w':=w.drew.alloc (.cells ROW e)) (cs.take (i*z)) ROW e rfl rfl rfl rfl F (fun bz c bZ=>by
   obtain⟨aE,a6,bI,bJ⟩:=ae.2 bz c bZ;refine⟨aE,?_,bI,bJ⟩;have ay:bz<a0.length:=(aH.1 a6).1;rw[ao,z1,oB (by simpa using ay)];simpa using a6)
  rw[bK] at am K;have ar:b≠h.n:=F;have cF:=rel.j2 Z;have bd:bv≠h.n:=F;have bp:(bh muZ h.n (some ⟨w.heap.size,0,ROW.size⟩)) h.n=some ⟨w.heap.size,0,ROW.size⟩:=fJ _ _ _;have b5:(bh muZ h.n (some ⟨w.heap.size,0,ROW.size⟩)) bv=some dS:=by rw[bE _ _ _ _ bd];exact Z
  have b2:(bh muZ h.n (some ⟨w.heap.size,0,ROW.size⟩)) b=some m:=by rw[bE _ _ _ _ ar];exact q
  have bN:(h.push (.cells (i*z) (cs.take (i*z)))).f h.n=.cells (i*z) (cs.take (i*z)):=by rw[dL,fJ]
  have bP:(h.push (.cells (i*z) (cs.take (i*z)))).f bv=.cells z vs:=by rw[dL,bE _ _ _ _ bd];exact D
  obtain⟨ck,aA,aQ⟩:=yG (P:=P) K (o:=0) (n:=z) bP b5 F;rw[aD] at aA;obtain⟨Q,av,S,O⟩:=x1 (P:=P) (t:=T) (u:=T) (ty:=I) K L.sw H (k:=i*z) bN bp (aF _) (dLen:=g+1 - i) (dc:=nJ - i) (sLen:=1) (sc:=al) (cnt:=1)
   (by simp only[Ax];split<;>omega) F (by rw[sY];exact aQ) aA (by simp only;omega)
  have aU:max (i*z) (i*z+1*z)=(i+1)*z:=F;rw[aU] at S O;obtain⟨bH,bB⟩:=Di O (w':=Q.drew) (FB Q);have bO:((h.push (.cells (i*z) (cs.take (i*z)))).set h.n (.cells ((i+1)*z) (aw (cs.take (i*z)) (i*z) vs))).f h.n=.cells ((i+1)*z) (aw (cs.take (i*z)) (i*z) vs):=by rw[de,fJ]
  have bb:((h.push (.cells (i*z) (cs.take (i*z)))).set h.n (.cells ((i+1)*z) (aw (cs.take (i*z)) (i*z) vs))).f b=.cells (g*z) cs:=by rw[de,bE _ _ _ _ ar,dL,bE _ _ _ _ ar];exact p
  obtain⟨ci,aC,aR⟩:=yG (P:=P) bB (o:=i*z) (n:=(g - i)*z) bb b2 F;obtain⟨aG,ax,U,ai⟩:=x1 (P:=P) (t:=T) (u:=T) (ty:=I) bB L.sw H (k:=(i+1)*z) bO bp (aF _) (dLen:=g - i) (dc:=nJ - (i+1)) (sLen:=g - i) (sc:=g - i) (cnt:=g - i)
   (by simp only[Ax];split<;>omega) a7 aR aC (by simp only;omega)
  have aV:max ((i+1)*z) ((i+1)*z+(g - i)*z)=(g+1)*z:=F;rw[aV,Rh aY Y F] at U ai;simp only[gT] at av ax;have b7:max g (g+1)=g+1:=F;rw[b7];refine (L.grow m.r (m.s+0) g g i dS.r (dS.s+0) al w.heap.size nJ _ _ w _ Q aG Y (aF _) F a9 aK ?_ av ax).mono ?_
  ·have:(g:Int)+1 - (i:Int)=((g+1 - i:Nat) :Int):=F;rw[this];exact ap
  rintro x a1 ⟨rfl,rfl⟩;have hk:=ai.kill (b:=b) (sz:=g*z) (cs:=cs) (h':=(h.set b .dead).push (.cells ((g+1)*z) (h3 z cs vs i g))) (by rw[de,bE _ _ _ _ ar];exact bb) (by rw[hE,hE,iR];omega) (by
   rw[dL,de,hE,de,de,dL];funext y;simp only[bh];by_cases h1:y=h.n
   ·rw[aj h1,ak F,aj h1]
   ·rw[ak h1];split
    ·rfl
    ·simp) (by rw[iR,hE,hE,hE,iR])
  refine⟨_,_,rfl,(((am.trans S).trans bH).trans U).trans hk.1,hk.2,?_⟩;have:=az.ad (w:=a1) (R:=R) (h:=(h.set b .dead).push (.cells ((g+1)*z) (h3 z cs vs i g))) (muZ:=bh muZ h.n (some ⟨w.heap.size,0,ROW.size⟩)) z h.n 0 (g+1) (g+1) ((g+1)*z) nJ (h3 z cs vs i g) ⟨w.heap.size,0,ROW.size⟩ (by rw[dL,hE,fJ]) V (aF _) F (.inr ⟨F,a9,by
   simp only;have bF:i*z+(g+1 - i)*z=(g+1)*z:=by rw[<-eI];congr 1
   have cr:(g+1)*z+(nJ - (g+1))*z=nJ*z:=by rw[<-eI];congr 1;omega
   rw[ao];simp only[En,xv,Builtin.zeroCells];simp[bx,ae.1];omega⟩)
  simpa using this
theorem HK {f T C e z by_:Nat} (L:p2 P f T C e z) (D:gb P T=some e) (Z:b3 P e=some z) (I:gG P e=some by_) (aB:0<z) (ax:0<by_) (ae:l2 P e=some z)
  {bv:Nat} {vs:ag} (j:h.f bv=.cells z vs) (U:by_<=db) :
  jq P G f [.af,.int .i64 0,.ad z bv 0 1 1 z] h (.ad z h.n 0 1 1 z) (h.push (.cells z vs)):=by
 intro R B w muZ am rel av K m;obtain⟨ap⟩:=am
 match ap,K with
 | [ai,aj,al],_=>
 have q:=m 0 _ ai rfl rfl;have o:=m 1 _ aj rfl rfl;have t:=m 2 _ al rfl rfl;have X:=t;cases o;have W:=q;cases q;have Q:tV P T:=⟨_,L.sw,fun k hk=>by cases hk⟩
 cases t with
 | e9 _ _ _ _ _ _ _ _ _ _ g=>
  exfalso;rcases g with g | ⟨aE,au,g,az⟩
  ·rw[j] at g;cases g
  ·rw[j] at g;cases g;omega
 | ad _ _ _ _ _ _ ao aG dS aw O aA aC ay=>
 have p:=rel.blk bv dS O;rw[j] at p;obtain⟨aD,_⟩:=p;have H:nQ P h T .af (.ad z bv 0 1 1 z)=some (.ad z h.n 0 1 1 z,h.push (.cells z vs)):=by
  have o:(vs.drop 0).take (1*z)=vs:=by rw[lh,sY,aI F]
  unfold nQ;rw[D];simp only[Z,I,contents,j,and_self,if_true,o];unfold p8;rw[ak F,ak (by rw[ae];simp;omega)];simp only[sY,U,if_true]
 obtain⟨v,aq,ar,V,J,S,Y⟩:=AQ (P:=P) (ty:=T) (u:=T) rel Q H W X;refine (L.fin none 0 0 ao dS.r (dS.s+0) v w aq (aF _) F (fun _=>⟨rfl,rfl⟩) V).mono ?_;rintro x aH ⟨rfl,rfl⟩;exact⟨v,ar,rfl,J,S,Y⟩
theorem HH {f p F e z by_:Nat} (L:p2 P f p F e z) (q:gb P p=some e) (C:b3 P e=some z) (v:gG P e=some by_) (B:0<z) (w:0<by_) (D:l2 P e=some z)
  (args:ag) (h:aE) (r:U) (h' : aE) (g:tE z by_ args h=some (r,h')) :jq P G f args h r h':=by
 unfold tE at g;split at g
 ·rename_i s x y;split at g
  ·rename_i i ai Q V S R X j;have O:x=.int .i64 i:=by
    unfold Fs at j;split at j
    ·split at j
     ·cases j;rfl
     ·cases j
    ·cases j
   subst O;split at g
   ·rename_i T Z u;split at g
    ·rename_i m;obtain⟨rfl,rfl,rfl,rfl,rfl,rfl,H⟩:=m;obtain⟨k,rfl⟩:=l4 H;rw[fb] at g;unfold HJ at g;cases s<;>simp only at g<;>try (cases g;done)
     case af=>
      split at g
      ·rename_i m;obtain⟨rfl,o⟩:=m;cases g;exact HK L q C v B w D u o
      ·cases g
     case ad ae b W len cap Y=>
      cases t:h.f b<;>rw[t] at g<;>(try simp only at g)<;>try (cases g;done)
      split at g
      ·rename_i m;obtain⟨rfl,rfl,rfl,rfl,K,I,J,o⟩:=m;cases g;exact HL L q C v B w D t u K I J o
      ·cases g
    ·cases g
   ·cases g
  ·cases g
 ·cases g
end
end Go.bf
namespace Go.bf
open Go
theorem bd {p:Prop} (h:p:=by kernel_rfl) :p:=h
section
variable (P:bg)
abbrev mb:=List (List Nat)
def da (a:Nat) :Nat->mb
 | 0=>[]
 | n+1=>[a] ::da (a+1) n
def KZ (ops:Array a6) (o:a6) (i:Nat) (g:List Nat) (bo:Bool) :c0:=
 let h:=match o.guard with | none=>none | some j=>some (match ops[j.1]? with | some p=>p.dst | none=>none,j.2)
 match j6 P o.op with
 | some m=>⟨i,o.dst,h,.fv m,g,bo⟩
 | none=>match o.op with
  | .call c=>match c.callee with
   | .value (.func f)=>⟨i,o.dst,h,.kL f c.args.toList,g,bo⟩
   | .value x=>⟨i,o.dst,h,.lr x c.args.toList,g,bo⟩
   | .invoke x name=>⟨i,o.dst,h,.mZ x name c.args.toList,g,bo⟩
   | _=>⟨i,none,none,.fv .stop,[],false⟩
  | _=>⟨i,none,none,.fv .stop,[],false⟩
def K2 (ops:Array a6) :List a6->Nat->List c0
 | [],_=>[]
 | g::r,i=>KZ P ops g i [] false::K2 ops r (i+1)
def HF (i:Nat) :List Nat->Bool
 | []=>false
 | x::r=>match Nat.beq i x with | true=>true | false=>HF i r
def H0 (i:Nat) :mb->Bool
 | []=>false
 | p::r=>match HF i p.tail with | true=>true | false=>H0 i r
def Fh:mb->Bool
 | []=>false
 | p::r=>match p.tail with | []=>Fh r | _=>true
def DQ (ops:Array a6) (q:mb) (n:Nat) :mb->List c0
 | []=>K2 P ops (ops.toList.drop n) n
 | p::r=>(match p with
  | []=>⟨0,none,none,.fv .stop,[],false⟩
  | i::c=>match ops[i]? with | some g=>KZ P ops g i c (H0 i q) | none=>⟨0,none,none,.fv .stop,[],false⟩) ::DQ ops q n r
def De (ops:Array a6) (p:mb) :fC:=match Fh p with
 | true=>.vC (DQ P ops p p.length p)
 | false=>.jh (DQ P ops p p.length p)
def Wx (a b:fC) :fC:=match a with
 | .skip=>b
 | a=>match b with
  | .skip=>a
  | b=>.seq a b
def qw:Code->List mb->fC × List mb
 | .skip,g=>(.skip,g)
 | .label _,g=>(.skip,g)
 | .ret,g=>(.ret,g)
 | .exit id,g=>(.exit id,g)
 | .region _ ops true,g=>match g with
  | []=>(De P ops [],[])
  | x::g=>(De P ops x,g)
 | .region _ ops false,g=>(De P ops [],g)
 | .seq a b,g=>match qw a g with | (a,g)=>match qw b g with | (b,g)=>(Wx a b,g)
 | .cond c a b,g=>match qw a g with | (a,g)=>match qw b g with | (b,g)=>(.cond c a b,g)
 | .block id c,g=>match qw c g with | (c,g)=>(.block id c,g)
 | .loop c,g=>match qw c g with | (c,g)=>(.loop c,g)
 | .scope c,g=>qw c g
 | _,g=>(.skip,g)
def tL (fn:Func) (p:List mb) :fC:=match fn.body with
 | some c=>(qw P c p).1
 | none=>.skip
def rX:List ResultVar->List dm
 | []=>[]
 | x::r=>(match Bd P x with | some g=>g | none=>.stop) ::rX r
end
theorem Dj (x:U) (t:ag) :x::x::x::x::x::x::x::x::x::x::x::x::x::x::x::x::x::x::x::x::x::x::x::x::x::x::x::x::x::x::x::x::t=bO 32 x++t:=rfl
theorem Dk (x:U) (t:ag) :bO 32 x++(bO 32 x++t)=bO 64 x++t:=rfl
theorem QG {P:bg} {f:cb} {fn:Func} (m:P.funcs[f]?=some fn) (p:List mb) {c:fC} {ms:List dm}
  (g:tL P fn p=c:=by conv=>lhs;(cbv;try simp only[Dj,Dk,eb]))
  (j:rX P fn.results.toList=ms:=by conv=>lhs;cbv)
  (hk:(vy P f,vz P f)=(some (tL P fn p),some (rX P fn.results.toList)):=by kernel_rfl)
  {G:Nat->U} {args:ag} {l:ae} {K:p3} (h:run P G c (i4 args) l (tJ P G ms K.k)) :fP P G f args l (c:=K):=by rw[g,j] at hk;exact FU (u0 hk).1 (u0 hk).2 h
theorem cR {P:bg} {f:cb} {fn:Func} (t:P.funcs[f]?=some fn) (p:List mb) {g:Tables} {j:Array Func} {c:fC} {ms:List dm} (q:P=⟨g,j⟩:=by rfl)
  (m:tL ⟨g,#[]⟩ fn p=c:=by conv=>lhs;(cbv;try simp only[Dj,Dk,eb]))
  (o:rX ⟨g,#[]⟩ fn.results.toList=ms:=by conv=>lhs;cbv)
  (hk:(vy P f,vz P f)=(some (tL ⟨g,#[]⟩ fn p),some (rX ⟨g,#[]⟩ fn.results.toList)):=by kernel_rfl)
  {G:Nat->U} {args:ag} {l:ae} {K:p3} (h:run P G c (i4 args) l (tJ P G ms K.k)) :fP P G f args l (c:=K):=by rw[m,o] at hk;exact FU (u0 hk).1 (u0 hk).2 h
namespace b8
abbrev W:=BitVec 32
abbrev B:=BitVec 8
def kp (x:W) (n:Nat) :W:=(x >>> n) ||| (x <<< (32 - n))
def lX (l:List B) :W:=l.foldl (fun a x=>(a <<< 8) ||| x.setWidth 32) 0#32
def part (b:List B) (k t:Nat) :W:=lX (((b.take k).drop (4*t)).take 4)
def ei (b:List B) :List W:=(List.range 16).map fun g=>lX ((b.drop (4*g)).take 4)
def ext (w:List W) :W:=
 let g:=w.length
 let x:=w.getD (g - 15) 0#32
 let y:=w.getD (g - 2) 0#32
 w.getD (g - 16) 0#32+w.getD (g - 7) 0#32+(kp x 7 ^^^ kp x 18 ^^^ (x >>> 3))+(kp y 17 ^^^ kp y 19 ^^^ (y >>> 10))
def gN:Nat->List W->List W
 | 0,w=>w
 | n+1,w=>gN n (w++[ext w])
def ey (b:List B) :List W:=gN 48 (ei b)
def Cm (x:W) (i j k:Nat) :W:=kp x i ^^^ kp x j ^^^ kp x k
structure dD where
 (a b c d e f g h:W)
def round (s:dD) (k w:W) :dD:=
 let j:=s.h+Cm s.e 6 11 25+((s.e &&& s.f) ^^^ (~~~s.e &&& s.g))+k+w
 let q:=Cm s.a 2 13 22+((s.a &&& s.b) ^^^ (s.a &&& s.c) ^^^ (s.b &&& s.c))
 ⟨j+q,s.a,s.b,s.c,s.d+j,s.e,s.f,s.g⟩
def rounds:dD->List W->List W->dD
 | s,k::bZ,w::g=>rounds (round s k w) bZ g
 | s,_,_=>s
def table:List Nat:=[0x428a2f98,0x71374491,0xb5c0fbcf,0xe9b5dba5,0x3956c25b,0x59f111f1,0x923f82a4,0xab1c5ed5,0xd807aa98,0x12835b01,0x243185be,0x550c7dc3,0x72be5d74,0x80deb1fe,0x9bdc06a7,0xc19bf174,0xe49b69c1,0xefbe4786,0x0fc19dc6,0x240ca1cc,0x2de92c6f,0x4a7484aa,0x5cb0a9dc,0x76f988da,0x983e5152,0xa831c66d,0xb00327c8,0xbf597fc7,0xc6e00bf3,0xd5a79147,0x06ca6351,0x14292967,0x27b70a85,0x2e1b2138,0x4d2c6dfc,0x53380d13,0x650a7354,0x766a0abb,0x81c2c92e,0x92722c85,0xa2bfe8a1,0xa81a664b,0xc24b8b70,0xc76c51a3,0xd192e819,0xd6990624,0xf40e3585,0x106aa070,0x19a4c116,0x1e376c08,0x2748774c,0x34b0bcb5,0x391c0cb3,0x4ed8aa4a,0x5b9cca4f,0x682e6ff3,0x748f82ee,0x78a5636f,0x84c87814,0x8cc70208,0x90befffa,0xa4506ceb,0xbef9a3f7,0xc67178f2]
def bZ:List W:=table.map (BitVec.ofNat 32)
def grind (h:dD) (b:List B) :dD:=
 let j:=rounds h bZ (ey b)
 ⟨h.a+j.a,h.b+j.b,h.c+j.c,h.d+j.d,h.e+j.e,h.f+j.f,h.g+j.g,h.h+j.h⟩
def AY:Nat->dD->List B->dD × List B
 | 0,h,b=>(h,b)
 | n+1,h,b=>if 64<=b.length then AY n (grind h (b.take 64)) (b.drop 64) else (h,b)
def fR (h:dD) (b:List B) :dD × List B:=AY (b.length / 64) h b
def first:dD:=⟨0x6a09e667#32,0xbb67ae85#32,0x3c6ef372#32,0xa54ff53a#32,0x510e527f#32,0x9b05688c#32,0x1f83d9ab#32,0x5be0cd19#32⟩
def vo (n:BitVec 64) :List B:=[(n >>> 56).setWidth 8,(n >>> 48).setWidth 8,(n >>> 40).setWidth 8,(n >>> 32).setWidth 8,(n >>> 24).setWidth 8,(n >>> 16).setWidth 8,(n >>> 8).setWidth 8,(n >>> 0).setWidth 8]
def tail (n:Nat) :List B:=128#8::List.replicate ((119 - n % 64) % 64) 0#8++vo (BitVec.ofNat 64 n*8#64)
def pL (w:W) :List B:=[(w >>> 24).setWidth 8,(w >>> 16).setWidth 8,(w >>> 8).setWidth 8,w.setWidth 8]
def dD.l (s:dD) :List W:=[s.a,s.b,s.c,s.d,s.e,s.f,s.g,s.h]
def written (s:dD) :List B:=(s.l.map pL).flatten
def fi (b:List B) :List B:=written (fR first (b++tail b.length)).1
theorem XX (l:List B) (x:B) :lX (l++[x])=(lX l <<< 8) ||| x.setWidth 32:=by simp[lX,Aj]
theorem rF:∀ (n:Nat) (w:List W),(gN n w).length=w.length+n
 | 0,w=>rfl
 | n+1,w=>by rw[gN,rF n];simp;omega
theorem wS (b:List B) :(ey b).length=64:=by rw[ey,rF];simp[ei]
theorem zX (s:dD) :(written s).length=32:=rfl
theorem jk (b:List B) :(fi b).length=32:=rfl
theorem Bx:∀ (n:Nat) (w:List W),gN (n+1) w=gN n w++[ext (gN n w)]
 | 0,w=>rfl
 | n+1,w=>by rw[gN,Bx n (w++[ext w])];rfl
theorem zB (a:W) (x:B) :(a <<< 8) ||| x.setWidth 32=a*256#32+x.setWidth 32:=by
 apply eC;have o:x.toNat<256:=x.isLt;have m:=a.isLt;rw[BitVec.toNat_or,sM,xh,sL,eH];have h1:x.toNat % 2 ^ 32=x.toNat:=dH F;have g:a.toNat <<< 8 % 2 ^ 32=(a.toNat % 2 ^ 24) <<< 8:=by rw[nI,nI];omega
 have h:=Mh (b:=x.toNat) (i:=8) F (a.toNat % 2 ^ 24);rw[h1,g,<-h,nI];have j:(256#32).toNat=256:=rfl;rw[j];omega
theorem vm (h:dD) (b:List B) (g:64<=b.length) :fR h b=fR (grind h (b.take 64)) (b.drop 64):=by
 have:b.length / 64=(b.drop 64).length / 64+1:=by simp;omega
 rw[fR,this,AY,aj g];rfl
theorem xQ (h:dD) (b:List B) (g:b.length<64) :fR h b=(h,b):=by rw[fR,pV g];rfl
theorem N2 (h:dD) (b:List B) :(fR h b).2.length=b.length % 64:=by
 generalize g:b.length=n
 induction n using Nat.strongRecOn generalizing h b with
 | _ n j=>
  rcases fB b.length 64 with h1 | h1
  ·rw[xQ h b h1,dH F];exact g
  ·rw[vm h b h1,j (b.length - 64) F _ (b.drop 64) V];omega
theorem FH (h:dD) (a b:List B) :fR h (a++b)=fR (fR h a).1 ((fR h a).2++b):=by
 generalize j:a.length=n
 induction n using Nat.strongRecOn generalizing h a with
 | _ n g=>
  rcases fB a.length 64 with h1 | h1
  ·rw[xQ h a h1]
  ·rw[vm h a h1,vm h (a++b) (by simp;omega),hU h1,nB h1];exact g (a.length - 64) F _ (a.drop 64) V
end b8
end Go.bf
namespace Go.bf
open Go Go.Proofs Go.Proofs.Tryz
def uA:ag:=b8.bZ.map a1
def GS:Nat->U:=fun g=>match Nat.beq g 1 with | true=>.bR uA 0 | false=>.bad
theorem ed:∀ g,(GS g).ax=true:=by
 intro g;unfold GS;split
 ·exact i7 a1 (fun _=>rfl) _
 ·rfl
@[simp]
theorem Yk:GS 1=.bR uA 0:=id rfl
abbrev aV:=@hW prog GS
abbrev Mr:=@fP prog GS
abbrev cG (f:cb) (args:ag) (l:ae) (K:U->ae->Prop) :Prop:=fP prog GS f args l (c:=⟨K⟩)
abbrev cv:=U->ae->Prop
abbrev aN:=List (List b8.B)
theorem dw:db=140737488355328:=rfl
theorem a8 {f:cb} {fn:Func} (q:prog.funcs[f]?=some fn) (p:List mb) {g:Tables} {j:Array Func} {c:fC} {ms:List dm} (m:prog=⟨g,j⟩:=by rfl)
  (o:tL ⟨g,#[]⟩ fn p=c:=by conv=>lhs;(cbv;try simp only[Dj,Dk,eb]))
  (t:rX ⟨g,#[]⟩ fn.results.toList=ms:=by conv=>lhs;cbv)
  (hk:(vy prog f,vz prog f)=(some (tL ⟨g,#[]⟩ fn p),some (rX ⟨g,#[]⟩ fn.results.toList)):=by kernel_rfl)
  {args:ag} {r:U} (h:run prog GS c (i4 args) [] (tJ prog GS ms (⟨fun u l=>Rd l u r⟩:p3).k)) :hW prog GS f args r:=
 wI checked.mixed ed (cR q p m o t hk h)
theorem WT (i:Nat) (h:i<64) :uA[i]?=some (a1 (b8.bZ.getD i 0#32)):=by have g:b8.bZ.length=64:=rfl;unfold uA;rw[bX,gm,bC F];rfl
namespace b8
def Dn (x:W) (k:Int) :W:=(x <<< (BitVec.ofInt 64 k &&& 31#64).toNat) ||| (x >>> (32#64 - (BitVec.ofInt 64 k &&& 31#64)).toNat)
theorem sf (x:W) (n:Nat) (g:0<n) (h:n<32) :Dn x (-(n:Int))=kp x n:=by
 have h1:∀ n:Fin 32,0<n.val->(BitVec.ofInt 64 (-(n.val:Int)) &&& 31#64)=BitVec.ofNat 64 (32 - n.val):=by decide
 have j:=h1 ⟨n,h⟩ g;simp only at j;unfold Dn kp;rw[j,BitVec.or_comm];congr 2
 ·have:∀ n:Fin 32,0<n.val->(32#64 - BitVec.ofNat 64 (32 - n.val)).toNat=n.val:=by decide
  exact this ⟨n,h⟩ g
 ·have:∀ n:Fin 32,0<n.val->(BitVec.ofNat 64 (32 - n.val)).toNat=32 - n.val:=by decide
  exact this ⟨n,h⟩ g
theorem se (x:W) (k:Int) :aV 291 [a1 x,.i6 k] (a1 (Dn x k)):=by apply a8 func291 [];simp;exact aG
theorem Iq (x:W) (i j k:Nat) (h:0<i/\i<32) (m:0<j/\j<32) (hk:0<k/\k<32) :aV 286 [a1 x,.i6 i,.i6 j,.i6 k] (a1 (Cm x i j k)):=by
 apply a8 func286 [];have g:∀ n:Nat,n<32->IntKind.i64.wrap (-(n:Int))=-(n:Int):=fun n g=>wrap_i64 F F
 simp[g i h.2];refine av (se x _) rfl ?_;simp[g j m.2];refine av (se x _) rfl ?_;simp[g k hk.2];refine av (se x _) rfl ?_;simp[sf x _ h.1 h.2,sf x _ m.1 m.2,sf x _ hk.1 hk.2];exact aG
def bL (x:B) :ag:=[a7 x]
abbrev dI:=bH B
abbrev b9 (s:dI) :U:=b0 1 bL s
theorem iL (s:dI) :(b9 s).ax=true:=m0 (fun _=>rfl) s
def lZ (b:List B) (k:Nat) :List W:=((List.range 16).map fun g=>lX (((b.take k).drop (4*g)).take 4))++List.replicate 48 0#32
theorem L2 (b:List B) (k:Nat) :(lZ b k).length=64:=by simp[lZ]
theorem X8 (b:List B) :lZ b 0=List.replicate 64 0#32:=by simp[lZ,lX];rfl
theorem El (b:List B) (k t:Nat) (g:t<16) :(lZ b k)[t]?=some (lX (((b.take k).drop (4*t)).take 4)):=by unfold lZ;rw[aS (by simpa using g),bX,g9 g];rfl
theorem X7 (b:List B) (k:Nat) (hk:k<64) (t:k<b.length) (x:B) (p:b[k]?=some x) :
  (lZ b k).set (k / 4) ((lX (((b.take k).drop (4*(k / 4))).take 4) <<< 8) ||| x.setWidth 32)=lZ b (k+1):=by
 apply g7;intro g;rw[nC,L2];have o:b.take (k+1)=b.take k++[x]:=by rw[eD,p];rfl
 have u:(b.take k).length=k:=by simp;omega
 by_cases m:g<16
 ·rw[El b _ g m,El b _ g m];by_cases h:k / 4=g
  ·rw[aj h,aj F,<-XX,o,h];congr 2;rw[nB F];obtain⟨A,j⟩:=aq (List.drop (4*g) (List.take k b));have q:A.length<4:=by rw[j];simp;omega
   rw[<-j,aI F,aI (by simp;omega)]
  ·rw[ak h,o];congr 2;rcases fB k (4*g) with h1 | h1
   ·rw[jS F,jS (by simp;omega)]
   ·rw[nB F,hU (by simp;omega)]
 ·rw[ak F];unfold lZ;rw[ej (by simp;omega),ej (by simp;omega)];simp
theorem X6 (b:List B) (h:64<=b.length) :lZ b 64=ei b++List.replicate 48 0#32:=by unfold lZ ei;congr 1;apply oD;intro j g;have:=gS.1 g;congr 1;rw[ra,mQ,iF F]
def mJ (b:List B) (k:Nat) :List W:=gN k (ei b)++List.replicate (48 - k) 0#32
theorem VR (b:List B) (k:Nat) (hk:k<=48) :(mJ b k).length=64:=by simp[mJ,rF,ei];omega
theorem zw (b:List B) (k i:Nat) (g:i<16+k) :(mJ b k)[i]?=some ((gN k (ei b)).getD i 0#32):=by
 unfold mJ;have h:(gN k (ei b)).length=16+k:=by simp[rF,ei]
 rw[aS F,gm,bC F];rfl
theorem VS (b:List B) (k:Nat) (hk:k<48) :(mJ b k).set (16+k) (ext (gN k (ei b)))=mJ b (k+1):=by
 have g:(gN k (ei b)).length=16+k:=by simp[rF,ei]
 unfold mJ;rw[oF _ _ F,g,sZ,show 48 - k=(48 - (k+1))+1 by omega,jV,xu,Bx];simp
theorem VU (b:List B) (am:64<=b.length) :aV 285 [b9 (some b)] (.ah ((ey b).map a1)):=by
 apply a8 func285 [];have aC:dB (.ad 1) (b9 (some b)) none (some (.i6 64)) none=some (b9 (some (b.take 64))):=by
  unfold b9;rw[DI F F];rfl
 have ay:min 64 b.length=64:=F;simp[aC,ay];refine bw 64 (fun k m l=>m 2=.ptr 0 0 64/\m 11=b9 (some (b.take 64))/\m 12=.i6 64/\m 13=.i6 k/\l=[.q 64 ((lZ b k).map a1)]) ?_ ?_
 ·rintro k m l hk ⟨o,D,G,H,rfl⟩;obtain⟨m,rfl⟩:=e2 o D G H;clear o D G H;simp;by_cases h:(k:Int)<64
  ·obtain⟨x,J⟩:∃ x,b[k]?=some x:=⟨_,bC F⟩
   have aG:(b.take 64)[k]?=some x:=by rw[dG F];exact J
   have ap:bF (.ad 1) (b9 (some (b.take 64))) (.i6 k)=some (.bR (bL x) 0):=by simp[b9,n4,aG]
   obtain⟨q,z⟩:=aq (k / 4);have aA:cn .quo .i64 (k:Int) .i64 4=some (.i6 (q:Int)):=by rw[z];exact A1 k 4 F F
   have aE:IntKind.i64.wrap ((k:Int)+1)=k+1:=wrap_i64 F F;have az:(q:Int)<64:=F;have ao:=El b k q F;have j:=lT a1 (lZ b k) q (((lX (((b.take k).drop (4*q)).take 4) <<< 8) ||| x.setWidth 32)) (by rw[L2];omega);rw[z,X7 b k F F x J,<-z] at j;have w:q+1<=64:=F;simp[h,ap,bL,aA,az,ao,w,aE,j];omega
  ·have au:k=64:=F;subst au;simp;refine bw 48 (fun g m l=>m 2=.ptr 0 0 64/\m 5=.i6 (16+g:Nat)/\l=[.q 64 ((mJ b g).map a1)]) ?_ ?_
   ·rintro g m l aH ⟨o,I,rfl⟩;obtain⟨m,rfl⟩:=jP o I;clear o I;obtain⟨t,C⟩:=aq (16+g);rw[<-C];simp;by_cases h:(t:Int)<64
    ·have aD:IntKind.i64.wrap ((t:Int)+1)=(t+1:Nat):=wrap_i64 F F;have V:IntKind.i64.wrap ((t:Int) - 15)=(t - 15:Nat):=by rw[wrap_i64 F F];omega
     have X:IntKind.i64.wrap ((t:Int) - 2)=(t - 2:Nat):=by rw[wrap_i64 F F];omega
     have W:IntKind.i64.wrap ((t:Int) - 16)=(t - 16:Nat):=by rw[wrap_i64 F F];omega
     have Y:IntKind.i64.wrap ((t:Int) - 7)=(t - 7:Nat):=by rw[wrap_i64 F F];omega
     have aw:(gN g (ei b)).length=t:=by simp[rF,ei];omega
     have p:=zw b g (t - 15) F;have o:=zw b g (t - 2) F;have u:=zw b g (t - 16) F;have v:=zw b g (t - 7) F;have j:=lT a1 (mJ b g) t (ext (gN g (ei b))) (by rw[VR b g F];omega);rw[C,VS b g F,<-C] at j;unfold ext at j;rw[aw] at j
     dsimp only at j
     obtain⟨K,aj⟩:=aq (t - 15);obtain⟨P,ak⟩:=aq (t - 2);obtain⟨O,x6⟩:=aq (t - 16);obtain⟨Q,al⟩:=aq (t - 7);rw[<-aj] at V p j;rw[<-ak] at X o j;rw[<-x6] at W u j;rw[<-al] at Y v j;have Z:(K:Int)<64:=F;have ag:(P:Int)<64:=F;have ae:(O:Int)<64:=F;have ai:(Q:Int)<64:=F;have w:t+1<=64:=F;generalize (gN g (ei b)).getD K 0#32=x at p j;generalize (gN g (ei b)).getD P 0#32=y at o j;generalize (gN g (ei b)).getD O 0#32=aJ at u j;generalize (gN g (ei b)).getD Q 0#32=aK at v j;have U:=sf x 7 F F;have S:=sf x 18 F F;have R:=sf y 17 F F;have T:=sf y 19 F F;simp at U S R T;simp[h,V,X,p,o,Z,ag];refine av (se _ _) rfl ?_;simp;refine av (se _ _) rfl ?_;simp;refine av (se _ _) rfl ?_;simp;refine av (se _ _) rfl ?_;simp[U,S,R,T,W,Y,u,v,ae,ai,h,j,aD,w];omega
    ·have ar:g=48:=F;have aB:mJ b 48=ey b:=by simp[mJ,ey]
     subst ar;have ax:=wS b;rw[aB];simp[h,ax,lS,aI];exact aR rfl (F6 a1 (fun _=>rfl) _)
   ·simp[mJ,gN,X6 b am]
 ·simp[X8,J5 _ 32]
theorem X4 (b:List B) (n:Nat) (h:64<=n) :ei (b.take n)=ei b:=by unfold ei;apply oD;intro j g;have:=gS.1 g;congr 1;rw[ra,mQ,iF F]
theorem VT (b:List B) (n:Nat) (g:64<=n) :ey (b.take n)=ey b:=by unfold ey;rw[X4 b n g]
theorem rounds_succ:∀ (k:Nat) (s:dD) (a b:List W) (x y:W),a[k]?=some x->b[k]?=some y->rounds s (a.take (k+1)) (b.take (k+1))=round (rounds s (a.take k) (b.take k)) x y
 | 0,s,a,b,x,y,g,h=>by
  cases a with
  | nil=>simp at g
  | cons a j=>
   cases b with
   | nil=>simp at h
   | cons b m=>simp at g h;subst g h;simp[rounds]
 | k+1,s,a,b,x,y,g,h=>by
  cases a with
  | nil=>simp at g
  | cons a j=>
   cases b with
   | nil=>simp at h
   | cons b m=>
    simp only[EJ,rounds];exact rounds_succ k _ j m x y (by simpa using g) (by simpa using h)
def jJ (h:dD) (b:List B) (k:Nat) :dD:=rounds h (bZ.take k) ((ey b).take k)
theorem JJ (h:dD) (b:List B) :jJ h b 0=h:=rfl
theorem JI (h:dD) (b:List B) (k:Nat) (hk:k<64) :jJ h b (k+1)=round (jJ h b k) (bZ.getD k 0#32) ((ey b).getD k 0#32):=by
 have h1:bZ.length=64:=rfl;have g:=wS b;refine rounds_succ k h bZ (ey b) _ _ ?_ ?_
 ·rw[gm,bC F];rfl
 ·rw[gm,bC F];rfl
theorem JH (h:dD) (b:List B) :jJ h b 64=rounds h bZ (ey b):=by have h1:bZ.length=64:=rfl;have g:=wS b;unfold jJ;rw[aI F,aI F]
def gV (a b:List W) (k:Nat) :List W:=(List.zipWith (·+·) a b).take k++a.drop k
theorem Fb (a b:List W) :gV a b 0=a:=rfl
theorem AJ {a b:List W} (h:a.length=b.length) (k:Nat) :(gV a b k).length=a.length:=by simp[gV];omega
theorem E9 {a b:List W} (h:a.length=b.length) {k:Nat} (hk:k<a.length) :(gV a b k)[k]?=a[k]?:=by
 unfold gV;rw[ej (by simp;omega)];have:(List.take k (List.zipWith (·+·) a b)).length=k:=by simp;omega
 rw[this,gn];simp
theorem Fa {a b:List W} (h:a.length=b.length) {k:Nat} {x y:W} (g:a[k]?=some x) (m:b[k]?=some y) :(gV a b k).set k (x+y)=gV a b (k+1):=by
 have hk:=(aH.1 g).1;unfold gV;have j:(List.take k (List.zipWith (·+·) a b)).length=k:=by simp;omega
 have o:(List.zipWith (·+·) a b)[k]?=some (x+y):=by rw[List.getElem?_zipWith,g,m]
 rw[oF _ _ F,j,sZ,l5 hk,xu,eD,o];simp
theorem QJ {h:dD} {b:List B} (aA:64<=b.length) {l:ae} {bk sz:Nat} {rest:ag} {x:U} {K:cv} (G:l[bk]?=some (.q sz (h.l.map a1++rest))) (a0:8<=sz) (aN:fm (aU l) x (b9 (some b)))
  (ak:∀ junk,K (.aZ []) (l.set bk (.q sz ((grind h b).l.map a1++rest))++junk)) :cG 273 [.ptr bk 0 sz,x] l K:=by
 apply cR func273 [[],[[0],[1]]++da 4 8++[[13],[14],[15],[17],[18],[19],[2,19,15],[3],[12],[16]]];simp;refine g0 (VU b aA) (.cons aN .nil) (G5 a1 (fun _=>rfl) _) ?_;have u:=aY G;have aL:=wS b;have aI:(l++[am.q 64 ((ey b).map a1)])[bk]?=some (.q sz (h.l.map a1++rest)):=by rw[aS u];exact G
 have m:∀ i (y:W),i<8->h.l[i]?=some y->(h.l.map a1++rest)[i]?=some (a1 y):=fun i y aE w=>by
  rw[aS (by simpa [dD.l] using aE),bX,w];rfl
 have aO:=m 0 h.a F rfl;have q1:=m 1 h.b F rfl;have aP:=m 2 h.c F rfl;have aQ:=m 3 h.d F rfl;have aR:=m 4 h.e F rfl;have aT:=m 5 h.f F rfl;have aV:=m 6 h.g F rfl;have aW:=m 7 h.h F rfl;simp[lS,aL,aI,aO,q1,aP,aQ,aR,aT,aV,aW];refine bw 64 (fun k j t=>j 0=.ptr bk 0 sz/\j 4=.ptr l.length 0 64/\j 5=a1 (jJ h b k).a/\j 6=a1 (jJ h b k).b/\j 7=a1 (jJ h b k).c/\j 8=a1 (jJ h b k).d/\j 9=a1 (jJ h b k).e/\j 10=a1 (jJ h b k).f/\j 11=a1 (jJ h b k).g/\j 12=a1 (jJ h b k).h/\j 52=.i6 k ∧
  t=l++[.q 64 ((ey b).map a1)]) ?_ ?_
 ·rintro k j t hk ⟨p,T,V,Y,Z,ai,aj,O,P,S,X,rfl⟩;obtain⟨j,rfl⟩:=LB p T V Y Z ai aj O P S X;clear p T V Y Z ai aj O P S X;simp;by_cases C:(k:Int)<64
  ·have J:IntKind.i64.wrap ((k:Int)+1)=k+1:=wrap_i64 F F;have D:k<64:=F;have ar:=WT k D;have aq:(ey b)[k]?=some ((ey b).getD k 0#32):=by rw[gm,bC F];rfl
   rw[JI h b k D];generalize (ey b).getD k 0#32=a3 at *
   generalize bZ.getD k 0#32=a2 at *
   generalize jJ h b k=s at *
   have ay:=Iq s.e 6 11 25 F F F;have az:=Iq s.a 2 13 22 F F F;simp at ay az;simp[C,ar,aq];refine av ay rfl ?_;simp[ar,aq];refine av az rfl ?_;simp[D,J];simp[round]
  ·have aG:k=64:=F;subst aG;rw[JH];obtain⟨v,au⟩:∃ v,rounds h bZ (ey b)=v:=⟨_,rfl⟩
   rw[au];have aC:grind h b=⟨h.a+v.a,h.b+v.b,h.c+v.c,h.d+v.d,h.e+v.e,h.f+v.f,h.g+v.g,h.h+v.h⟩:=by unfold grind;rw[au]
   simp;have I:h.l.length=v.l.length:=rfl;have H:h.l.length=8:=rfl;have aB:(grind h b).l=gV h.l v.l 8:=by rw[aC];rfl
   rw[aB] at ak;refine bw 8 (fun k j t=>j 0=.ptr bk 0 sz/\j 111=.ah (v.l.map a1)/\j 112=.i6 k/\t=l.set bk (.q sz ((gV h.l v.l k).map a1++rest))++[.q 64 ((ey b).map a1)]) ?_ ?_
   ·rintro k j t hk ⟨p,Q,R,rfl⟩;obtain⟨j,rfl⟩:=gj p Q R;clear p Q R;simp;by_cases C:(k:Int)<8
    ·have J:IntKind.i64.wrap ((k:Int)+1)=k+1:=wrap_i64 F F;have o:k<8:=F;obtain⟨y,w⟩:∃ y,v.l[k]?=some y:=⟨_,bC (show k<v.l.length from o)⟩
     obtain⟨z,ax⟩:∃ z,h.l[k]?=some z:=⟨_,bC (show k<h.l.length from o)⟩
     have al:=E9 I (k:=k) (by rw[H];exact o);rw[ax] at al;have ao:=AJ I k;have ap:=lT a1 (gV h.l v.l k) k (z+y) (by rw[ao,H];exact o);rw[Fa I ax w] at ap;have aX:((gV h.l v.l k).map a1).length=8:=by rw[cC,ao,H]
     have aM:aw ((gV h.l v.l k).map a1++rest) k [a1 (z+y)]=(gV h.l v.l (k+1)).map a1++rest:=by
      rw[<-ap];unfold aw;rw[hU F,nB (by simp;omega)];simp
     have aD:((gV h.l v.l k).map a1++rest)[k]?=some (a1 z):=by rw[aS F,bX,al];rfl
     have aJ:(l.set bk (.q sz ((gV h.l v.l k).map a1++rest))++[am.q 64 ((ey b).map a1)])[bk]?=some (.q sz ((gV h.l v.l k).map a1++rest)):=by
      rw[aS (by simpa using u),nC];simp[u]
     have aH:k+1<=sz:=F;simp[C,w,aD,aJ,J,aM,o,aH,u]
    ·have o:k=8:=F;subst o;simp;exact ak _
   ·have aK:l.set bk (.q sz ((gV h.l v.l 0).map a1++rest))=l:=by
     rw[Fb];exact VX G
    rw[aK];simp[dD.l]
 ·simp[JJ]
abbrev j8 (g:bH dI) :U:=b0 1 (fun s=>[b9 s]) g
theorem F4 (g:bH dI) :(j8 g).ax=true:=m0 (fun s=>by simp only[ar,iL,kz]) g
def bytesOf (g:List dI) :List B:=(g.map bH.l).flatten
theorem bytesOf_take (g:List dI) (k:Nat) (s:dI) (h:g[k]?=some s) :bytesOf (g.take (k+1))=bytesOf (g.take k)++s.l:=by unfold bytesOf;rw[eD,h];simp
theorem FQ (g:List dI) (k:Nat) :(bytesOf (g.take k)).length<=(bytesOf g).length:=by
 conv=>rhs;rw[<-iY k g]
 unfold bytesOf;rw[dk,jp,cg];omega
theorem QN {n:Nat} (C:n<=1000000000) {l:ae} {K:cv} (h:∀ v j l',aJ 1 l' v j []->l.length<=l'.length->(∀ b,b<l.length->l'[b]?=l[b]?)->(bq v=decide (n=0))->K v l') :cG 219 [.af,.i6 n] l K:=by
 apply cR func219 [];have h1:¬((n:Int)<0):=F;have w:IntKind.i64.wrap (n:Int)=n:=wrap_i64 F F;have z:IntKind.i64.wrap (0:Int)=0:=rfl;by_cases g:n=0
 ·subst g;simp;exact h _ 0 _ (.nil 0) (aF _) (fun _ _=>rfl) rfl
 have B:(0:Int)<n:=F;have p:nP l 1 1 [.int .u8 0] .af (.i6 n)=some (.ad 1 l.length 0 n n (n*1),l++[.q (n*1) (cy [.int .u8 0] n)]):=by
  unfold nP ha;simp only[fb];have m:=dw;rw[aj ⟨F,F,by rw[m];omega⟩,ak g,ak F,aj (by rw[m];omega)]
 have o:dB (.ad 1) (.ad 1 l.length 0 n n (n*1)) none (some (.i6 0)) none=some (.ad 1 l.length 0 0 n (n*1)):=by
  rw[sm,A0,aj ⟨F,F⟩];simp[g]
 rw[nH] at p o;have t:0<n:=F;simp[h1,t,w,p,z,o];refine h _ l.length (l++[.q n (cy [.int .u8 0] n)]) (.ad _ 0 n n (cy [.int .u8 0] n) [] V (by rw[uj];simp) rfl V F F rfl) V (fun b u=>aS u) ?_;simp[bq,g]
def tl (g:List dI) :dI:=if bytesOf g=[] then none else some (bytesOf g)
theorem Ov (H8:List dI) :(tl H8).l=bytesOf H8:=by unfold tl;split<;>simp_all
theorem O1 (g:List dI) (T:(bytesOf g).length<=1000000000) (ai:g.length<=1000000000) :mV prog GS 172 [j8 (some g)] (b9 (tl g)):=by
 refine wH checked.mixed ed ?_;apply cR func172 [];simp;have Q:∀ (k:Nat) (s:dI),g[k]?=some s->bF (.ad 1) (j8 (some g)) (.i6 k)=some (.bR [b9 s] 0):=fun k s m=>by simp[j8,n4,m]
 refine bw g.length (fun k j l=>j 0=j8 (some g)/\j 9=j8 (some g)/\j 10=.i6 g.length/\j 11=.i6 k/\j 3=.i6 (bytesOf (g.take k)).length/\l=[]) ?_ ?_
 ·rintro k j l hk ⟨C,P,D,G,K,rfl⟩;obtain⟨j,rfl⟩:=gk C K P D G;clear C K P D G;simp;by_cases h:k<g.length
  ·obtain⟨s,m,_⟩:=aQ h;have o:=bytesOf_take g k s m;have z:=FQ g (k+1);rw[o,cg] at z;have V:IntKind.i64.wrap (((bytesOf (g.take k)).length:Int)+s.l.length)=((bytesOf (g.take k)).length:Int)+s.l.length:=wrap_i64 F F;have B:IntKind.i64.wrap ((k:Int)+1)=k+1:=wrap_i64 F F;have U:¬(((bytesOf (g.take k)).length:Int)+s.l.length<0):=F;simp[h,Q k s m,V,U,B,o]
  ·have w:k=g.length:=F;subst w;simp;refine QN T ?_;intro t v l q ag _ u;simp;refine bw g.length (fun k j l=>j 25=j8 (some g)/\j 26=.i6 g.length/\j 27=.i6 k/\∃ t v,j 6=t/\aJ 1 l t v ((bytesOf (g.take k)).map bL)/\bq t=decide (bytesOf g=[])) ?_ ?_
   ·rintro k j l hk ⟨H,I,J,t,v,O,q,u⟩;obtain⟨j,rfl⟩:=e2 O H I J;clear O H I J;simp;by_cases h:k<g.length
    ·obtain⟨s,m,_⟩:=aQ h;have o:=bytesOf_take g k s m;have z:=FQ g (k+1);rw[o,cg] at z;have B:IntKind.i64.wrap ((k:Int)+1)=k+1:=wrap_i64 F F;have aj:=dw;obtain⟨al,W,ak,h1,R,Y,Z,ae,S⟩:=lp (by_:=1) q (x:=b9 s) (xs:=s.l.map bL) (by simp[b9]) (fun e p=>by obtain⟨x,_,rfl⟩:=cF.1 p;rfl) F F (by simp;omega);simp[h,Q k s m,h1];refine bY.bo ?_;simp[h,B];refine⟨⟨W,by rw[o,dk];exact R⟩,?_⟩;rw[qs S,u];by_cases p:bytesOf g=[]
     ·have X:(bytesOf g).length=0:=by rw[p];rfl
      have:s.l=[]:=il.1 F;simp[p,this]
     ·simp[p]
    ·have w:k=g.length:=F;subst w;simp;rw[fl] at q;refine q.Da (fun _=>rfl) _ ?_ (Ov g);rw[u];unfold tl;split<;>simp_all
   ·simp;refine⟨⟨v,by simpa [bytesOf] using q⟩,?_⟩;rw[u];simp[il]
 ·simp[bytesOf]
theorem OL (s:bH B) :dP prog .eql 100 (b0 1 bL s) .af=some (.bool s.isNone):=vl (e:=5) bd 1 bL s
theorem OM {s:bH B} (D:s.l.length<=1000000000) {l:ae} {K:cv} (g:∀ v j l',aJ 1 l' v j (s.l.map bL)->l.length<=l'.length->(∀ b,b<l.length->l'[b]?=l[b]?)->(v=.af\/l.length<=j)->bq v=s.isNone->K v l') :cG 274 [b0 1 bL s] l K:=by
 apply cR func274 [];simp[OL];cases s with
 | none=>
  simp;exact g _ 0 _ (.nil 0) (aF _) (fun _ _=>rfl) (.inl rfl) rfl
 | some b=>
  simp;have I:=dw;have J:b.length<=1000000000:=D;have C:aJ 1 (l++[am.q 0 []]) (.ad 1 l.length 0 0 0 0) l.length []:=.ad l.length 0 0 0 [] [] V rfl rfl V (aF _) F rfl;obtain⟨O,G,l',h1,m,o,p,t,u⟩:=lp (by_:=1) C (x:=b0 1 bL (some b)) (xs:=b.map bL) V (fun e z=>by obtain⟨x,_,rfl⟩:=cF.1 z;rfl) F F (by simp;omega);simp[h1];refine bY.bo ?_;simp;have H:l.length+1<=l'.length:=by simpa using o
  refine g _ G _ m F (fun b w=>?_) (.inr (by rcases t with h | h<;>(try simp only[cg,du,hI] at h)<;>omega)) ?_
  ·rw[p b (by simp;omega) F,aS w]
  ·rw[qs u];rfl
structure oL where
 st:dD
 rest:dI
 n:Int
def fg (s:dD) (r:U) (n:Int) :ag:=s.l.map a1++[r,.i6 n]
def m5 (m:oL) :U:=.ah (fg m.st (b9 m.rest) m.n)
def o5 (m:oL) (b:dI) :oL:=
 let all:=m.rest.l++b.l
 ⟨(fR m.st all).1,if all=[] then none else some (fR m.st all).2,m.n+b.l.length⟩
theorem Ow (a b:dI) :tl [a,b]=if a.l++b.l=[] then none else some (a.l++b.l):=by
 have:bytesOf [a,b]=a.l++b.l:=by simp[bytesOf]
 unfold tl;rw[this]
theorem QK (h:dD) (b:List B) :grind h (b.take 64)=grind h b:=by unfold grind;rw[VT b 64 F]
theorem qx (s:dD) (r:U) (n:Int) :(fg s r n).length=10:=rfl
theorem GQ (m:oL) (b:dI) (Q:m.rest.l.length+b.l.length<=1000000000) (aH:0<=m.n) (aI:m.n<=1000000000) :mV prog GS 248 [m5 m,b9 b] (m5 (o5 m b)):=by
 refine wH checked.mixed ed ?_;apply cR func248 [da 0 6++[[6,1]]];have aD:(U.ah (fg m.st (b9 m.rest) m.n)).cells=some (fg m.st (b9 m.rest) m.n):=rfl;have ai:(fg m.st (b9 m.rest) m.n)[8]?=some (b9 m.rest):=rfl;have P:=O1 [m.rest,b] (by simp[bytesOf];exact Q) V;rw[Ow] at P;simp[m5,qx,ai];refine Jx P (.cons ?_ .nil) ?_
 ·exact zg (es:=[[b9 m.rest],[b9 b]]) (rest:=[]) rfl rfl V (by simp[ar,iL])
 obtain⟨all,z⟩:=aq (m.rest.l++b.l);have aC:all.length<=1000000000:=by rw[z];simpa using Q
 rw[<-z];simp;refine bw (all.length / 64) (fun k j l=>j 1=b9 b/\j 2=.ptr 0 0 10/\j 4=.ptr 1 0 10/\∃ h s o junk,j 5=b9 s/\l=.q 10 (fg h (b9 m.rest) m.n) ::.q 10 o::junk/\fR m.st all=fR h s.l/\s.l.length=all.length - 64*k/\o.length=10/\s.isNone=decide (all=[])) ?_ ?_
 ·rintro k j l hk ⟨B,C,D,h,s,o,junk,G,rfl,J,t,X,S⟩;obtain⟨j,rfl⟩:=e2 B C D G;clear B C D G;have am:bt (.ad 1) (b9 s)=some (.i6 s.l.length):=ca _;simp[am];by_cases w:(64:Int)<=s.l.length
  ·cases s with
   | none=>simp at w
   | some g=>
   have ag:(64:Int)<=g.length:=w;have H:64<=g.length:=F;simp[ag];refine QJ (h:=h) (b:=g) H (l:=.q 10 (fg h (b9 m.rest) m.n) ::.q 10 o::junk) (bk:=0) (sz:=10) (rest:=[b9 m.rest,.i6 m.n]) rfl F (JT (iL _)) (fun aJ=>?_);have av:dB (.ad 1) (b9 (some g)) (some (.i6 64)) none none=some (b9 (some (g.drop 64))):=by
    unfold b9;rw[KG F F];rfl
   simp[av];have aE:g.length=all.length - 64*k:=t;refine⟨F,grind h g,some (g.drop 64),rfl,o,⟨rfl,rfl⟩,?_,?_,X,?_⟩
   ·rw[J];show fR h g=_;rw[vm h g H,QK];rfl
   ·simp;omega
   ·exact S
  ·have ao:s.l.length<64:=F;have aA:IntKind.i64.wrap (m.n+(b.l.length:Int))=m.n+b.l.length:=wrap_i64 F F;have I:(fg h (b9 m.rest) m.n)[9]?=some (.i6 m.n):=rfl;have al:bt (.ad 1) (b9 b)=some (.i6 b.l.length):=ca _;simp[w,I,al,aA];refine OM F ?_;intro ae Y l T aG R p ap;obtain⟨l',rfl⟩:∃ l',l=.q 10 (fg h (b9 m.rest) m.n) ::.q 10 o::l':=by
    have u:=R 0 V;have v:=R 1 V;cases l with
    | nil=>simp at u
    | cons a l=>cases l with
     | nil=>simp at v
     | cons c l=>simp at u v;subst u v;exact⟨l,rfl⟩
   have ay:∀ r n Iv,aw (fg h r n) 9 [.i6 Iv]=fg h r Iv:=fun _ _ _=>rfl
   have ax:∀ r n Z,aw (fg h r n) 8 [Z]=fg h Z n:=fun _ _ _=>rfl
   have az:=T.cells;simp[I,ay,ax,az,qx,X,lS];have W:∀ r n,List.take 10 (fg h r n)=fg h r n:=fun _ _=>rfl
   rw[W,W];have ak:o5 m b=⟨h,if all=[] then none else some s.l,m.n+b.l.length⟩:=by
    unfold o5;rw[<-z]
    dsimp only
    rw[J,xQ h s.l ao]
   rw[ak];have au:=(T.cY (l':=.q 10 (fg h ae (m.n+(b.l.length:Int))) ::.q 10 (fg h ae (m.n+(b.l.length:Int))) ::l') (by
    rcases p with p | p
    ·exact .inl p
    ·obtain⟨q,rfl⟩:∃ q,Y=q+2:=⟨Y - 2,by simp at p;omega⟩
     exact .inr rfl)).Da (fun _=>rfl) (if all=[] then none else some s.l) (by
     rw[ap,S];split<;>simp_all) (by
     split
     ·rename_i aj;rw[aj] at t;simp at t;rw[t];rfl
     ·rfl)
   refine .ah _ _ rfl fun i c aB K O=>?_
   rcases i with _ | _ | _ | _ | _ | _ | _ | _ | _ | _ | i<;>simp[fg,dD.l] at K O
   all_goals subst K O
   all_goals first | exact au | exact .flat _ rfl
 ·simp;exact⟨m.st,(if all=[] then none else some all),rfl,⟨[.int .u32 0,.int .u32 0,.int .u32 0,.int .u32 0,.int .u32 0,.int .u32 0,.int .u32 0,.int .u32 0,.af,.i6 0],⟨rfl,rfl⟩,by split<;>simp_all,by split<;>simp_all,rfl,by split<;>simp_all⟩⟩
def et (b:List B) :U:=.ah (b.map a7)
def kx (n k:Nat) :List B:=128#8::List.replicate ((119 - n % 64) % 64) 0#8++(vo (BitVec.ofNat 64 n*8#64)).take k
theorem D1 (n:Nat) :kx n 8=tail n:=rfl
theorem Lg (n k:Nat) (x:B) (g:(vo (BitVec.ofNat 64 n*8#64))[k]?=some x) :kx n (k+1)=kx n k++[x]:=by unfold kx;rw[eD,g];simp
theorem zK (n k:Nat) :(kx n k).length<=80:=by unfold kx;have:(vo (BitVec.ofNat 64 n*8#64)).length=8:=rfl;simp;omega
theorem FM (q:BitVec 64) (k:Nat) (hk:k<8) :(vo q)[k]?=some ((q >>> (56 - 8*k)).setWidth 8):=by
 match k,hk with
 | 0,_=>rfl
 | 1,_=>rfl
 | 2,_=>rfl
 | 3,_=>rfl
 | 4,_=>rfl
 | 5,_=>rfl
 | 6,_=>rfl
 | 7,_=>rfl
def mE (s:List W) (k:Nat) :List B:=((s.take k).map pL).flatten++List.replicate (32 - 4*k) 0#8
theorem LX (s:List W) :(s.map pL).flatten.length=4*s.length:=by
 induction s with
 | nil=>rfl
 | cons w s g=>simp[g,pL];omega
theorem TB (s:List W) (k:Nat) (hk:k<=s.length) (g:s.length=8) :(mE s k).length=32:=by unfold mE;rw[cg,LX];simp;omega
theorem TC (s:List W) (k:Nat) (w:W) (hk:s[k]?=some w) (o:s.length=8) :
  ((((mE s k).set (4*k) ((w >>> 24).setWidth 8)).set (4*k+1) ((w >>> 16).setWidth 8)).set (4*k+2) ((w >>> 8).setWidth 8)).set (4*k+3) (w.setWidth 8)=mE s (k+1):=by
 have m:=(aH.1 hk).1;unfold mE;rw[eD,hk];have g:((s.take k).map pL).flatten.length=4*k:=by rw[LX];simp;omega
 obtain⟨A,h⟩:=aq (((s.take k).map pL).flatten);rw[<-h] at g ⊢;have j:32 - 4*k=(32 - 4*(k+1))+1+1+1+1:=F;rw[j,jV,jV,jV,jV];rw[oF _ _ F,oF _ _ F,oF _ _ F,oF _ _ F];simp only[g,sZ,Nat.add_sub_cancel_left,xu,EG,dk,jp,<-h];simp[pL]
def x9 (s:dD) (r:dI) (n:Nat) :List B:=written (fR s (r.l++tail n)).1
theorem PH (s:dD) (r:dI) (n:Nat) (bQ:r.l.length<=100000000) (bM:n<=100000000) :aV 249 [m5 ⟨s,r,n⟩] (et (x9 s r n)):=by
 apply a8 func249 [];have aT:(fg s (b9 r) n)[9]?=some (.i6 n):=rfl;have ai:(U.ah (fg s (b9 r) n)).cells=some (fg s (b9 r) n):=rfl;have av:=th n 64 F;obtain⟨q,Q⟩:=aq (n % 64);rw[show ((64:Int).toNat)=64 from rfl,<-Q] at av;have bP:q<64:=by rw[Q];exact iG _ F
 have ay:IntKind.i64.wrap (119 - (q:Int))=(119 - q:Nat):=by rw[wrap_i64 F F];omega
 have I:=th (119 - q) 64 F;rw[show ((64:Int).toNat)=64 from rfl] at I;obtain⟨v,P⟩:=aq ((119 - q) % 64);rw[<-P] at I;have bJ:v<64:=by rw[P];exact iG _ F
 obtain⟨bU,bk⟩:=aq (119 - q);rw[<-bk] at ay I;have bh:db=140737488355328:=rfl;obtain⟨L,D⟩:=aq ([am.q 10 (fg s (b9 r) n),am.q 32 (bO 32 (U.int IntKind.u8 0)),am.q 1 [U.int IntKind.u8 128]] :ae);have aW:L[0]?=some (am.q 10 (fg s (b9 r) n)):=by rw[D];rfl
 have aX:L[1]?=some (am.q 32 (bO 32 (U.int IntKind.u8 0))):=by rw[D];rfl
 have bG:L.length=3:=by rw[D];rfl
 have bd:aJ 1 L (.ad 1 2 0 1 1 1) 2 [[U.int IntKind.u8 128]]:=by
  rw[D];exact .ad 2 1 1 1 [.int .u8 128] _ rfl rfl rfl V (aF _) (aF _) rfl
 have bc:v<9223372036854775808:=F;have bi:(List.length [[U.int IntKind.u8 128]]+v)*1<=db:=by rw[bh];simp;omega
 have bb:=NF (n:=v) (k:=.i64) (by_:=1) (zero:=[.int .u8 0]) bd rfl F F bc bi;obtain⟨t,j,l,h1,p,aQ,C,J,K⟩:=bb;have H:bq t=false:=by
  rw[pQ];intro al;rw[go,K] at al;cases al.1
 have bl:u 128#8=128:=by decide
 have a3:([[U.int IntKind.u8 128]]++List.replicate v [U.int IntKind.u8 0] :List (ag))=(kx n 0).map bL:=by
  have:v=(119 - n % 64) % 64:=by rw[P,Q]
  unfold kx;rw[<-this];simp[bL,bl]
 rw[a3] at p;have z:=(C 0 F F).trans aW;have o:=(C 1 F F).trans aX;have a6:2<=j:=by rcases J with h | h<;>omega
 simp[m5,qx,aT,av,ay,I];rw[<-D];simp[h1];refine bw 8 (fun k m l=>m 1=.ptr 0 0 10/\m 2=.ptr 1 0 32/\m 3=cX (BitVec.ofNat 64 n*8#64)/\m 5=.i6 (56 - 8*(k:Int))/\∃ t j,m 4=t/\2<=j/\bq t=false/\aJ 1 l t j ((kx n k).map bL)/\l[0]?=some (am.q 10 (fg s (b9 r) n))/\l[1]?=some (am.q 32 (bO 32 (U.int IntKind.u8 0)))) ?_ ?_
 ·rintro k m l hk ⟨S,B,T,Z,t,j,Y,bH,H,p,z,o⟩;obtain⟨m,rfl⟩:=gk S B T Y Z;clear S B T Y Z;obtain⟨c,ai⟩:=aq (56 - 8*(k:Int) :Int);rw[<-ai];simp;by_cases G:0<=c
  ·have a9:k<8:=F;have R:=FM (BitVec.ofNat 64 n*8#64) k a9;have a2:c.toNat=56 - 8*k:=F;have bn:IntKind.i64.wrap (c - 8)=56 - 8*((k:Int)+1):=by rw[wrap_i64 F F];omega
   have bS:=zK n k;have bf:aJ 1 (l++[am.q 1 [a7 (((BitVec.ofNat 64 n*8#64) >>> (56 - 8*k)).setWidth 8)]]) t j ((kx n k).map bL):=p.more _;obtain⟨bz,dd,az,h1,aP,aQ,C,J,K⟩:=lp (by_:=1) bf (x:=.ad 1 l.length 0 1 1 1) (xs:=[[a7 (((BitVec.ofNat 64 n*8#64) >>> (56 - 8*k)).setWidth 8)]]) (by simp[cD]) V F F (by simp;omega);have bI:j<l.length:=by
    rcases p.lt with h | h
    ·subst h;simp[bq] at H
    ·exact h
   have aN:az[0]?=some (am.q 10 (fg s (b9 r) n)):=by rw[C 0 V F,aS (aY z)];exact z
   have aO:az[1]?=some (am.q 32 (bO 32 (U.int IntKind.u8 0))):=by
    have:=aY o;rw[C 1 (by simp;omega) F,aS (aY o)];exact o
   have bm:bq bz=false:=by rw[qs K,H];rfl
   have a5:2<=dd:=by
    rcases J with h | h
    ·omega
    ·have h:=dC (show l.length<=(l++[am.q 1 [a7 (((BitVec.ofNat 64 n*8#64) >>> (56 - 8*k)).setWidth 8)]]).length by simp) h;omega
   simp[G,a2,h1];refine bY.bo ?_;simp[G,bn];exact⟨F,dd,a5,bm,by rw[Lg n k _ R,dk];exact aP,aN,aO⟩
  ·have O:k=8:=F;subst O;rw[D1] at p;have aj:=GQ ⟨s,r,n⟩ (some (tail n)) (by have:=zK n 8;rw[D1] at this;simp;omega) V (by simp;omega);have R:=p.lP (fun _=>rfl) (some (tail n)) (by rw[H];rfl) rfl;have ak:(o5 ⟨s,r,n⟩ (some (tail n))).st=(fR s (r.l++tail n)).1:=rfl;obtain⟨g,aU⟩:=aq (o5 ⟨s,r,n⟩ (some (tail n)));rw[<-aU] at aj ak;have bK:ar [m5 ⟨s,r,n⟩]=true:=by simp[ar,m5,U.ax,fg,dD.l,iL]
   have a4:yi 8 0 (m5 g)=some (.ah (g.st.l.map a1)):=rfl;have ap:g.st.l.length=8:=rfl;simp[G,z,qx];refine Jx aj (.cons (JT ?_) (.cons R .nil)) ?_
   ·show (U.ah (fg s (b9 r) n)).ax=true;simp[U.ax,ar,fg,dD.l,iL]
   simp[a4];refine bw 8 (fun k m l=>m 2=.ptr 1 0 32/\m 33=.ah (g.st.l.map a1)/\m 34=.i6 k/\l[1]?=some (am.q 32 ((mE g.st.l k).map a7))) ?_ ?_
   ·rintro k m l hk ⟨B,W,X,o⟩;obtain⟨m,rfl⟩:=gj B W X;clear B W X;obtain⟨bV,bT,rfl⟩:=W5 o;clear o;simp;by_cases G:(k:Int)<8
    ·have ao:k<8:=F;obtain⟨w,aw⟩:∃ w,g.st.l[k]?=some w:=⟨_,bC (show k<g.st.l.length from ao)⟩
     have bN:=TB g.st.l k F ap;have au:=TC g.st.l k w aw ap;have aB:IntKind.i64.wrap (4*(k:Int))=(4*k:Nat):=by rw[wrap_i64 F F];omega
     have aC:IntKind.i64.wrap (((4*k:Nat) :Int)+1)=(4*k+1:Nat):=by rw[wrap_i64 F F];omega
     have aD:IntKind.i64.wrap (((4*k:Nat) :Int)+2)=(4*k+2:Nat):=by rw[wrap_i64 F F];omega
     have aE:IntKind.i64.wrap (((4*k:Nat) :Int)+3)=(4*k+3:Nat):=by rw[wrap_i64 F F];omega
     have bA:IntKind.i64.wrap ((k:Int)+1)=k+1:=wrap_i64 F F;obtain⟨a,a0⟩:=aq (4*k);rw[<-a0] at aB aC aD aE au;have bu:=lT a7 (mE g.st.l k) a ((w >>> 24).setWidth 8) F;have bv:=lT a7 ((mE g.st.l k).set a ((w >>> 24).setWidth 8)) (a+1) ((w >>> 16).setWidth 8) (by simp;omega);have bx:=lT a7 (((mE g.st.l k).set a ((w >>> 24).setWidth 8)).set (a+1) ((w >>> 16).setWidth 8)) (a+2) ((w >>> 8).setWidth 8) (by simp;omega);have aA:=lT a7 ((((mE g.st.l k).set a ((w >>> 24).setWidth 8)).set (a+1) ((w >>> 16).setWidth 8)).set (a+2) ((w >>> 8).setWidth 8)) (a+3) (w.setWidth 8) (by simp;omega);rw[au] at aA;have aG:(a:Int)<32:=F;have bB:((a+1:Nat) :Int)<32:=F;have bE:((a+2:Nat) :Int)<32:=F;have bF:((a+3:Nat) :Int)<32:=F;have aH:a+1<=32:=F;have aK:a+1+1<=32:=F;have aL:a+2+1<=32:=F;have aM:a+3+1<=32:=F;have d1:(a:Int)+1<32:=F;have d2:(a:Int)+2<32:=F;have d3:(a:Int)+3<32:=F;have f1:((a:Int)+1).toNat=a+1:=F;have f2:((a:Int)+2).toNat=a+2:=F;have f3:((a:Int)+3).toNat=a+3:=F;have br:(0:Int)<=(a:Int)+1:=F;have bs:(0:Int)<=(a:Int)+2:=F;have bt:(0:Int)<=(a:Int)+3:=F;simp[G,ao,aw,aB,aC,aD,aE,bA,aG,bu,bv,bx,aA,aH,aK,aL,aM,d1,d2,d3,f1,f2,f3,br,bs,bt,-List.map_set]
    ·have O:k=8:=F;subst O;have bg:mE g.st.l 8=written g.st:=by simp[mE,written,dD.l]
     rw[bg];have bp:(written g.st).length=32:=rfl;simp[bp,lS,aI];exact aR (by unfold et x9;rw[ak]) (F6 a7 (fun _=>rfl) _)
   ·simp[o];rw[J5 .u8 8];rfl
 ·simp;exact⟨j,a6,H,p,z,o⟩
structure s5 (m:oL) (b:List B) :Prop where
 AW:fR first b=(m.st,m.rest.l)
 n:m.n=b.length
theorem Rn {m:oL} {b:List B} (h:s5 m b) (s:dI) :s5 (o5 m s) (b++s.l):=by
 have h1:fR first (b++s.l)=fR m.st (m.rest.l++s.l):=by rw[FH,h.AW]
 refine⟨?_,?_⟩
 ·rw[h1];unfold o5
  dsimp only
  split
  ·rename_i g;rw[g];rfl
  ·rfl
 ·unfold o5
  dsimp only
  rw[h.n];simp
theorem Ro {m:oL} {b:List B} (h:s5 m b) :m.rest.l.length<64:=by
 have:=N2 first b
 rw[h.AW] at this;simp only at this;rw[this];exact iG _ F
theorem Rm {m:oL} {b:List B} (h:s5 m b) :x9 m.st m.rest b.length=fi b:=by unfold x9 fi;rw[FH first b,h.AW]
def start:oL:=⟨first,none,0⟩
theorem Rp:s5 start []:=⟨rfl,rfl⟩
theorem WC:mV prog GS 247 [] (m5 start):=by refine wH checked.mixed ed ?_;apply cR func247 [];simp;exact .flat _ rfl
def n5 (s:dI) :Bool:=decide ((10000:Int)<s.l.length)
theorem RU (s:dI) :aV 246 [b9 s] (.bool (n5 s)):=by apply a8 func246 [];simp[b9];exact aG
theorem Qi:fI prog 246=true:=bd
def idx (l:List dI) :Int:=match l.findIdx? n5 with | some i=>(i:Int) | none=>-1
theorem QV {l:List dI} {k:Nat} {s:dI} (o:l[k]?=some s) (h:n5 s=true) (m:∀ j s,j<k->l[j]?=some s->n5 s=false) :idx l=k:=by
 have:l.findIdx? n5=some k:=by
  rw[List.findIdx?_eq_some_iff_getElem];obtain⟨h1,rfl⟩:=aH.1 o;refine⟨h1,h,fun j g=>?_⟩;rw[m j l[j] g (bC F)];simp
 unfold idx;rw[this]
theorem HD {l:List dI} (h:∀ j s,j<l.length->l[j]?=some s->n5 s=false) :idx l=-1:=by
 have:l.findIdx? n5=none:=by
  rw[List.findIdx?_eq_none_iff];intro x m;obtain⟨j,g⟩:=cc.1 m;exact h j x (aH.1 g).1 g
 unfold idx;rw[this]
theorem BT (g:bH dI) (I:g.l.length<=1000000000) :aV 272 [j8 g,.fn 246 [] []] (.i6 (idx g.l)):=by
 apply a8 func272 [];have D:bt (.ad 1) (j8 g)=some (.i6 g.l.length):=ca _;simp[D];refine bw g.l.length (fun k m l=>m 0=j8 g/\m 1=.fn 246 [] []/\m 7=.i6 g.l.length/\m 8=.i6 k/\∀ j s,j<k->g.l[j]?=some s->n5 s=false) ?_ V;rintro k m l hk ⟨t,u,v,w,p⟩;obtain⟨m,rfl⟩:=e2 t u v w;clear t u v w;simp;by_cases h:k<g.l.length
 ·obtain⟨s,o,_⟩:=aQ h;have B:bF (.ad 1) (j8 g) (.i6 k)=some (.bR [b9 s] 0):=by
   rw[n4];simp[o]
  have G:IntKind.i64.wrap ((k:Int)+1)=k+1:=wrap_i64 F F;simp[h,B];refine⟨Qi,av (RU s) (by simp[ar,iL]) ?_⟩;cases z:n5 s with
  | true=>
   simp;rw[QV o z p];exact aG
  | false=>
   simp[h,G];intro j H C q;rcases fB j k with h1 | h1
   ·exact p j H h1 q
   ·have:j=k:=F;subst this;rw[o] at q;cases q;exact z
 ·simp[h];rw[HD (fun j s C o=>p j s F o)];exact aG
theorem O3 (g:bH dI) (h:g.l.length<=1000000000) :aV 245 [j8 g,.fn 246 [] []] (.bool (decide (0<=idx g.l))):=by apply a8 func245 [];simp;refine av (BT g h) (by simp[ar,U.ax,F4]) ?_;simp;exact aG
theorem Jf (g:List dI) (al:g.length<=20) (v:∀ s∈g,s.l.length<=10000) :aV 205 [j8 (some g)] (.aZ [et (fi (bytesOf g)),.i6 0]):=by
 have W:idx g=-1:=HD fun au s ao o=>by
  have:=v s (cz o);unfold n5;simp;omega
 have Y:∀ k,(bytesOf (g.take k)).length<=200000:=fun k=>by
  have:∀ l:List dI,(∀ s∈l,s.l.length<=10000)->(bytesOf l).length<=10000*l.length:=by
   intro l
   induction l with
   | nil=>intro _;simp[bytesOf]
   | cons s l ak=>
    intro h;have h1:=ak fun x aj=>h x (by simp[aj])
    have Q:=h s V;unfold bytesOf at h1 ⊢;rw[dh,gR,cg,du];omega
  have h1:=this (g.take k) fun s o=>v s (gE o)
  have Q:(g.take k).length<=20:=by simp;omega
  omega
 apply a8 func205 [];have R:¬(20:Int)<g.length:=F;have H:=O3 (some g) (by simp;omega);rw[bH.lE,W] at H;simp[R];refine av H (by simp[ar,U.ax,F4]) ?_;simp;refine av WC.zN rfl ?_;simp[m5,qx];refine bw g.length (fun k m l=>m 2=.ptr 0 0 32/\m 4=.ptr 1 0 10/\m 16=j8 (some g)/\m 17=.i6 g.length/\m 18=.i6 k/\∃ j,s5 j (bytesOf (g.take k))/\l=[.q 32 (bO 32 (.int .u8 0)),.q 10 (fg j.st (b9 j.rest) j.n)]) ?_ ?_
 ·rintro k m l hk ⟨C,D,w,z,B,j,p,rfl⟩;obtain⟨m,rfl⟩:=gk C D w z B;clear C D w z B;simp;have G:(U.ah (fg j.st (b9 j.rest) j.n)).ax=true:=by simp[U.ax,ar,fg,dD.l,iL]
  have O:List.take 10 (fg j.st (b9 j.rest) j.n)=fg j.st (b9 j.rest) j.n:=rfl;have ap:=Ro p;have J:=p.n;have Z:=Y k;by_cases h:k<g.length
  ·obtain⟨s,o,ag⟩:=aQ h;have T:bF (.ad 1) (j8 (some g)) (.i6 k)=some (.bR [b9 s] 0):=by
    rw[n4];simp[o]
   have ai:IntKind.i64.wrap ((k:Int)+1)=k+1:=wrap_i64 F F;have h1:=v s ag;have I:=GQ j s F F F;have u:=Rn p s;rw[<-bytesOf_take g k s o] at u;obtain⟨P,S⟩:=aq (o5 j s);rw[<-S] at I u;simp[h,T,qx,O];refine av I.zN ?_ ?_
   ·simp only[ar,G,iL,kz]
   simp[m5,qx,h,ai];exact⟨P,u,rfl⟩
  ·have X:k=g.length:=F;subst X;rw[fl] at p J Z;have t:=PH j.st j.rest (bytesOf g).length F F;rw[Rm p] at t;have ae:j=⟨j.st,j.rest,((bytesOf g).length:Int)⟩:=by rw[<-J]
   rw[<-ae] at t;have K:=jk (bytesOf g);simp[h,qx,O];refine av t ?_ ?_
   ·simp only[ar,G,kz]
   have am:((fi (bytesOf g)).map a7).length=32:=by rw[cC,K]
   simp[et,K,lS,aI];exact aR rfl (by simp[U.ax,ar,i7 a7 (fun _=>rfl)])
 ·simp[bytesOf];exact⟨start,Rp,rfl⟩
theorem WO (s:dI) (h:s.l.length<=10000) :aV 150 [b9 s] (.aZ [et (fi s.l),.i6 0]):=by
 have j:bytesOf [s]=s.l:=by simp[bytesOf]
 have g:=Jf [s] V (by simpa using h);rw[j] at g;apply a8 func150 [];have m:=jk s.l;simp;refine g0 g (.cons ?_ .nil) (by simp[U.flat,ka,et,tA a7 (fun _=>rfl)]) ?_
 ·exact zg (es:=[[b9 s]]) (rest:=[]) rfl rfl V (by simp[ar,iL])
 simp[et,m,lS,aI];exact aR rfl (by simp[U.ax,ar,i7 a7 (fun _=>rfl)])
theorem oy (x:W) (n:Nat) (m:0<n) (h:n<32) :aV 265 [a1 x,.i6 n] (a1 (kp x n)):=by
 apply a8 func265 [];have j:IntKind.i64.wrap (32 - (n:Int))=(32 - n:Nat):=by rw[wrap_i64 F F];omega
 obtain⟨o,g⟩:=aq (32 - n);rw[<-g] at j;simp[j];exact aR (by unfold kp;rw[g]) rfl
def dR (x:W) :ag:=[a1 x]
theorem O2:mV prog GS 266 [] (b0 1 dR (some bZ)):=by refine wH checked.mixed ed ?_;apply cR func266 [];simp;exact JW (z:=1) (es:=bZ.map dR) (rest:=[]) bd bd (fun e g=>by obtain⟨y,_,rfl⟩:=cF.1 g;rfl) (fun e g=>by obtain⟨y,_,rfl⟩:=cF.1 g;rfl)
theorem Qc:aV 186 [] (.ah (first.l.map a1)):=by apply a8 func186 [];simp;exact aG
theorem X2 (b:List B) (t:Nat) (g j m o:B) (q:b[4*t]?=some g) (h1:b[4*t+1]?=some j) (u:b[4*t+2]?=some m) (p:b[4*t+3]?=some o) :
  lX ((b.drop (4*t)).take 4)=((g.setWidth 32*256#32+j.setWidth 32)*256#32+m.setWidth 32)*256#32+o.setWidth 32:=by
 have h:(b.drop (4*t)).take 4=[g,j,m,o]:=by
  have v:=(aH.1 p).1;apply g7;intro i
  match i with
  | 0=>simp[q]
  | 1=>simp[h1]
  | 2=>simp[u]
  | 3=>simp[p]
  | i+4=>rw[dV (by simp;omega),dV V]
 rw[h];show ((((0#32 <<< 8 ||| g.setWidth 32) <<< 8 ||| j.setWidth 32) <<< 8 ||| m.setWidth 32) <<< 8 ||| o.setWidth 32)=_;rw[zB,zB,zB,zB];simp
theorem LO {l:ae} {v:U} {j:Nat} {g:List W} (h:aJ 1 l v j (g.map dR)) (t:bq v=false) :∃ (cap sz:Nat) (cs:ag),v=.ad 1 j 0 g.length cap sz/\l[j]?=some (.q sz cs)/\∀ (i:Nat) (x:W),g[i]?=some x->cs[i]?=some (a1 x):=by obtain⟨n,cap,sz,cs,h1,o,w,m,z,p,_⟩:=h.view t;rw[cC] at m;subst m;refine⟨cap,sz,cs,h1,o,fun i x u=>?_⟩;have:=p i (dR x) (by rw[bX,u];rfl) 0 F;simpa [dR] using this
theorem X5 (b:List B) (k:Nat) (hk:k<16) :(ei b).take (k+1)=(ei b).take k++[lX ((b.drop (4*k)).take 4)]:=by
 have:(ei b)[k]?=some (lX ((b.drop (4*k)).take 4)):=by unfold ei;rw[bX,g9 hk];rfl
 rw[eD,this];rfl
theorem X3 (b:List B) :(ei b).length=16:=by simp[ei]
theorem PX (k:Nat) (b:List B) :(gN k (ei b)).length=16+k:=by simp[rF,ei]
theorem QL (h:dD) (b:List B) (cr:64<=b.length) :aV 231 [.ah (h.l.map a1),b9 (some b)] (.ah ((grind h b).l.map a1)):=by
 have bl:db=140737488355328:=rfl;have bS:(h.l.map a1).length=8:=rfl;apply a8 func231 [[],[],da 0 13++[[14],[17],[18],[21],[23],[26],[27],[13,10,5],[15,10,5],[16],[19],[20],[22,10,5],[24,10,5],[25]],[],[[0],[1],[2],[4],[7]]++da 11 8++da 20 4++da 25 4++[[3,28,23,1],[5,28,23,1],[6],[8,28,23,1],[9],[10],[19],[24]]];simp[bS];refine bw 16 (fun k m l=>m 1=b9 (some b)/\m 2=.ptr 0 0 8/\m 4=.ptr 1 0 8/\m 6=.i6 k/\∃ v j o rest,m 5=v/\(bq v=true->k=0)/\(v=.af\/2<=j)/\aJ 1 l v j (((ei b).take k).map dR)/\l=.q 8 (h.l.map a1) ::.q 8 o::rest/\o.length=8) ?_ ?_
 ·rintro k m l hk ⟨a5,u,C,bb,v,j,o,rest,K,J,V,D,rfl,ao⟩;obtain⟨m,rfl⟩:=gk a5 u C K bb;clear a5 u C K bb;by_cases bV:(k:Int)<16
  ·have G:k<16:=F;obtain⟨a,P⟩:=aq (4*k);have cj:IntKind.i64.wrap (4*(k:Int))=(a:Nat):=by rw[wrap_i64 F F];omega
   obtain⟨mW,bJ⟩:=aq (a+1);obtain⟨AI,bM⟩:=aq (a+2);obtain⟨a3,bN⟩:=aq (a+3);have ck:IntKind.i64.wrap ((a:Int)+1)=mW:=by rw[wrap_i64 F F];omega
   have a4:IntKind.i64.wrap ((a:Int)+2)=AI:=by rw[wrap_i64 F F];omega
   have cn:IntKind.i64.wrap ((a:Int)+3)=a3:=by rw[wrap_i64 F F];omega
   have wk:IntKind.i64.wrap ((k:Int)+1)=k+1:=wrap_i64 F F;obtain⟨aG,bd⟩:∃ x,b[a]?=some x:=⟨_,bC F⟩
   obtain⟨aK,bf⟩:∃ x,b[mW]?=some x:=⟨_,bC F⟩
   obtain⟨X,bg⟩:∃ x,b[AI]?=some x:=⟨_,bC F⟩
   obtain⟨aL,bh⟩:∃ x,b[a3]?=some x:=⟨_,bC F⟩
   have aA:∀ (i:Nat) (x:B),b[i]?=some x->bF (.ad 1) (b9 (some b)) (.i6 i)=some (.bR (bL x) 0):=fun i x aE=>by rw[n4];simp[aE]
   have cf:=aA a aG bd;have cg:=aA mW aK bf;have rR:=aA AI X bg;have ch:=aA a3 aL bh;have aX:=X5 b k G;rw[X2 b k aG aK X aL (by rw[<-P];exact bd) (by rw[<-P,<-bJ];exact bf) (by rw[<-P,<-bM];exact bg) (by rw[<-P,<-bN];exact bh)] at aX;obtain⟨w,S⟩:=aq (((aG.setWidth 32*256#32+aK.setWidth 32)*256#32+X.setWidth 32)*256#32+aL.setWidth 32);rw[<-S] at aX;have aU:aJ 1 ([.q 8 (h.l.map a1),.q 8 o]++(rest++[am.q 1 [a1 w]])) v j (((ei b).take k).map dR):=D.more [am.q 1 [a1 w]];have cu:(((ei b).take k).map dR).length<=16:=by simp;omega
   obtain⟨au,ap,a2,h1,aM,aO,aP⟩:=rr (by_:=4) aU V (x:=.ad 1 (rest.length+2) 0 1 1 1) (xs:=[dR w]) (by simp[cD,dR]) (by simp[dR]) F F (by rw[bl];simp;omega);have aN:aJ 1 (.q 8 (h.l.map a1) ::.q 8 o::a2) au ap (((ei b).take (k+1)).map dR):=by rw[aX,dk];exact aM
   simp only[jo,im] at h1;have aD:bq au=false:=by rw[aP];simp
   simp[bV,cj,ck,a4,cn,cf,cg,rR,ch,bL];rw[<-S];simp[h1];refine bY.bo ?_;simp[wk,G];exact⟨aD,ap,aO,by rw[<-mP];exact aN,ao⟩
  ·have G:k=16:=F;subst G;have bn:bq v=false:=by
    cases cb:bq v with
    | false=>rfl
    | true=>exact bK (J cb) F
   have bT:2<=j:=by
    rcases V with h | h
    ·subst h;cases bn
    ·exact h
   have b4:aJ 1 (.q 8 (h.l.map a1) ::.q 8 o::rest) v j ((ei b).map dR):=by
    have:(ei b).take 16=ei b:=aI (by rw[X3];omega);rw[this] at D;exact D
   clear J V D;simp;refine bw 48 (fun k m l=>m 2=.ptr 0 0 8/\m 4=.ptr 1 0 8/\m 7=.i6 (16+k:Nat)/\∃ v j o rest,m 5=v/\bq v=false/\2<=j/\aJ 1 l v j ((gN k (ei b)).map dR)/\l=.q 8 (h.l.map a1) ::.q 8 o::rest/\o.length=8) ?_ ?_
   ·rintro k m l hk ⟨u,C,bc,v,j,o,rest,K,J,V,D,rfl,ao⟩;obtain⟨m,rfl⟩:=e2 u C K bc;clear u C K bc;obtain⟨t,bm⟩:=aq (16+k);rw[<-bm];by_cases aQ:(t:Int)<64
    ·have cc:IntKind.i64.wrap ((t:Int)+1)=(t+1:Nat):=wrap_i64 F F;have b3:=PX k b;obtain⟨vO,bE⟩:=aq (t - 15);obtain⟨rR,bG⟩:=aq (t - 2);obtain⟨vP,x6⟩:=aq (t - 16);obtain⟨vQ,bH⟩:=aq (t - 7);have cl:IntKind.i64.wrap ((t:Int) - 15)=vO:=by rw[wrap_i64 F F];omega
     have a4:IntKind.i64.wrap ((t:Int) - 2)=rR:=by rw[wrap_i64 F F];omega
     have cm:IntKind.i64.wrap ((t:Int) - 16)=vP:=by rw[wrap_i64 F F];omega
     have cp:IntKind.i64.wrap ((t:Int) - 7)=vQ:=by rw[wrap_i64 F F];omega
     obtain⟨p,ce⟩:=aq (gN k (ei b));have R:=Bx k (ei b);rw[<-ce] at b3 D R;have cd:p.length=t:=F;unfold ext at R
     dsimp only at R
     rw[cd,<-bE,<-bG,<-x6,<-bH] at R;have aw:∀ i,i<t->p[i]?=some (p.getD i 0#32):=fun i ct=>by rw[gm,bC F];rfl
     obtain⟨x,aE⟩:=aq (p.getD vO 0#32);obtain⟨y,al⟩:=aq (p.getD rR 0#32);obtain⟨bt,bp⟩:=aq (p.getD vP 0#32);obtain⟨bu,br⟩:=aq (p.getD vQ 0#32);rw[<-aE,<-al,<-bp,<-br] at R;obtain⟨cap,W,cs,rfl,aB,T⟩:=LO D J;have bA:=T vO x (by rw[aE];exact aw vO F);have bB:=T rR y (by rw[al];exact aw rR F);have Y:=T vP bt (by rw[bp];exact aw vP F);have Z:=T vQ bu (by rw[br];exact aw vQ F);obtain⟨w,S⟩:=aq (bt+bu+(kp x 7 ^^^ kp x 18 ^^^ x >>> 3)+(kp y 17 ^^^ kp y 19 ^^^ y >>> 10));rw[<-S] at R;have aU:aJ 1 ([.q 8 (h.l.map a1),.q 8 o]++(rest++[am.q 1 [a1 w]])) _ j (p.map dR):=D.more [am.q 1 [a1 w]];obtain⟨au,ap,a2,h1,aM,aO,aP⟩:=rr (by_:=4) aU (.inr V) (x:=.ad 1 (rest.length+2) 0 1 1 1) (xs:=[dR w]) (by simp[cD,dR]) (by simp[dR]) F F (by rw[bl];simp;omega);have aN:aJ 1 (.q 8 (h.l.map a1) ::.q 8 o::a2) au ap ((gN (k+1) (ei b)).map dR):=by rw[R,dk];exact aM
     simp only[jo,im] at h1;have aD:bq au=false:=by rw[aP];rfl
     obtain⟨I,rfl⟩:∃ I,j=I+2:=⟨j - 2,F⟩
     have H:rest[I]?=some (.q W cs):=by simpa using aB
     have aj:(rest++[am.q 1 [a1 w]])[I]?=some (.q W cs):=by rw[aS (aY H)];exact H
     have bv:vO<p.length:=F;have X:rR<p.length:=F;have bx:vP<p.length:=F;have bz:vQ<p.length:=F;have t7:=oy x 7 F F;have t18:=oy x 18 F F;have t17:=oy y 17 F F;have t19:=oy y 19 F F;simp at t7 t18 t17 t19;simp[aQ,cl,a4,cm,cp,bv,X,bx,bz,H,bA,bB,Y,Z];refine av t7 rfl ?_;simp[H,Y,Z];refine av t18 rfl ?_;simp[H,Y,Z];refine av t17 rfl ?_;simp[H,Y,Z];refine av t19 rfl ?_;simp[H,Y,Z];rw[<-S];simp[h1];refine bY.bo ?_;simp[cc];exact⟨F,F,aD,ap,aO.resolve_left (by intro e;subst e;cases aD),aN,ao⟩
    ·have G:k=48:=F;subst G;subst bm;have b7:gN 48 (ei b)=ey b:=rfl;rw[b7] at D;obtain⟨cap,W,cs,rfl,aB,T⟩:=LO D J;obtain⟨I,rfl⟩:∃ I,j=I+2:=⟨j - 2,F⟩
     have H:rest[I]?=some (.q W cs):=by simpa using aB
     have b8:=wS b;rw[b8];clear D J V aB;simp;refine av O2.zN rfl ?_;have Q:h.l.length=8:=rfl;simp[lS,Q];refine bw 64 (fun k m l=>m 2=.ptr 0 0 8/\m 4=.ptr 1 0 8/\m 5=.ad 1 (I+2) 0 64 cap W/\m 10=b0 1 dR (some bZ)/\m 11=.ptr (rest.length+2) 0 8/\m 12=.i6 k/\l=.q 8 (h.l.map a1) ::.q 8 o::(rest++[.q 8 ((jJ h b k).l.map a1)])) ?_ ?_
     ·rintro k m l hk ⟨u,C,K,a6,ae,a7,rfl⟩;obtain⟨m,rfl⟩:=pJ u C K a6 ae a7;clear u C K a6 ae a7;have bU:=aY H;have aj:∀ x:am,(rest++[x])[I]?=some (.q W cs):=fun x=>by rw[aS bU];exact H
      by_cases aQ:(k:Int)<64
      ·have aT:k<64:=F;have a0:IntKind.i64.wrap ((k:Int)+1)=(k+1:Nat):=wrap_i64 F F;have bk:bZ[k]?=some (bZ.getD k 0#32):=by rw[gm,bC (show k<bZ.length from aT)];rfl
       have ak:=T k ((ey b).getD k 0#32) (by rw[gm,bC F];rfl);rw[JI h b k aT];obtain⟨wk,S⟩:∃ wk,(ey b).getD k 0#32=wk:=⟨_,rfl⟩
       obtain⟨mz,b2⟩:∃ mz,bZ.getD k 0#32=mz:=⟨_,rfl⟩
       obtain⟨s,b5⟩:∃ s,jJ h b k=s:=⟨_,rfl⟩
       rw[S] at ak ⊢;rw[b2] at bk ⊢;rw[b5];have ci:bF (.ad 1) (b0 1 dR (some bZ)) (.i6 k)=some (.bR (dR mz) 0):=by rw[n4];simp[bk]
       have t6:=oy s.e 6 F F;have t11:=oy s.e 11 F F;have t25:=oy s.e 25 F F;have t2:=oy s.a 2 F F;have t13:=oy s.a 13 F F;have t22:=oy s.a 22 F F;simp at t6 t11 t25 t2 t13 t22;have b6:s.l=[s.a,s.b,s.c,s.d,s.e,s.f,s.g,s.h]:=rfl;have cv:(round s mz wk).l=[(round s mz wk).a,(round s mz wk).b,(round s mz wk).c,(round s mz wk).d,(round s mz wk).e,(round s mz wk).f,(round s mz wk).g,(round s mz wk).h]:=rfl;simp[aQ,b6,ci,dR,aj,ak];refine av t6 rfl ?_;simp[aj,ak];refine av t11 rfl ?_;simp[aj,ak];refine av t25 rfl ?_;simp[aj,ak];refine av t2 rfl ?_;simp;refine av t13 rfl ?_;simp;refine av t22 rfl ?_;simp[lS,aT,a0];rfl
      ·have G:k=64:=F;subst G;rw[JH];obtain⟨v,J⟩:∃ v,rounds h bZ (ey b)=v:=⟨_,rfl⟩
       rw[J];have bP:grind h b=⟨h.a+v.a,h.b+v.b,h.c+v.c,h.d+v.d,h.e+v.e,h.f+v.f,h.g+v.g,h.h+v.h⟩:=by unfold grind;rw[J]
       have aC:h.l.length=v.l.length:=rfl;have Q:h.l.length=8:=rfl;have bO:(grind h b).l=gV h.l v.l 8:=by rw[bP];rfl
       rw[bO];simp;refine bw 8 (fun k m l=>m 2=.ptr 0 0 8/\m 4=.ptr 1 0 8/\m 11=.ptr (rest.length+2) 0 8/\m 21=.i6 k/\l=.q 8 ((gV h.l v.l k).map a1) ::.q 8 o::(rest++[.q 8 (v.l.map a1)])) ?_ ?_
       ·rintro k m l hk ⟨u,C,ae,a9,rfl⟩;obtain⟨m,rfl⟩:=e2 u C ae a9;clear u C ae a9;by_cases b1:(k:Int)<8
        ·have ai:k<8:=F;have a0:IntKind.i64.wrap ((k:Int)+1)=(k+1:Nat):=wrap_i64 F F;obtain⟨y,al⟩:∃ y,v.l[k]?=some y:=⟨_,bC (show k<v.l.length from ai)⟩
         obtain⟨z,bs⟩:∃ z,h.l[k]?=some z:=⟨_,bC (show k<h.l.length from ai)⟩
         have P:=E9 aC (k:=k) (by rw[Q];exact ai);rw[bs] at P;have az:=AJ aC k;have aW:=lT a1 (gV h.l v.l k) k (z+y) (by rw[az,Q];exact ai);rw[Fa aC bs al] at aW;have bi:(List.map a1 (gV h.l v.l k))[k]?=some (a1 z):=by rw[bX,P];rfl
         have bW:k<=7:=F;obtain⟨A,O⟩:=aq ((gV h.l v.l k).map a1);have ay:A.length=8:=by rw[O,cC,az,Q]
         rw[<-O] at bi aW ⊢;obtain⟨cq,bQ⟩:=aH.1 bi;simp[b1,ai,a0,bQ,al,aW,ay,bW]
        ·have G:k=8:=F;subst G;have az:=AJ aC 8;have ca:∀ A:ag,A.length=8->A.take 8=A:=fun A O=>aI F
         obtain⟨A,O⟩:=aq ((gV h.l v.l 8).map a1);have ay:A.length=8:=by rw[O,cC,az,Q]
         have bI:ar A=true:=by rw[O];exact i7 a1 (fun _=>rfl) _
         rw[<-O];simp[lS,ao,ay,ca A ay];exact aR rfl (by simp[U.ax,bI])
       ·simp[Fb]
     ·simp[JJ];exact aI (by simp[Q])
   ·refine⟨rfl,rfl,rfl,v,j,o,rest,rfl,bn,bT,b4,rfl,ao⟩
 ·simp;exact⟨0,.nil 0⟩
end b8
end Go.bf

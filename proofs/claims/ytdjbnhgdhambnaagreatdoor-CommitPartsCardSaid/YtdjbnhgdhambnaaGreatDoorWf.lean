/-
  The canonical machine: slices.SortFunc on a row of one's own.
-/
import Derived.Test.YtdjbnhgdhambnaaGreatDoorWe
import Derived.Lib.AppendZerosOnto
import Derived.ProofKit
import Derived.Test.YtdjbnhgdhambnaaGreatDoorRows
set_option maxHeartbeats 16000000
set_option maxRecDepth 100000
set_option linter.unusedVariables false
set_option linter.unusedSimpArgs false
set_option linter.unnecessarySimpa false
namespace Go.bh
open Go Go.Proofs Go.Proofs.Tryz Go.Shelf Go.Sort Go.RowKit
def Bd (P:bj) (f g:cf) (k:Nat) {X:Type} [Inhabited X] (dI:X->List aA) (o:X->X->Int) :Prop:=
 ∀ (h j cap:Nat) (d:Array X) (w:aQ),CmpLays P g #[] dI k o h j d.size w->HoldsK dI k w h j d->h<w.heap.size->d.size<4611686018427387904->
  Calls P f #[.slice (some ⟨h,j,none⟩) d.size cap,.func (.func g) #[] #[]] w fun e w'=>e=.returned (.tuple #[])/\∃ m n p,PermIn 0 d.size d m/\SortedIn (ltOf o) 0 d.size m/\w'=sortWorldK dI k w h j n m p
def sorted {X:Type} (g:X->X->Int) (xs:List X) :List X:=xs.mergeSort fun x y=>!ltOf g y x
theorem LM {X:Type} (g:X->X->Int) (xs:List X) :(sorted g xs).length=xs.length:=List.length_mergeSort _
section
variable {P:bj} {G:Nat->U} {X:Type} {enc:X->ag} {k:Nat}
theorem xb (hk:∀ x,(enc x).length=k) (xs:List X) {j:Nat} (o:j<xs.length*k) :∃ x c,xs[j / k]?=some x/\(enc x)[j % k]?=some c/\((xs.map enc).flatten)[j]?=some c:=by
 have t:0<k:=Nat.pos_of_ne_zero fun h=>by subst h;simp at o
 have h1:j / k<xs.length:=Nat.div_lt_of_lt_mul (by rw[xY];exact o);have g:j % k<k:=iY _ t;refine⟨xs[j / k],(enc xs[j / k])[j % k]'(by rw[hk];exact g),bI h1,bI _,?_⟩;have p:(xs.map enc)[j / k]?=some (enc xs[j / k]):=by rw[bW,bI h1];rfl
 have m:=lT (z:=k) (fun e q=>by obtain⟨x,_,rfl⟩:=cy.1 q;exact hk x) p g;rw[xY,Nat.div_add_mod] at m;rw[m];exact bI _
theorem HF [Inhabited X] (hk:∀ x,(enc x).length=k) (xs:List X) {j:Nat} (h:j<xs.length*k) {c:U} (g:((xs.map enc).flatten)[j]?=some c) :(flatK (fun x=>(enc x).map valOf) k xs.toArray)[j]! = valOf c:=by
 obtain⟨x,v,h1,m,o⟩:=xb hk xs h;rw[o] at g;cases g;rw[get_flatK _ _ _ _ (by simpa using h)];have p:xs.toArray[j / k]! = x:=by
  have u:=(aK.1 h1).1;rw[getElem!_pos _ _ (by simpa using u)];simpa using (aK.1 h1).2
 rw[p];obtain⟨q,t⟩:=aK.1 m;rw[getElem!_pos _ _ (by simpa using q)];simp[t]
theorem XH [Inhabited X] {f g b off len cap sz:Nat} {cs:ag} {xs:List X} {h:aH} (z:X->X->Int) (a6:Bd P f g k (fun x=>(enc x).map valOf) z) (a7:SWO (ltOf z)) (bd:∀ x y,ltOf z x y=false->ltOf z y x=false->x=y)
  (hk:∀ x,(enc x).length=k) (aw:∀ x,∀ c∈enc x,uE c=true) (bj:∀ x y,ii P G g [.ah (enc x),.ah (enc y)] (.int .i64 (z x y)))
  (Q:h.f b=.cells sz cs) (C:xs.length=len) (h1:0<len) (a4:len<4611686018427387904) (bk:(cs.drop off).take (len*k)=(xs.map enc).flatten) (bU:off+len*k<=sz) :
  jM P G f [.ad k b off len cap sz,.fn g [] []] h (.a1 []) (h.set b (.cells sz (ax cs off ((sorted z xs).map enc).flatten))):=by
 intro ao B w muZ bI rel aC bt aT;obtain⟨bH⟩:=bI
 match bH,bt with
 | [bF,bG],_=>
 have bz:=aT 0 _ bF rfl rfl;have bA:=aT 1 _ bG rfl rfl;have bx:¬ qk h b sz:=by
  rintro (H | ⟨n,aY,H,bQ⟩)
  ·rw[Q] at H;cases H
  ·rw[Q] at H;cases H;omega
 cases bA with
 | fn _ _ _ a3 aZ bp bh _ _=>
 have br:a3=#[]:=AD bp;have bl:aZ=#[]:=AD bh;subst br bl;cases bz with
 | fk _ _ _ _ _ _ _ _ _ _ bs=>exact bP bs bx
 | gw=>omega
 | ad _ _ _ _ _ _ aX aY o aE ai bV bX bR=>
 rw[Q] at aE;cases aE;have hblk:=rel.blk b o ai;rw[Q] at hblk;obtain⟨bS,bq,arr,e,bO,al,bb,aL,U⟩:=hblk;have aS:live (h.f b)=true:=by rw[Q];rfl
 have bv:Own h muZ o.r:=⟨b,o,aS,ai,rfl⟩
 have bu:=rel.lt aS ai;have aR:∀ m,m<len*k->∃ c,((xs.map enc).flatten)[m]?=some c/\cs[off+m]?=some c/\uE c=true:=by
  intro m p;obtain⟨x,c,aq,J,K⟩:=xb hk xs (by rw[C];exact p);refine⟨c,K,?_,aw x c (cE J)⟩;rw[<-bk,dU p,gB] at K;exact K
 have hH:HoldsK (fun x=>(enc x).map valOf) k w o.r (o.s+off) xs.toArray:=by
  intro m p;rw[size_flatK] at p;have aN:m<len*k:=by simpa [C] using p
  obtain⟨c,aq,J,K⟩:=aR m aN;obtain⟨v,D,S,O⟩:=U (off+m) c J;have ae:o.s+off+m<arr.size:=by
   have:=(ib.1 D).1;omega
  constructor
  ·simp only[World.cell?,al,rE];rw[HF hk xs (by rw[C];exact aN) aq,<-Y2 K O,iW];exact D
  ·simp only[World.frozen?,al];rcases aL with H | H
   ·subst H;simp
   ·simp;intro ar;omega
 have bi:CmpLays P g #[] (fun x=>(enc x).map valOf) k z o.r (o.s+off) xs.toArray.size w:=by
  intro n os a0 bT x y;obtain⟨W,aD⟩:∃ W,W=sortWorldK (fun x=>(enc x).map valOf) k w o.r (o.s+off) n a0 os:=⟨_,rfl⟩
  have bc:∀ i,i≠o.r->i<w.heap.size->W.heap[i]?=w.heap[i]?:=by
   intro i u ae;rw[aD];show (((w.heap.modify o.r _)++os))[i]?=_;rw[oX (by simpa using ae),AF,ak (fun h=>u h.symm)]
  rw[<-aD];have a5:∀ i,(ao i/\¬ Own h muZ i)->i<w.heap.size->W.heap[i]?=w.heap[i]?:=fun i u ae=>bc i (fun bo=>u.2 (by rw[bo];exact bv)) ae
  have bC:=bj x y W (fun i=>ao i/\¬ Own h muZ i) #[.agg ((enc x).map valOf).toArray,.agg ((enc y).map valOf).toArray] (fun aB=>Y1 a5 (nq (aC aB).2 (aC aB).1)) rfl (fun m c v p Z=>by
   have one:∀ am:X,dd W (fun i=>ao i/\¬ Own h muZ i) (.ah (enc am)) (.agg ((enc am).map valOf).toArray):=fun am=>by
    refine .ah _ _ V (fun i v u=>?_) (fun i c v u aM=>?_)
    ·simp only[ve,bW,FA] at u;obtain⟨c,_,rfl⟩:=u;exact EW c
    ·simp only[ve,bW,FA] at aM;obtain⟨bK,ar,rfl⟩:=aM;rw[u] at ar;cases ar;exact J1 (aw am c (cE u))
   match m with
   | 0=>simp at p Z;subst p Z;exact one x
   | 1=>simp at p Z;subst p Z;exact one y
   | m+2=>simp at p)
  refine bC.mono ?_;rintro e w' ⟨v,rfl,bg,bw⟩;obtain⟨q,bD,rfl⟩:=O5 bg;cases bw;exact⟨rfl,q,bD,rfl⟩
 have aF:=a6 o.r (o.s+off) aX xs.toArray w bi hH bu (by simpa [C] using a4);have bY:((xs.toArray.size:Nat) :Int)=(len:Int):=by simp[C]
 rw[show (xs.toArray.size)=len by simp[C]] at aF;refine aF.mono ?_;rintro bM w' ⟨rfl,ap,n,os,a8,a9,rfl⟩;have aJ:ap.toList=sorted z xs:=by
  have:=sorted_unique_holds a7 bd xs.toArray ap (by simpa [C] using a8) (by simpa [C] using a9);simpa [sorted] using this
 obtain⟨t,aU⟩:∃ t,t=sorted z xs:=⟨_,rfl⟩
 rw[<-aU] at aJ ⊢;have T:t.length=len:=by rw[aU,LM,C]
 have bm:ap=t.toArray:=by rw[<-aJ]
 subst bm;have aK:((t.map enc).flatten).length=len*k:=by
  have:∀ l:List X,((l.map enc).flatten).length=l.length*k:=fun l=>by
   induction l with
   | nil=>simp
   | cons a l bB=>simp only[df,g6,cr,bB,hk,dE];rw[eu];omega
  rw[this,T]
 obtain⟨R,I⟩:∃ R,R=putRowK (fun x=>(enc x).map valOf) k (Sort.ahead w n) o.r (o.s+off) t.toArray:=⟨_,rfl⟩
 have au:R.heap=w.heap.modify o.r (onCells (putCells id (o.s+off) (flatK (fun x=>(enc x).map valOf) k t.toArray))):=by rw[I];rfl
 have aG:off<=cs.length:=F;obtain⟨az,bE⟩:=rel.write (w':=R) (sz':=sz) (cs':=ax cs off ((t.map enc).flatten)) (arr':=putCells id (o.s+off) (flatK (fun x=>(enc x).map valOf) k t.toArray) arr) Q ai al bb aL (by rw[I];rfl) (by rw[I];rfl) (by rw[I];rfl) (by rw[au];simp)
  (by rw[au,AF,aj rfl,al];rfl) (fun i u=>by rw[au,AF,ak (fun h=>u h.symm)]) (by simp[putCells])
  (by rw[oQ aG,aK];omega) (aI _) bq (fun m c p=>by
   rw[Er aG,aK] at p;have Y:(putCells id (o.s+off) (flatK (fun x=>(enc x).map valOf) k t.toArray) arr)[o.s+m]?=(arr[o.s+m]?).map fun x=>if o.s+off<=o.s+m/\o.s+m<o.s+off+(flatK (fun x=>(enc x).map valOf) k t.toArray).size then (flatK (fun x=>(enc x).map valOf) k t.toArray)[o.s+m - (o.s+off)]! else x:=by
    unfold putCells;rw[Array.getElem?_mapIdx];rfl
   rw[size_flatK] at Y;by_cases aO:m<off
   ·rw[aj aO] at p;obtain⟨v,D,S,O⟩:=U m c p;refine⟨v,?_,S,O⟩;rw[Y,D,cz,ak F]
   ·rw[ak aO] at p;by_cases aP:m<off+len*k
    ·rw[aj aP] at p;have av:m - off<len*k:=F;obtain⟨aW,aq,J,K⟩:=aR (m - off) av;rw[show off+(m - off)=m by omega] at J;obtain⟨v,D,S,O⟩:=U m aW J;obtain⟨x,bL,bN,a2,ay⟩:=xb hk t (j:=m - off) (by rw[T];exact av);rw[ay] at p;cases p;refine⟨valOf c,?_,EW c,J1 (aw x c (cE a2))⟩;rw[Y,D,cz,aj (by simp[T];omega),show o.s+m - (o.s+off)=m - off by omega,HF hk t (by rw[T];exact av) ay]
    ·rw[ak aP] at p;obtain⟨v,D,S,O⟩:=U m c p;refine⟨v,?_,S,O⟩;rw[Y,D,cz,ak (by simp[T];omega)]) (by rw[I];exact Nat.le_add_right _ _)
 have bf:eD R (grow R os):=⟨⟨rfl,rfl,rfl,by simp[grow],fun i u=>by simp only[grow];rw[oX u]⟩,aI _⟩
 obtain⟨aA,aV⟩:=pT bE bf;refine⟨_,muZ,rfl,?_,?_,.a1 [] #[] rfl (fun m c v p _=>by simp at p)⟩
 ·rw[I] at az aA;exact az.trans aA
 ·rw[I] at aV;exact aV
end
section
variable {P:bj} {G:Nat->U} {X:Type} {enc:X->ag} {k:Nat}
theorem K8 {k:Nat}:∀ {es:List (ag)},(∀ e∈es,e.length=k)->es.flatten.length=es.length*k
 | [],_=>V
 | e::es,h=>by
  rw[g6,cr,h e V,K8 (fun x g=>h x (by simp[g])),dE,eu];omega
theorem XG [Inhabited X] {f g:Nat} (m:X->X->Int) (S:Bd P f g k (fun x=>(enc x).map valOf) m) (T:SWO (ltOf m)) (W:∀ x y,ltOf m x y=false->ltOf m y x=false->x=y)
  (hk:∀ x,(enc x).length=k) (ao:∀ x,∀ c∈enc x,uE c=true) (ag:∀ x y,ii P G g [.ah (enc x),.ah (enc y)] (.int .i64 (m x y)))
  {l:ae} {v:U} {j:Nat} {xs:List X} (q:gU k l v j (xs.map enc)) (R:xs.length<4611686018427387904) {K:U->ae->Prop}
  (Q:xs=[]->fY P G f [v,.fn g [] []] l (c:=⟨K⟩))
  (t:∀ l',l'.length=l.length->(∀ b,b≠j->l'[b]?=l[b]?)->gU k l' v j ((sorted m xs).map enc)->K (.a1 []) l') :fY P G f [v,.fn g [] []] l (c:=⟨K⟩):=by
 cases xs with
 | nil=>exact Q rfl
 | cons x xs=>
 obtain⟨o,J⟩:∃ o,o=x::xs:=⟨_,rfl⟩
 rw[<-J] at q R t;have C:0<o.length:=by rw[J];simp
 generalize p:o.map enc=O at q;cases q with
 | nil j=>rw[nU] at p;rw[p] at C;simp at C
 | ad j off n cap ap cs O u aq am au w Z ai=>
 subst p;have B:o.length=n:=by simpa using am
 have ar:n*k<=cap*k:=cn _ w;have z:j<l.length:=(aK.1 u).1;have H:=XH (P:=P) (G:=G) (cap:=cap) m S T W hk ao ag (h:=aX l) (hI.2 u) B F F ai F;rw[mu _ z] at H;refine⟨_,_,.ext H,V,?_⟩;have I:((sorted m o).map enc).length=n:=by rw[cx,LM,B]
 have D:∀ e∈(sorted m o).map enc,e.length=k:=fun e ak=>by obtain⟨x,_,rfl⟩:=cy.1 ak;exact hk x
 have al:(((sorted m o).map enc).flatten).length=n*k:=by rw[K8 D,I]
 have aj:off<=cs.length:=F;refine t _ V (fun b Y=>by rw[br (fun h=>Y h.symm)]) ?_;refine .ad j off n cap ap _ _ (b1 z) (by rw[oQ aj,al];omega) I D w Z ?_;unfold ax;have h1:(List.take off cs).length=off:=by rw[cO];omega
 rw[gM,nS F,qc F,iD,ig F,aL F]
end
end Go.bh
namespace Go.bh
open Go
section
variable {P:bj} {l:ae} {ci:aW->U}
@[simp ↓] theorem acy (g:aC) (zero:U) (h:Bool) (m k:aW) :bM P ci l (.wu g zero h m k)=du l (wv P l g zero h (ci m) (ci k)):=id rfl
@[simp ↓] theorem acC (g:aC) (m k x:aW) :bM P ci l (.us g m k x)=(si P l g (ci m) (ci k) (ci x)).map fun l'=>(fL,l'):=id rfl
@[simp ↓] theorem acH (x:aW) :bM P ci l (.uN x)=w6 l (ci x):=id rfl
@[simp ↓] theorem acF (x:aW) :bM P ci l (.uv x)=cK l (ci x):=id rfl
@[simp ↓] theorem abT (x:Option aW) (v:U) (K:U->ae->Prop) :ey (.uq x) v l K=K v l:=id rfl
@[simp ↓] theorem abQ (g:aC) (zero:U) (h:Bool) (m k:aW) (v:U) (K:U->ae->Prop) :ey (.wu g zero h m k) v l K=K v l:=id rfl
@[simp ↓] theorem abV (g:aC) (m k x:aW) (v:U) (K:U->ae->Prop) :ey (.us g m k x) v l K=K v l:=id rfl
@[simp ↓] theorem ab0 (x:aW) (v:U) (K:U->ae->Prop) :ey (.uN x) v l K=K v l:=id rfl
@[simp ↓] theorem abY (x:aW) (v:U) (K:U->ae->Prop) :ey (.uv x) v l K=K v l:=id rfl
end
section
variable {z:Nat} {l l' : ae} {v:U} {j:Nat} {es:List (ag)}
theorem iG (h:aM z l v j es) {by_:Nat} {x:U} {xs:List (ag)} (J:cG l z x=some (xs.flatten,xs.length)) (K:∀ e∈xs,e.length=z) (G:z≠0) (H:by_≠0) (I:(es.length+xs.length)*by_<=dk) :
  ∃ m o l',eE l z by_ v x=some (m,l')/\aM z l' m o (es++xs)/\l.length<=l'.length/\(∀ b,b<l.length->v=.af\/b≠j->l'[b]?=l[b]?)/\(l.length<=o\/(v≠.af/\o=j)\/m=.af)/\bt m=(bt v&&xs.isEmpty):=by
 by_cases C:v=.af
 ·subst C;have O:es=[]:=h.q.pJ;subst O;obtain⟨m,o,D,h1,p,t,u,g,w⟩:=lM (.nil (z:=z) (l:=l) (l.length+1)) J K G H I;refine⟨m,o,D,h1,p,t,fun b B _=>u b B F,?_,qL w⟩;rcases g with g | g
  ·exact .inl F
  ·exact .inl g
 ·obtain⟨m,o,D,h1,p,t,u,g,w⟩:=lM h J K G H I;refine⟨m,o,D,h1,p,t,fun b B P=>u b B (P.resolve_left C),?_,qL w⟩;rcases g with g | g
  ·exact .inr (.inl ⟨C,g⟩)
  ·exact .inl g
theorem b2.yJ {K:U->ae->Prop} (h:aM z l v j es) (J:bt v=false) (w:K (.bn z es) (l.set j .dead)) :b2 v l (c:=⟨K⟩):=by
 cases h with
 | nil j=>cases J
 | ad j n cap t cs es g R I o C P D=>
 have H:=a2 g;have q:(aX (l.set j .dead)).f j=.dead:=by rw[jO,nT,aj rfl,aj H]
 have S:n*z<=cap*z:=cn _ C;refine .inr ⟨_,_,⟨V,fun u=>?_⟩,.ad z j 0 n cap t cs es (hI.2 g) q I o F (fun i k e c O m hk p=>?_),w⟩
 ·by_cases B:u=j
  ·subst B;exact .inr ⟨t,cs,hI.2 g,.inl q⟩
  ·left;rw[jO,jO,nT,ak F]
 ·have G:k<z:=by rw[<-o e (cE m)];exact (aK.1 hk).1
  have Q:=(aK.1 m).1;have T:i*z+z<=n*z:=by rw[<-eu];exact cn _ F
  have h1:=lT o m G;rw[<-D,dU F,hk] at h1;rw[hr,h1] at p;cases p;exact .same _
end
inductive kp where
 | b
 | i (k:cV)
 | s
def xu:kp->U->Bool
 | .b,.bool _=>true
 | .i k,.int g _=>decide (k=g)
 | .s,.str _=>true
 | _,_=>false
def gE:List kp->ag->Bool
 | [],[]=>true
 | k::b3,c::cs=>xu k c&&gE b3 cs
 | _,_=>false
theorem wP:∀ {b3:List kp} {cs:ag},gE b3 cs=true->cs.length=b3.length
 | [],[],_=>rfl
 | [],_::_,h=>by cases h
 | _::_,[],h=>by cases h
 | k::b3,c::cs,h=>by simp only[gE,bH] at h;simp[wP h.2]
theorem wQ:∀ {l r:List kp} {m:ag},gE (l++r) m=true->∃ g j,m=g++j/\gE l g=true/\gE r j=true
 | [],r,m,h=>⟨[],m,rfl,rfl,h⟩
 | k::l,r,[],h=>by cases h
 | k::l,r,c::m,h=>by
  simp only[jK,gE,bH] at h;obtain⟨g,j,rfl,h1,o⟩:=wQ h.2;exact⟨c::g,j,rfl,by simp[gE,h.1,h1],o⟩
theorem JE {k:cV} {xs:ag} (h:gE [.i k] xs=true) :∃ p,xs=[.int k p]:=by
 cases xs with
 | nil=>cases h
 | cons c r=>
  simp only[gE,bH] at h;cases r with
  | cons _ _=>cases h.2
  | nil=>
   cases c<;>simp only[xu] at h<;>try (cases h.1;done)
   rename_i k' p;have hk:k=k':=by simpa using h.1
   subst hk;exact⟨p,rfl⟩
theorem Bq:∀ {g j m o:ag},g.length=j.length->dn (g++m) (j++o)=(dn g j&&dn m o)
 | [],[],_,_,_=>by simp[dn]
 | [],_::_,_,_,h=>by simp at h
 | _::_,[],_,_,h=>by simp at h
 | a::g,b::j,m,o,h=>by
  simp only[dE,Nat.add_right_cancel_iff] at h;simp only[jK,dn,Bq h,E6]
section
variable (P:bj)
def y3 (f:aC->Option (List kp)) :List Field->Nat->Option (List kp)
 | [],_=>some []
 | fd::j,g=>match f fd.type,b5 P fd.type with
  | some l,some h=>match fd.name != "_"&&Nat.beq fd.offset g&&Nat.beq l.length h with
   | true=>match y3 f j (g+h) with
    | some r=>some (l++r)
    | none=>none
   | false=>none
  | _,_=>none
def mO:Nat->aC->Option (List kp)
 | 0,_=>none
 | d+1,g=>match P.underlying g with
  | some .bool=>some [.b]
  | some (.int k)=>some [.i k]
  | some .string=>some [.s]
  | some (.array n e)=>match mO d e,b5 P e with
   | some l,some j=>match Nat.beq l.length j with
    | true=>some (List.replicate n l).flatten
    | false=>none
   | _,_=>none
  | some (.struct h)=>match P.stoodInHeld g with
   | false=>y3 P (mO d) h.toList 0
   | true=>none
  | _=>none
def i4 (t:aC) (l:ag) :Option U:=match dC P t with
 | some true=>some (.ah l)
 | some false=>l[0]?
 | none=>none
end
variable {P:bj}
theorem zA {t:aC} {z:Nat} (m:b5 P t=some z) {pre mid post:ag} (o:mid.length=z) (j:dC P t=some false->mid.length=1) :gv P t (pre++(mid++post)) pre.length=i4 P t mid:=by
 unfold gv i4;rw[m];cases h:dC P t with
 | none=>rfl
 | some g=>
  cases g with
  | true=>
   simp only;rw[aj (by simp;omega),Fb,ig F,aL F]
  | false=>
   have:=j h;simp only;rw[et F,tk,aV F]
def EqAt (P:bj) (f:aC->Option (List kp)) (eq:aC->U->U->Option Bool) :Prop:=
 ∀ g b3,f g=some b3->(dC P g=some false->b3.length=1)/\∀ h j,gE b3 h=true->gE b3 j=true->∃ a b,i4 P g h=some a/\i4 P g j=some b/\eq g a b=some (dn h j)
theorem Hn {f:aC->Option (List kp)} {eq:aC->U->U->Option Bool} (G:EqAt P f eq) :∀ (fs:List Field) (o:Nat) (b3:List kp),y3 P f fs o=some b3->∀ (m p g j:ag),m.length=o->p.length=o->gE b3 g=true->gE b3 j=true->
  dJ.eqFields P eq (m++g) (p++j) fs=some (dn g j)
 | [],o,b3,h,m,p,g,j,H,I,v,w=>by
  cases h;cases g with
  | nil=>cases j with | nil=>rfl | cons _ _=>cases w
  | cons _ _=>cases v
 | fd::fs,o,b3,h,m,p,g,j,H,I,v,w=>by
  unfold y3 at h;split at h
  ·rename_i l z Y J;split at h
   ·rename_i q;simp only[bH,bne_iff_ne,ne_eq] at q;split at h
    ·rename_i r ae;cases h;obtain⟨t,O,rfl,B,R⟩:=wQ v;obtain⟨u,Q,rfl,C,S⟩:=wQ w;have Z:fd.offset=o:=mo q.1.2;have al:l.length=z:=mo q.2;obtain⟨D,X⟩:=G _ _ Y;obtain⟨a,b,T,W,V⟩:=X t u B C;have ai:=wP B;have aj:=wP C;unfold dJ.eqFields;rw[ak q.1.1,Z];rw[show gv P fd.type (m++(t++O)) o=some a by rw[<-H,zA J F (fun h=>by rw[ai];exact D h)];exact T];rw[show gv P fd.type (p++(u++Q)) o=some b by rw[<-I,zA J F (fun h=>by rw[aj];exact D h)];exact W];simp only[V];rw[Bq F];have K:=Hn G fs (o+z) r ae (m++t) (p++u) O Q (by simp;omega) (by simp;omega) R S;rw[gM,gM] at K;cases dn t u with
     | true=>simpa using K
     | false=>simp
    ·cases h
   ·cases h
  ·cases h
theorem Hm {eq:aC->U->U->Option Bool} {e:aC} {l:List kp} {z:Nat} (w:b5 P e=some z) (W:l.length=z) (v:dC P e=some false->l.length=1)
  (G:∀ xs B,gE l xs=true->gE l B=true->∃ a b,i4 P e xs=some a/\i4 P e B=some b/\eq e a b=some (dn xs B)) :∀ (n i:Nat) (m o g j:ag),m.length=i*z->o.length=i*z->gE (List.replicate n l).flatten g=true->gE (List.replicate n l).flatten j=true->
  dJ.om P eq e z (m++g) (o++j) n i=some (dn g j)
 | 0,i,m,o,g,j,H,I,p,q=>by
  simp only[List.replicate_zero,List.flatten_nil] at p q;cases g with
  | nil=>cases j with | nil=>rfl | cons _ _=>cases q
  | cons _ _=>cases p
 | n+1,i,m,o,g,j,H,I,p,q=>by
  rw[kk,g6] at p q;obtain⟨t,K,rfl,C,Q⟩:=wQ p;obtain⟨u,O,rfl,D,R⟩:=wQ q;obtain⟨a,b,S,V,T⟩:=G t u C D;have X:=wP C;have Y:=wP D;unfold dJ.om;rw[show gv P e (m++(t++K)) (i*z)=some a by rw[<-H,zA w F (fun h=>by rw[X];exact v h)];exact S];rw[show gv P e (o++(u++O)) (i*z)=some b by rw[<-I,zA w F (fun h=>by rw[Y];exact v h)];exact V];simp only[T];rw[Bq F];have J:=Hm w W v G n (i+1) (m++t) (o++u) K O (by simp[eu];omega) (by simp[eu];omega) Q R;rw[gM,gM] at J;cases dn t u with
  | true=>simpa using J
  | false=>simp
theorem B6:∀ (d D:Nat),d<=D->EqAt P (mO P d) (dJ P D)
 | 0,D,_,v,b3,h=>by cases h
 | d+1,0,H,v,b3,h=>F
 | d+1,D+1,H,v,b3,h=>by
  have z:=B6 d D F;unfold mO at h;split at h
  ·rename_i j;have g:dC P v=some false:=by unfold dC;rw[j];rfl
   cases h;refine⟨fun _=>rfl,fun m o p t=>?_⟩
   match m,o,p,t with
   | [.bool u],[.bool q],_,_=>
    refine⟨.bool u,.bool q,by simp[i4,g],by simp[i4,g],?_⟩;unfold dJ;rw[j];cases u<;>cases q<;>rfl
  ·rename_i k j;have g:dC P v=some false:=by unfold dC;rw[j];rfl
   cases h;refine⟨fun _=>rfl,fun m o p t=>?_⟩;obtain⟨u,rfl⟩:=JE p;obtain⟨q,rfl⟩:=JE t
   ·refine⟨.int k u,.int k q,by simp[i4,g],by simp[i4,g],?_⟩;unfold dJ;rw[j];by_cases h:u=q<;>simp[dn,U.beq,h]
  ·rename_i j;have g:dC P v=some false:=by unfold dC;rw[j];rfl
   cases h;refine⟨fun _=>rfl,fun m o p t=>?_⟩
   match m,o,p,t with
   | [.str u],[.str q],_,_=>
    refine⟨.str u,.str q,by simp[i4,g],by simp[i4,g],?_⟩;unfold dJ;rw[j];by_cases h:u=q<;>simp[dn,U.beq,h]
  ·rename_i n e j;have g:dC P v=some true:=by unfold dC;rw[j];rfl
   split at h
   ·rename_i l O I w;split at h
    ·rename_i J;cases h;obtain⟨C,G⟩:=z _ _ I;refine⟨fun h=>(by rw[g] at h;cases h),fun m o p t=>⟨.ah m,.ah o,by simp[i4,g],by simp[i4,g],?_⟩⟩;unfold dJ;rw[j];simp only[w];exact Hm w (mo J) C G n 0 [] [] m o V V p t
    ·cases h
   ·cases h
  ·rename_i B j;have g:dC P v=some true:=by unfold dC;rw[j];rfl
   split at h
   ·rename_i K;refine⟨fun h=>(by rw[g] at h;cases h),fun m o p t=>⟨.ah m,.ah o,by simp[i4,g],by simp[i4,g],?_⟩⟩;unfold dJ;rw[j];simp only[K,jJ,if_false];exact Hn z B.toList 0 b3 h [] [] m o rfl rfl p t
   ·cases h
  ·cases h
theorem tD {t:aC} {b3:List kp} (hk:mO P 20 t=some b3) (o:dC P t=some true) (p:P.eqGuardType P.depth t=false) {xs g:ag} (q:gE b3 xs=true) (u:gE b3 g=true) :eb P .eql t (.ah xs) (.ah g)=some (.bool (dn xs g)):=by obtain⟨a,b,h,j,m⟩:=(B6 (P:=P) 20 10000 F t b3 hk).2 xs g q u;simp only[i4,o,bd] at h j;subst h;subst j;exact OZ p m
theorem Br {t:aC} {b3:List kp} (hk:mO P 20 t=some b3) (o:dC P t=some true) (p:P.eqGuardType P.depth t=false) {xs g:ag} (q:gE b3 xs=true) (u:gE b3 g=true) :eb P .neq t (.ah xs) (.ah g)=some (.bool (!dn xs g)):=by obtain⟨a,b,h,j,m⟩:=(B6 (P:=P) 20 10000 F t b3 hk).2 xs g q u;simp only[i4,o,bd] at h j;subst h;subst j;exact O0 p m
end Go.bh
namespace Go.bh
open Go Go.Proofs Go.Proofs.Tryz Go.Shelf
structure qm (P:bj) (f:cf) (T m e z:Nat) :Prop where
 sU:P.underlying T=some (.slice e)
 YJ:P.underlying m=some (.int .i64)
 fin:∀ (base:Option Addr) (n c j g h:Nat) (r:aA) (w w' : aQ),n<=c->n<=4611686018427387904->(base=none->n=0/\c=0)->
  (Builtin.append_ #[T,T] T #[.slice base n c,.slice (some ⟨g,h,none⟩) 1 j]).run P w=.ok r w'->
  Calls P f #[.slice base n c,.int .i64 n,.slice (some ⟨g,h,none⟩) 1 j] w fun x w2=>x=.returned r/\w2=w'
 shift:∀ (b off n c i g h j:Nat) (q t:aA) (w o p:aQ) (B ej:aC) (mL v:Nat),i<n->n+1<=c->n<=4611686018427387904->g≠b->
  w.shape? g=some (B,mL)->w.shape? b=some (ej,v)->v≠0->w.frozen? ⟨g,h,none⟩=false->w.frozen? ⟨g,mL,none⟩=false->
  (Builtin.copy_ #[T,T] m #[.slice (some ⟨b,off+(i+1)*z,none⟩) (n - i) (c - (i+1)),.slice (some ⟨b,off+i*z,none⟩) (n+1 - i) (c - i)]).run P w.drew=.ok q o->
  (Builtin.copy_ #[T,T] m #[.slice (some ⟨b,off+i*z,none⟩) (n+1 - i) (c - i),.slice (some ⟨g,h,none⟩) 1 j]).run P o=.ok t p->
  Calls P f #[.slice (some ⟨b,off,none⟩) n c,.int .i64 i,.slice (some ⟨g,h,none⟩) 1 j] w fun x w2=>x=.returned (.slice (some ⟨b,off,none⟩) (n+1) c)/\w2=p
 grow:∀ (b off n c i g h j N G:Nat) (q t:aA) (w u o p:aQ),i<n->n<=c->c<n+1->n+1<=G->n<=4611686018427387904->
  (Builtin.append_ #[T,m] T #[.slice (some ⟨b,off,none⟩) i c,.int .i64 ((n:Int)+1 - (i:Int))]).run P w=.ok (.slice (some ⟨N,0,none⟩) (n+1) G) u->
  (Builtin.copy_ #[T,T] m #[.slice (some ⟨N,i*z,none⟩) (n+1 - i) (G - i),.slice (some ⟨g,h,none⟩) 1 j]).run P u=.ok q o->
  (Builtin.copy_ #[T,T] m #[.slice (some ⟨N,(i+1)*z,none⟩) (n - i) (G - (i+1)),.slice (some ⟨b,off+i*z,none⟩) (n - i) (c - i)]).run P o.drew=.ok t p->
  Calls P f #[.slice (some ⟨b,off,none⟩) n c,.int .i64 i,.slice (some ⟨g,h,none⟩) 1 j] w fun x w2=>x=.returned (.slice (some ⟨N,0,none⟩) (n+1) G)/\w2=p
section
variable {P:bj} {G:Nat->U} {R:Nat->Prop} {B:Nat} {w:aQ} {h:aH} {muZ:bZ}
theorem y7 (rel:bw R B w h muZ) {b sz o n:Nat} {cs:ag} {m:M} (v:h.f b=.cells sz cs) (H:muZ b=some m) (U:o+n<=sz) :
  ∃ vs:List aA,o7 w R h muZ ((cs.drop o).take n) vs/\(loadCells ⟨m.r,m.s+o,none⟩ n).run P w=.ok vs.toArray w:=by
 have j:=rel.blk b m H;rw[v] at j;obtain⟨Q,S,arr,e,K,I,O,T,z⟩:=j;have D:((cs.drop o).take n).length=n:=by rw[cO,iT];omega
 obtain⟨vs,p,C⟩:=Ec (P:=P) (w:=w) (R:=R) (h:=h) (muZ:=muZ) (w2:=w) (xs:=(cs.drop o).take n) (blk:=m.r) (o:=m.s+o) (fun _=>rfl) (fun q c g=>by
  have G:q<n:=by have:=(aK.1 g).1;omega
  rw[dU G,gB] at g;obtain⟨J,h1,t,u⟩:=z (o+q) c g;refine⟨J,?_,t,u⟩;simp only[World.cell?,I,rE];rw[iW];exact h1)
 refine⟨vs,p,?_⟩;have:=C n F w (fun _=>rfl)
 rwa [aL (by rw[p.1,D];exact aI _)] at this
theorem yp (rel:bw R B w h muZ) {t u ty e z:Nat} (G:P.underlying t=some (.slice e)) (H:b5 P e=some z) {b sz k:Nat} {cs:ag} {m:M} (q:h.f b=.cells sz cs) (F:muZ b=some m) (hk:k<=sz)
  {dLen dc sLen sc cnt:Nat} {a:Addr} {xs:ag} {vs:List aA} (v:Nat.min sLen dLen=cnt) (p:xs.length=cnt*z) (D:(loadCells a (cnt*z)).run P w=.ok vs.toArray w)
  (o:o7 w R h muZ xs vs) (C:m.s+max sz (k+cnt*z)<=m.T) :
  ∃ w',(Builtin.copy_ #[t,u] ty #[.slice (some ⟨m.r,m.s+k,none⟩) dLen dc,.slice (some a) sLen sc]).run P w=.ok (goInt cnt) w' ∧
   cS w h muZ w' (h.set b (.cells (max sz (k+cnt*z)) (ax cs k xs))) muZ/\bw R B w' (h.set b (.cells (max sz (k+cnt*z)) (ax cs k xs))) muZ:=by obtain⟨w',h1,g,j⟩:=sX (P:=P) rel (cvs:=xs) (vs:=vs) (k:=k) q F hk o.1 (by rw[p];exact C) o.2;rw[p] at g j;refine⟨w',?_,g,j⟩;simp[Builtin.copy_,b8 G,Builtin.lenOf,Builtin.firstCells,eI H,v,D,h1]
theorem KW {j:aQ} {h1:aH} {u:bZ} (U:bw R B j h1 u) (H:cS w h muZ j h1 u) {b z n nc ns:Nat} {row:ag} {v:aA} (D:h1.f=bm h.f b (.cells ns row)) (t:h1.n=h.n) (al:ns=nc*z) (Y:0<n) (ae:b<h.n)
  (S:az j R h1 u (.ad z b 0 n nc ns) v) :
  ∃ muZ',cS w h muZ j ((h.set b .dead).push (.cells ns row)) muZ'/\bw R B j ((h.set b .dead).push (.cells ns row)) muZ'/\az j R ((h.set b .dead).push (.cells ns row)) muZ' (.ad z h.n 0 n nc ns) v:=by
 have q:h1.f b=.cells ns row:=by rw[D,fS]
 cases S with
 | fk _ _ _ _ _ _ _ _ _ _ g=>
  exfalso;rcases g with g | ⟨am,W,g,ai⟩
  ·rw[q] at g;cases g
  ·rw[q] at g;cases g;omega
 | gw=>omega
 | ad _ _ _ _ _ _ G X p Z P O Q C=>
  have F:=U.KV (b:=b) (off:=0) (m:=p) (h':=(h.set b .dead).push (.cells ns row)) q P (ek _) (by
   rw[dY,dq,hX,D,t];funext x;simp only[bm,vi,lE];by_cases o:x=h.n
   ·rw[aj o,aj o]
   ·rw[ak o,ak o];split<;>rfl) (by rw[jc,hX,t])
  refine⟨_,H.trans F.1,F.2,?_⟩;rw[t];exact .ad z h.n 0 n nc ns G row ⟨p.r,p.s+0,p.T⟩ (by rw[dY,hX,fS]) V O Q (by
   rcases C with C | ⟨I,J,K⟩
   ·omega
   ·exact .inr ⟨I,J,by simpa using K⟩)
theorem Gg (w:aQ) :RowKit.Below w.heap.size w w.drew:=⟨rfl,rfl,rfl,aI _,fun _ _=>rfl⟩
theorem Sq {z i len:Nat} {cs vs:ag} (o:vs.length=z) (m:i<len) (u:len*z<=cs.length) :
  ax (ax cs ((i+1)*z) ((cs.drop (i*z)).take ((len - i)*z))) (i*z) vs=im z cs vs i len:=by
 have h1:(i+1)*z=i*z+z:=by rw[eu]
 have p:(i+1)*z<=len*z:=cn _ m;have q:i*z+(len - i)*z=len*z:=by rw[<-eV];congr 1;omega
 have t:(len+1)*z=len*z+z:=by rw[eu]
 have j:((cs.drop (i*z)).take ((len - i)*z)).length=(len - i)*z:=by rw[cO,iT];omega
 have g:(cs.take ((i+1)*z)).length=i*z+z:=by rw[cO];omega
 unfold im ax;rw[j,o];have h:(i+1)*z+(len - i)*z=(len+1)*z:=F;rw[h,gM (cs.take ((i+1)*z)),ig (by rw[g];omega),na,show min (i*z) ((i+1)*z)=i*z by omega];rw[show i*z+z=(cs.take ((i+1)*z)).length by rw[g],Fb];simp only[gM]
theorem Sl {z i len:Nat} {cs vs:ag} (h:vs.length=z) (q:i<len) (w:len*z=cs.length) :
  ax (ax (cs.take (i*z)) (i*z) vs) ((i+1)*z) ((cs.drop (i*z)).take ((len - i)*z))=im z cs vs i len:=by
 have h1:(i+1)*z=i*z+z:=by rw[eu]
 have t:(i+1)*z<=len*z:=cn _ q;have u:i*z+(len - i)*z=len*z:=by rw[<-eV];congr 1;omega
 have v:(len+1)*z=len*z+z:=by rw[eu]
 have g:(cs.take (i*z)).length=i*z:=by rw[cO];omega
 have j:ax (cs.take (i*z)) (i*z) vs=cs.take (i*z)++vs:=by
  unfold ax;rw[kh (by rw[g];omega),eT,aL (by rw[g];exact aI _)]
 rw[j];unfold im ax;have m:(cs.take (i*z)++vs).take ((i+1)*z)=cs.take (i*z)++vs:=aL (by rw[cr,g,h];omega);have o:∀ k,(cs.take (i*z)++vs).drop ((i+1)*z+k)=[]:=fun k=>kh (by rw[cr,g,h];omega)
 have p:cs.drop ((len+1)*z)=[]:=kh F;rw[m,o,p]
theorem To (a b z:Nat) :max a b*z=max (a*z) (b*z):=by
 rcases Nat.le_total a b with h | h
 ·rw[A5 h,A5 (cn _ h)]
 ·rw[A4 h,A4 (cn _ h)]
theorem Sf {j e z by_:Nat} (p:gm P j=some e) (D:b5 P e=some z) (u:gO P e=some by_) (O:0<z) (H:0<by_) (G:mh P e=some z)
  {b bv len cap:Nat} {cs vs:ag} (q:h.f b=.cells (cap*z) cs) (I:cs.length=cap*z) (t:h.f bv=.cells z vs) (C:vs.length=z) (v:len<=cap) (w:(len+1)*by_<=dk) :
  n9 P h j (.ad z b 0 len cap (cap*z)) (.ad z bv 0 1 1 z)=some (.ad z b 0 (len+1) (max cap (len+1)) (max cap (len+1)*z),h.set b (.cells (max cap (len+1)*z) (im z cs vs len len))):=by
 have o:(len+1)*z=len*z+z:=by rw[eu]
 have J:len*z<=cap*z:=cn _ v;have m:im z cs vs len len=cs.take (len*z)++vs++cs.drop ((len+1)*z):=by simp[im]
 have B:(vs.drop 0).take (1*z)=vs:=by rw[lE,tj,aL F]
 unfold n9;rw[p];simp only[D,u,contents,t,and_self,if_true,B];unfold qt;rw[ak F,ak (by rw[G];simp;omega)];simp only[q,true_and,w,if_true];by_cases g:len+1<=cap
 ·have K:(len+1)*z<=cap*z:=cn _ g;rw[aj g,A4 g,m];simp only[ax,hr,C,<-o]
 ·obtain rfl:len=cap:=F;rw[ak g,ak F,A5 F,m,kh F,eT]
theorem In {f T I e z by_:Nat} (L:qm P f T I e z) (bL:gm P T=some e) (H:b5 P e=some z) (aM:gO P e=some by_) (b8:0<z) (bf:0<by_) (bw:mh P e=some z)
  {b bv len cap i:Nat} {cs vs:ag} (p:h.f b=.cells (cap*z) cs) (D:h.f bv=.cells z vs) (bq:bv≠b) (cN:i<=len) (bo:len<=cap) (aS:(len+1)*by_<=dk) :
  jM P G f [.ad z b 0 len cap (cap*z),.int .i64 i,.ad z bv 0 1 1 z] h (.ad z h.n 0 (len+1) (max cap (len+1)) (max cap (len+1)*z)) ((h.set b .dead).push (.cells (max cap (len+1)*z) (im z cs vs i len))):=by
 intro R B w muZ cm rel cv bl aW;obtain⟨cp⟩:=cm
 match cp,bl with
 | [bC,ck,cl],_=>
 have aX:=aW 0 _ bC rfl rfl;have aD:=aW 1 _ ck rfl rfl;have bu:=aW 2 _ cl rfl rfl;have cf:=bu;cases aD;have aH:len<=4611686018427387904:=by
  have:=Nat.le_mul_of_pos_right (len+1) bf;unfold dk at aS;omega
 have b6:uu P T:=⟨_,L.sU,fun k hk=>by cases hk⟩
 have cT:=To cap (len+1) z;have cz:(len+1)*z=len*z+z:=by rw[eu]
 have cQ:len*z<=cap*z:=cn _ bo;cases bu with
 | fk _ _ _ _ _ _ _ _ _ _ j=>
  exfalso;rcases j with j | ⟨bA,a4,j,ay⟩
  ·rw[D] at j;cases j
  ·rw[D] at j;cases j;omega
 | ad _ _ _ _ _ _ al cV ei cE Z cS cU cJ=>
 have bc:=rel.blk bv ei Z;rw[D] at bc;obtain⟨aY,cL,a3,dv,cu,aT,cC,bj,cI⟩:=bc;by_cases bX:i=len
 ·subst bX;have b1:∃ a g,bC=.slice (some a) i g/\i<=g/\cs.length=cap*z/\b<h.n:=by
   cases aX with
   | fk _ _ _ _ _ _ _ _ _ _ j=>
    exfalso;rcases j with j | ⟨bA,a4,j,ay⟩
    ·rw[p] at j;cases j
    ·rw[p] at j;cases j;omega
   | gw _ _ _ _ a a5 m aq q=>
    have C:=rel.blk b m q;rw[p] at C;exact⟨a,0,rfl,aI _,C.1,rel.kr q⟩
   | ad _ _ _ _ _ _ g a5 m aq q bl b9 aN=>
    have C:=rel.blk b m q;rw[p] at C;exact⟨_,g,rfl,F,C.1,rel.kr q⟩
  obtain⟨a,g,rfl,bZ,bh,aJ⟩:=b1;obtain⟨aE,cq,cW,cd,bU,cc,cg⟩:=Bo (P:=P) (ty:=T) (u:=T) rel b6 (Sf (P:=P) bL H aM b8 bf bw p bh D aY bo aS) aX cf;refine (L.fin (some a) i g al ei.r (ei.s+0) aE w cq bZ aH (fun h=>by cases h) cd).mono ?_;rintro x a0 ⟨rfl,rfl⟩;obtain⟨muZ',h1,aG,X⟩:=KW (h:=h) cc bU (b:=b) (row:=im z cs vs i i) (ns:=max cap (i+1)*z) (dq _ _ _) rfl rfl F aJ cg;exact⟨aE,muZ',rfl,h1,aG,X⟩
 have Y:i<len:=F;have cw:(i+1)*z=i*z+z:=by rw[eu]
 have cx:(i+1)*z<=len*z:=cn _ Y;have cy:i*z+(len - i)*z=len*z:=by rw[<-eV];congr 1;omega
 cases aX with
 | fk _ _ _ _ _ _ _ _ _ _ j=>
  exfalso;rcases j with j | ⟨bA,a4,j,ay⟩
  ·rw[p] at j;cases j
  ·rw[p] at j;cases j;omega
 | gw=>omega
 | ad _ _ _ _ _ _ g a5 m aq q cP b9 aN=>
 rw[p] at aq;cases aq;have C:=rel.blk b m q;rw[p] at C;obtain⟨bh,cK,arr,bE,ct,cb,cB,cM,cH⟩:=C;obtain⟨bg,au⟩:cap<=g/\m.s+g*z<=m.T:=by
  rcases aN with aN | ⟨cG,bg,au⟩
  ·omega
  ·exact⟨bg,by simpa using au⟩
 have aJ:=rel.kr q;have b3:ei.r≠m.r:=fun bT=>bq (rel.inj bv b ei m (by rw[D];rfl) (by rw[p];rfl) Z q bT)
 have aD:(vs.drop 0).take z=vs:=by rw[lE,aL F]
 have a7:((cs.drop (i*z)).take ((len - i)*z)).length=(len - i)*z:=by rw[cO,iT];omega
 by_cases bi:len+1<=g
 ·have cR:(len+1)*z<=g*z:=cn _ bi;obtain⟨am,K⟩:=DR rel (w':=w.drew) (Gg w);obtain⟨ci,aB,aP⟩:=y7 (P:=P) K (o:=i*z) (n:=(len - i)*z) p q F;obtain⟨Q,av,S,O⟩:=yp (P:=P) (t:=T) (u:=T) (ty:=I) K L.sU H (k:=(i+1)*z) p q F (dLen:=len - i) (dc:=g - (i+1)) (sLen:=len+1 - i) (sc:=g - i) (cnt:=len - i)
   (by simp only[A6];split<;>omega) a7 aP aB F
  have aU:max (cap*z) ((i+1)*z+(len - i)*z)=max cap (len+1)*z:=F;rw[aU] at S O;have bM:(h.set b (.cells (max cap (len+1)*z) (ax cs ((i+1)*z) ((cs.drop (i*z)).take ((len - i)*z))))).f b=.cells (max cap (len+1)*z) (ax cs ((i+1)*z) ((cs.drop (i*z)).take ((len - i)*z))):=by rw[dq,fS]
  have bQ:(h.set b (.cells (max cap (len+1)*z) (ax cs ((i+1)*z) ((cs.drop (i*z)).take ((len - i)*z))))).f bv=.cells z vs:=by rw[dq,bK _ _ _ _ bq];exact D
  obtain⟨cj,aC,aR⟩:=y7 (P:=P) O (o:=0) (n:=z) bQ Z F;rw[aD] at aC;obtain⟨aF,aw,U,ai⟩:=yp (P:=P) (t:=T) (u:=T) (ty:=I) O L.sU H (k:=i*z) bM q F (dLen:=len+1 - i) (dc:=g - i) (sLen:=1) (sc:=al) (cnt:=1)
   (by simp only[A6];split<;>omega) F (by rw[tj];exact aR) aC F
  have aV:max (max cap (len+1)*z) (i*z+1*z)=max cap (len+1)*z:=F;rw[aV,Sq aY Y F] at U ai;have bV:w.frozen? ⟨ei.r,ei.s+0,none⟩=false:=by
   simp only[World.frozen?,aT];rcases bj with W | W
   ·subst W;simp
   ·simp;intro X;omega
  have bW:w.frozen? ⟨ei.r,a3.size,none⟩=false:=by
   simp only[World.frozen?,aT];rcases bj with W | W
   ·subst W;simp
   ·simp;intro X;omega
  refine (L.shift m.r m.s len g i ei.r (ei.s+0) al _ _ w Q aF dv bE a3.size arr.size Y bi aH b3 (by simp[World.shape?,aT]) (by simp[World.shape?,cb]) F bV bW av aw).mono ?_;rintro x a0 ⟨rfl,rfl⟩;obtain⟨muZ',h1,aG,X⟩:=KW (h:=h) ai ((am.trans S).trans U) (b:=b) (row:=im z cs vs i len) (ns:=max cap (len+1)*z) (n:=len+1) (nc:=max cap (len+1)) (z:=z) (v:=.slice (some ⟨m.r,m.s+0,none⟩) (len+1) g) (by
   rw[dq,dq];funext y;simp only[bm];split<;>rfl) rfl rfl F aJ (.ad z b 0 (len+1) (max cap (len+1)) (max cap (len+1)*z) g _ m (by rw[dq,fS]) q F F (.inr ⟨F,F,by simpa using au⟩))
  exact⟨_,muZ',rfl,h1,aG,X⟩
 ·obtain rfl:cap=len:=F;obtain rfl:g=cap:=F;obtain⟨J,a2,aO,ch,bx⟩:=M9 bw;have ce:J.size=z:=by simp[b5,aO] at H;exact H
  have bR:J.bytes=by_:=by simp[gO,aO] at aM;exact aM
  have bS:contents h z (.ad z b 0 i g (g*z))=some ((cs.drop 0).take (i*z),i):=by simp[contents,p]
  obtain⟨br,_,aZ,ae,ca⟩:=qF (P:=P) rel bS (az.ad z b 0 i g (g*z) g cs m p q F F (.inr ⟨F,aI _,by simpa using au⟩));have bs:=ca i (aI _) w.drew (fun _=>rfl);rw[aL (by rw[ae.1,br];exact aI _)] at bs;rw[lE] at ae br;have bt:(g+1)*J.bytes<=dk:=by rw[bR];exact aS
  have bk:i+(g+1 - i)=g+1:=F;have cD:(g+1 - i)*J.bytes<=(g+1)*J.bytes:=cn _ F;have ap:=Lib.run_append_grow_zeros w T I T e J a2 .i64 .i64 L.sU L.YJ aO ch (some ⟨m.r,m.s+0,none⟩) i g aZ (by rw[ce];exact bs) (g+1 - i) F F F F (by unfold dk at bt;omega)
   (by rw[bk];have:=growslice_fits (old:=g) (need:=g+1) F bt;omega)
  rw[bk] at ap;obtain⟨n0,a8⟩:∃ n0,n0=grownCap w (g+1) g e:=⟨_,rfl⟩
  have a9:g+1<=n0:=by rw[a8];exact grownCap_ge w _ _ _
  rw[<-a8] at ap;obtain⟨ROW,ao⟩:∃ ROW:Array aA,ROW=aZ.toArray++Builtin.zeroCells a2.cells (g+1 - i)++Builtin.zeroCells a2.cells (n0 - (g+1)):=⟨_,rfl⟩
  rw[<-ao] at ap;have cA:(g+1)*z<=ROW.size:=by
   have bD:i*z+(g+1 - i)*z=(g+1)*z:=by rw[<-eV];congr 1
   rw[ao];simp only[E3,xV,Builtin.zeroCells];simp[bx,ae.1];omega
  have bI:(cs.take (i*z)).length=i*z:=by rw[cO];omega
  obtain⟨am,K⟩:=rel.push (w':=w.drew.alloc (.cells ROW e)) (cs.take (i*z)) ROW e rfl rfl rfl rfl F (fun bz c bY=>by
   obtain⟨aE,a6,bG,bH⟩:=ae.2 bz c bY;refine⟨aE,?_,bG,bH⟩;have ay:bz<aZ.length:=(aK.1 a6).1;rw[ao,AC,oX (by simpa using ay)];simpa using a6)
  rw[bI] at am K;have ar:b≠h.n:=F;have cF:=rel.kr Z;have bd:bv≠h.n:=F;have bp:(bm muZ h.n (some ⟨w.heap.size,0,ROW.size⟩)) h.n=some ⟨w.heap.size,0,ROW.size⟩:=fS _ _ _;have b4:(bm muZ h.n (some ⟨w.heap.size,0,ROW.size⟩)) bv=some ei:=by rw[bK _ _ _ _ bd];exact Z
  have b2:(bm muZ h.n (some ⟨w.heap.size,0,ROW.size⟩)) b=some m:=by rw[bK _ _ _ _ ar];exact q
  have bN:(h.push (.cells (i*z) (cs.take (i*z)))).f h.n=.cells (i*z) (cs.take (i*z)):=by rw[dY,fS]
  have bP:(h.push (.cells (i*z) (cs.take (i*z)))).f bv=.cells z vs:=by rw[dY,bK _ _ _ _ bd];exact D
  obtain⟨cj,aB,aP⟩:=y7 (P:=P) K (o:=0) (n:=z) bP b4 F;rw[aD] at aB;obtain⟨Q,av,S,O⟩:=yp (P:=P) (t:=T) (u:=T) (ty:=I) K L.sU H (k:=i*z) bN bp (aI _) (dLen:=g+1 - i) (dc:=n0 - i) (sLen:=1) (sc:=al) (cnt:=1)
   (by simp only[A6];split<;>omega) F (by rw[tj];exact aP) aB (by simp only;omega)
  have aU:max (i*z) (i*z+1*z)=(i+1)*z:=F;rw[aU] at S O;obtain⟨bF,bB⟩:=DR O (w':=Q.drew) (Gg Q);have bO:((h.push (.cells (i*z) (cs.take (i*z)))).set h.n (.cells ((i+1)*z) (ax (cs.take (i*z)) (i*z) vs))).f h.n=.cells ((i+1)*z) (ax (cs.take (i*z)) (i*z) vs):=by rw[dq,fS]
  have bb:((h.push (.cells (i*z) (cs.take (i*z)))).set h.n (.cells ((i+1)*z) (ax (cs.take (i*z)) (i*z) vs))).f b=.cells (g*z) cs:=by rw[dq,bK _ _ _ _ ar,dY,bK _ _ _ _ ar];exact p
  obtain⟨ci,aC,aR⟩:=y7 (P:=P) bB (o:=i*z) (n:=(g - i)*z) bb b2 F;obtain⟨aF,aw,U,ai⟩:=yp (P:=P) (t:=T) (u:=T) (ty:=I) bB L.sU H (k:=(i+1)*z) bO bp (aI _) (dLen:=g - i) (dc:=n0 - (i+1)) (sLen:=g - i) (sc:=g - i) (cnt:=g - i)
   (by simp only[A6];split<;>omega) a7 aR aC (by simp only;omega)
  have aV:max ((i+1)*z) ((i+1)*z+(g - i)*z)=(g+1)*z:=F;rw[aV,Sl aY Y F] at U ai;simp only[hr] at av aw;have b7:max g (g+1)=g+1:=F;rw[b7];refine (L.grow m.r (m.s+0) g g i ei.r (ei.s+0) al w.heap.size n0 _ _ w _ Q aF Y (aI _) F a9 aH ?_ av aw).mono ?_
  ·have:(g:Int)+1 - (i:Int)=((g+1 - i:Nat) :Int):=F;rw[this];exact ap
  rintro x a0 ⟨rfl,rfl⟩;have hk:=ai.kill (b:=b) (sz:=g*z) (cs:=cs) (h':=(h.set b .dead).push (.cells ((g+1)*z) (im z cs vs i g))) (by rw[dq,bK _ _ _ _ ar];exact bb) (by rw[hX,hX,jc];omega) (by
   rw[dY,dq,hX,dq,dq,dY];funext y;simp only[bm];by_cases h1:y=h.n
   ·rw[aj h1,ak F,aj h1]
   ·rw[ak h1];split
    ·rfl
    ·simp) (by rw[jc,hX,hX,hX,jc])
  refine⟨_,_,rfl,(((am.trans S).trans bF).trans U).trans hk.1,hk.2,?_⟩;have:=az.ad (w:=a0) (R:=R) (h:=(h.set b .dead).push (.cells ((g+1)*z) (im z cs vs i g))) (muZ:=bm muZ h.n (some ⟨w.heap.size,0,ROW.size⟩)) z h.n 0 (g+1) (g+1) ((g+1)*z) n0 (im z cs vs i g) ⟨w.heap.size,0,ROW.size⟩ (by rw[dY,hX,fS]) V (aI _) F (.inr ⟨F,a9,by
   simp only;have bD:i*z+(g+1 - i)*z=(g+1)*z:=by rw[<-eV];congr 1
   have cr:(g+1)*z+(n0 - (g+1))*z=n0*z:=by rw[<-eV];congr 1;omega
   rw[ao];simp only[E3,xV,Builtin.zeroCells];simp[bx,ae.1];omega⟩)
  simpa using this
theorem Im {f T C e z by_:Nat} (L:qm P f T C e z) (D:gm P T=some e) (Z:b5 P e=some z) (I:gO P e=some by_) (aB:0<z) (ax:0<by_) (ae:mh P e=some z)
  {bv:Nat} {vs:ag} (j:h.f bv=.cells z vs) (U:by_<=dk) :
  jM P G f [.af,.int .i64 0,.ad z bv 0 1 1 z] h (.ad z h.n 0 1 1 z) (h.push (.cells z vs)):=by
 intro R B w muZ am rel av K m;obtain⟨ap⟩:=am
 match ap,K with
 | [ai,aj,al],_=>
 have q:=m 0 _ ai rfl rfl;have o:=m 1 _ aj rfl rfl;have t:=m 2 _ al rfl rfl;have X:=t;cases o;have W:=q;cases q;have Q:uu P T:=⟨_,L.sU,fun k hk=>by cases hk⟩
 cases t with
 | fk _ _ _ _ _ _ _ _ _ _ g=>
  exfalso;rcases g with g | ⟨aE,au,g,az⟩
  ·rw[j] at g;cases g
  ·rw[j] at g;cases g;omega
 | ad _ _ _ _ _ _ ao aF ei aw O aA aC ay=>
 have p:=rel.blk bv ei O;rw[j] at p;obtain⟨aD,_⟩:=p;have H:n9 P h T .af (.ad z bv 0 1 1 z)=some (.ad z h.n 0 1 1 z,h.push (.cells z vs)):=by
  have o:(vs.drop 0).take (1*z)=vs:=by rw[lE,tj,aL F]
  unfold n9;rw[D];simp only[Z,I,contents,j,and_self,if_true,o];unfold qt;rw[ak F,ak (by rw[ae];simp;omega)];simp only[tj,U,if_true]
 obtain⟨v,aq,ar,V,J,S,Y⟩:=Bo (P:=P) (ty:=T) (u:=T) rel Q H W X;refine (L.fin none 0 0 ao ei.r (ei.s+0) v w aq (aI _) F (fun _=>⟨rfl,rfl⟩) V).mono ?_;rintro x aG ⟨rfl,rfl⟩;exact⟨v,ar,rfl,J,S,Y⟩
theorem Ij {f p F e z by_:Nat} (L:qm P f p F e z) (q:gm P p=some e) (C:b5 P e=some z) (v:gO P e=some by_) (B:0<z) (w:0<by_) (D:mh P e=some z)
  (args:ag) (h:aH) (r:U) (h' : aH) (g:ub z by_ args h=some (r,h')) :jM P G f args h r h':=by
 unfold ub at g;split at g
 ·rename_i s x y;split at g
  ·rename_i i ai Q V S R X j;have O:x=.int .i64 i:=by
    unfold F7 at j;split at j
    ·split at j
     ·cases j;rfl
     ·cases j
    ·cases j
   subst O;split at g
   ·rename_i T Z u;split at g
    ·rename_i m;obtain⟨rfl,rfl,rfl,rfl,rfl,rfl,H⟩:=m;obtain⟨k,rfl⟩:=m8 H;rw[fA] at g;unfold Il at g;cases s<;>simp only at g<;>try (cases g;done)
     case af=>
      split at g
      ·rename_i m;obtain⟨rfl,o⟩:=m;cases g;exact Im L q C v B w D u o
      ·cases g
     case ad ae b W len cap Y=>
      cases t:h.f b<;>rw[t] at g<;>(try simp only at g)<;>try (cases g;done)
      split at g
      ·rename_i m;obtain⟨rfl,rfl,rfl,rfl,K,I,J,o⟩:=m;cases g;exact In L q C v B w D t u K I J o
      ·cases g
    ·cases g
   ·cases g
  ·cases g
 ·cases g
end
end Go.bh
namespace Go.bh
open Go
theorem bg {p:Prop} (h:p:=by kernel_rfl) :p:=h
section
variable (P:bj)
abbrev mv:=List (List Nat)
def db (a:Nat) :Nat->mv
 | 0=>[]
 | n+1=>[a] ::db (a+1) n
def LZ (ops:Array bb) (o:bb) (i:Nat) (g:List Nat) (bq:Bool) :c8:=
 let h:=match o.guard with | none=>none | some j=>some (match ops[j.1]? with | some p=>p.dst | none=>none,j.2)
 match ku P o.op with
 | some m=>⟨i,o.dst,h,.fG m,g,bq⟩
 | none=>match o.op with
  | .call c=>match c.callee with
   | .value (.func f)=>⟨i,o.dst,h,.k4 f c.args.toList,g,bq⟩
   | .value x=>⟨i,o.dst,h,.lO x c.args.toList,g,bq⟩
   | .invoke x name=>⟨i,o.dst,h,.nm x name c.args.toList,g,bq⟩
   | _=>⟨i,none,none,.fG .stop,[],false⟩
  | _=>⟨i,none,none,.fG .stop,[],false⟩
def L2 (ops:Array bb) :List bb->Nat->List c8
 | [],_=>[]
 | g::r,i=>LZ P ops g i [] false::L2 ops r (i+1)
def Ih (i:Nat) :List Nat->Bool
 | []=>false
 | x::r=>match Nat.beq i x with | true=>true | false=>Ih i r
def ID (i:Nat) :mv->Bool
 | []=>false
 | p::r=>match Ih i p.tail with | true=>true | false=>ID i r
def FW:mv->Bool
 | []=>false
 | p::r=>match p.tail with | []=>FW r | _=>true
def Ex (ops:Array bb) (q:mv) (n:Nat) :mv->List c8
 | []=>L2 P ops (ops.toList.drop n) n
 | p::r=>(match p with
  | []=>⟨0,none,none,.fG .stop,[],false⟩
  | i::c=>match ops[i]? with | some g=>LZ P ops g i c (ID i q) | none=>⟨0,none,none,.fG .stop,[],false⟩) ::Ex ops q n r
def DO (ops:Array bb) (p:mv) :fO:=match FW p with
 | true=>.vU (Ex P ops p p.length p)
 | false=>.jB (Ex P ops p p.length p)
def XR (a b:fO) :fO:=match a with
 | .skip=>b
 | a=>match b with
  | .skip=>a
  | b=>.seq a b
def qP:Code->List mv->fO × List mv
 | .skip,g=>(.skip,g)
 | .label _,g=>(.skip,g)
 | .ret,g=>(.ret,g)
 | .exit id,g=>(.exit id,g)
 | .region _ ops true,g=>match g with
  | []=>(DO P ops [],[])
  | x::g=>(DO P ops x,g)
 | .region _ ops false,g=>(DO P ops [],g)
 | .seq a b,g=>match qP a g with | (a,g)=>match qP b g with | (b,g)=>(XR a b,g)
 | .cond c a b,g=>match qP a g with | (a,g)=>match qP b g with | (b,g)=>(.cond c a b,g)
 | .block id c,g=>match qP c g with | (c,g)=>(.block id c,g)
 | .loop c,g=>match qP c g with | (c,g)=>(.loop c,g)
 | .scope c,g=>qP c g
 | _,g=>(.skip,g)
def uj (fn:Func) (p:List mv) :fO:=match fn.body with
 | some c=>(qP P c p).1
 | none=>.skip
def sg:List ResultVar->List dx
 | []=>[]
 | x::r=>(match BL P x with | some g=>g | none=>.stop) ::sg r
end
theorem DT (x:U) (t:ag) :x::x::x::x::x::x::x::x::x::x::x::x::x::x::x::x::x::x::x::x::x::x::x::x::x::x::x::x::x::x::x::x::t=bT 32 x++t:=rfl
theorem DU (x:U) (t:ag) :bT 32 x++(bT 32 x++t)=bT 64 x++t:=rfl
theorem RK {P:bj} {f:cf} {fn:Func} (m:P.funcs[f]?=some fn) (p:List mv) {c:fO} {ms:List dx}
  (g:uj P fn p=c:=by conv=>lhs;(cbv;try simp only[DT,DU,eT]))
  (j:sg P fn.results.toList=ms:=by conv=>lhs;cbv)
  (hk:(vQ P f,vR P f)=(some (uj P fn p),some (sg P fn.results.toList)):=by kernel_rfl)
  {G:Nat->U} {args:ag} {l:ae} {K:qn} (h:run P G c (jm args) l (uh P G ms K.k)) :fY P G f args l (c:=K):=by rw[g,j] at hk;exact GC (vj hk).1 (vj hk).2 h
theorem cW {P:bj} {f:cf} {fn:Func} (t:P.funcs[f]?=some fn) (p:List mv) {g:Tables} {j:Array Func} {c:fO} {ms:List dx} (q:P=⟨g,j⟩:=by rfl)
  (m:uj ⟨g,#[]⟩ fn p=c:=by conv=>lhs;(cbv;try simp only[DT,DU,eT]))
  (o:sg ⟨g,#[]⟩ fn.results.toList=ms:=by conv=>lhs;cbv)
  (hk:(vQ P f,vR P f)=(some (uj ⟨g,#[]⟩ fn p),some (sg ⟨g,#[]⟩ fn.results.toList)):=by kernel_rfl)
  {G:Nat->U} {args:ag} {l:ae} {K:qn} (h:run P G c (jm args) l (uh P G ms K.k)) :fY P G f args l (c:=K):=by rw[m,o] at hk;exact GC (vj hk).1 (vj hk).2 h
namespace ca
abbrev W:=BitVec 32
abbrev B:=BitVec 8
def kL (x:W) (n:Nat) :W:=(x >>> n) ||| (x <<< (32 - n))
def mf (l:List B) :W:=l.foldl (fun a x=>(a <<< 8) ||| x.setWidth 32) 0#32
def part (b:List B) (k t:Nat) :W:=mf (((b.take k).drop (4*t)).take 4)
def eB (b:List B) :List W:=(List.range 16).map fun g=>mf ((b.drop (4*g)).take 4)
def ext (w:List W) :W:=
 let g:=w.length
 let x:=w.getD (g - 15) 0#32
 let y:=w.getD (g - 2) 0#32
 w.getD (g - 16) 0#32+w.getD (g - 7) 0#32+(kL x 7 ^^^ kL x 18 ^^^ (x >>> 3))+(kL y 17 ^^^ kL y 19 ^^^ (y >>> 10))
def gX:Nat->List W->List W
 | 0,w=>w
 | n+1,w=>gX n (w++[ext w])
def eJ (b:List B) :List W:=gX 48 (eB b)
def CV (x:W) (i j k:Nat) :W:=kL x i ^^^ kL x j ^^^ kL x k
structure dM where
 (a b c d e f g h:W)
def round (s:dM) (k w:W) :dM:=
 let j:=s.h+CV s.e 6 11 25+((s.e &&& s.f) ^^^ (~~~s.e &&& s.g))+k+w
 let q:=CV s.a 2 13 22+((s.a &&& s.b) ^^^ (s.a &&& s.c) ^^^ (s.b &&& s.c))
 ⟨j+q,s.a,s.b,s.c,s.d+j,s.e,s.f,s.g⟩
def rounds:dM->List W->List W->dM
 | s,k::b3,w::g=>rounds (round s k w) b3 g
 | s,_,_=>s
def table:List Nat:=[0x428a2f98,0x71374491,0xb5c0fbcf,0xe9b5dba5,0x3956c25b,0x59f111f1,0x923f82a4,0xab1c5ed5,0xd807aa98,0x12835b01,0x243185be,0x550c7dc3,0x72be5d74,0x80deb1fe,0x9bdc06a7,0xc19bf174,0xe49b69c1,0xefbe4786,0x0fc19dc6,0x240ca1cc,0x2de92c6f,0x4a7484aa,0x5cb0a9dc,0x76f988da,0x983e5152,0xa831c66d,0xb00327c8,0xbf597fc7,0xc6e00bf3,0xd5a79147,0x06ca6351,0x14292967,0x27b70a85,0x2e1b2138,0x4d2c6dfc,0x53380d13,0x650a7354,0x766a0abb,0x81c2c92e,0x92722c85,0xa2bfe8a1,0xa81a664b,0xc24b8b70,0xc76c51a3,0xd192e819,0xd6990624,0xf40e3585,0x106aa070,0x19a4c116,0x1e376c08,0x2748774c,0x34b0bcb5,0x391c0cb3,0x4ed8aa4a,0x5b9cca4f,0x682e6ff3,0x748f82ee,0x78a5636f,0x84c87814,0x8cc70208,0x90befffa,0xa4506ceb,0xbef9a3f7,0xc67178f2]
def b3:List W:=table.map (BitVec.ofNat 32)
def grind (h:dM) (b:List B) :dM:=
 let j:=rounds h b3 (eJ b)
 ⟨h.a+j.a,h.b+j.b,h.c+j.c,h.d+j.d,h.e+j.e,h.f+j.f,h.g+j.g,h.h+j.h⟩
def Bu:Nat->dM->List B->dM × List B
 | 0,h,b=>(h,b)
 | n+1,h,b=>if 64<=b.length then Bu n (grind h (b.take 64)) (b.drop 64) else (h,b)
def fZ (h:dM) (b:List B) :dM × List B:=Bu (b.length / 64) h b
def first:dM:=⟨0x6a09e667#32,0xbb67ae85#32,0x3c6ef372#32,0xa54ff53a#32,0x510e527f#32,0x9b05688c#32,0x1f83d9ab#32,0x5be0cd19#32⟩
def vI (n:BitVec 64) :List B:=[(n >>> 56).setWidth 8,(n >>> 48).setWidth 8,(n >>> 40).setWidth 8,(n >>> 32).setWidth 8,(n >>> 24).setWidth 8,(n >>> 16).setWidth 8,(n >>> 8).setWidth 8,(n >>> 0).setWidth 8]
def tail (n:Nat) :List B:=128#8::List.replicate ((119 - n % 64) % 64) 0#8++vI (BitVec.ofNat 64 n*8#64)
def p4 (w:W) :List B:=[(w >>> 24).setWidth 8,(w >>> 16).setWidth 8,(w >>> 8).setWidth 8,w.setWidth 8]
def dM.l (s:dM) :List W:=[s.a,s.b,s.c,s.d,s.e,s.f,s.g,s.h]
def written (s:dM) :List B:=(s.l.map p4).flatten
def fr (b:List B) :List B:=written (fZ first (b++tail b.length)).1
theorem Zl (l:List B) (x:B) :mf (l++[x])=(mf l <<< 8) ||| x.setWidth 32:=by simp[mf,AQ]
theorem r0:∀ (n:Nat) (w:List W),(gX n w).length=w.length+n
 | 0,w=>rfl
 | n+1,w=>by rw[gX,r0 n];simp;omega
theorem xg (b:List B) :(eJ b).length=64:=by rw[eJ,r0];simp[eB]
theorem Az (s:dM) :(written s).length=32:=rfl
theorem jE (b:List B) :(fr b).length=32:=rfl
theorem B8:∀ (n:Nat) (w:List W),gX (n+1) w=gX n w++[ext (gX n w)]
 | 0,w=>rfl
 | n+1,w=>by rw[gX,B8 n (w++[ext w])];rfl
theorem Aa (a:W) (x:B) :(a <<< 8) ||| x.setWidth 32=a*256#32+x.setWidth 32:=by
 apply eO;have o:x.toNat<256:=x.isLt;have m:=a.isLt;rw[BitVec.toNat_or,s7,xK,s6,eS];have h1:x.toNat % 2 ^ 32=x.toNat:=dR F;have g:a.toNat <<< 8 % 2 ^ 32=(a.toNat % 2 ^ 24) <<< 8:=by rw[nY,nY];omega
 have h:=Nh (b:=x.toNat) (i:=8) F (a.toNat % 2 ^ 24);rw[h1,g,<-h,nY];have j:(256#32).toNat=256:=rfl;rw[j];omega
theorem vG (h:dM) (b:List B) (g:64<=b.length) :fZ h b=fZ (grind h (b.take 64)) (b.drop 64):=by
 have:b.length / 64=(b.drop 64).length / 64+1:=by simp;omega
 rw[fZ,this,Bu,aj g];rfl
theorem yd (h:dM) (b:List B) (g:b.length<64) :fZ h b=(h,b):=by rw[fZ,qf g];rfl
theorem O4 (h:dM) (b:List B) :(fZ h b).2.length=b.length % 64:=by
 generalize g:b.length=n
 induction n using Nat.strongRecOn generalizing h b with
 | _ n j=>
  rcases fN b.length 64 with h1 | h1
  ·rw[yd h b h1,dR F];exact g
  ·rw[vG h b h1,j (b.length - 64) F _ (b.drop 64) V];omega
theorem Gm (h:dM) (a b:List B) :fZ h (a++b)=fZ (fZ h a).1 ((fZ h a).2++b):=by
 generalize j:a.length=n
 induction n using Nat.strongRecOn generalizing h a with
 | _ n g=>
  rcases fN a.length 64 with h1 | h1
  ·rw[yd h a h1]
  ·rw[vG h a h1,vG h (a++b) (by simp;omega),ig h1,nS h1];exact g (a.length - 64) F _ (a.drop 64) V
end ca
end Go.bh
namespace Go.bh
open Go Go.Proofs Go.Proofs.Tryz
def uX:ag:=ca.b3.map a7
def GS:Nat->U:=fun g=>match Nat.beq g 1 with | true=>.b0 uX 0 | false=>.bad
theorem ev:∀ g,(GS g).aw=true:=by
 intro g;unfold GS;split
 ·exact jo a7 (fun _=>rfl) _
 ·rfl
@[simp]
theorem ZG:GS 1=.b0 uX 0:=id rfl
abbrev aY:=@ii prog GS
abbrev Nr:=@fY prog GS
abbrev cJ (f:cf) (args:ag) (l:ae) (K:U->ae->Prop) :Prop:=fY prog GS f args l (c:=⟨K⟩)
abbrev cA:=U->ae->Prop
abbrev aO:=List (List ca.B)
theorem dF:dk=140737488355328:=rfl
theorem bc {f:cf} {fn:Func} (q:prog.funcs[f]?=some fn) (p:List mv) {g:Tables} {j:Array Func} {c:fO} {ms:List dx} (m:prog=⟨g,j⟩:=by rfl)
  (o:uj ⟨g,#[]⟩ fn p=c:=by conv=>lhs;(cbv;try simp only[DT,DU,eT]))
  (t:sg ⟨g,#[]⟩ fn.results.toList=ms:=by conv=>lhs;cbv)
  (hk:(vQ prog f,vR prog f)=(some (uj ⟨g,#[]⟩ fn p),some (sg ⟨g,#[]⟩ fn.results.toList)):=by kernel_rfl)
  {args:ag} {r:U} (h:run prog GS c (jm args) [] (uh prog GS ms (⟨fun u l=>Rd l u r⟩:qn).k)) :ii prog GS f args r:=
 w4 checked.mixed ev (cW q p m o t hk h)
theorem Ye (i:Nat) (h:i<64) :uX[i]?=some (a7 (ca.b3.getD i 0#32)):=by have g:ca.b3.length=64:=rfl;unfold uX;rw[bW,gA,bI F];rfl
namespace ca
def DZ (x:W) (k:Int) :W:=(x <<< (BitVec.ofInt 64 k &&& 31#64).toNat) ||| (x >>> (32#64 - (BitVec.ofInt 64 k &&& 31#64)).toNat)
theorem sE (x:W) (n:Nat) (g:0<n) (h:n<32) :DZ x (-(n:Int))=kL x n:=by
 have h1:∀ n:Fin 32,0<n.val->(BitVec.ofInt 64 (-(n.val:Int)) &&& 31#64)=BitVec.ofNat 64 (32 - n.val):=by decide
 have j:=h1 ⟨n,h⟩ g;simp only at j;unfold DZ kL;rw[j,BitVec.or_comm];congr 2
 ·have:∀ n:Fin 32,0<n.val->(32#64 - BitVec.ofNat 64 (32 - n.val)).toNat=n.val:=by decide
  exact this ⟨n,h⟩ g
 ·have:∀ n:Fin 32,0<n.val->(BitVec.ofNat 64 (32 - n.val)).toNat=32 - n.val:=by decide
  exact this ⟨n,h⟩ g
theorem sD (x:W) (k:Int) :aY 291 [a7 x,.i6 k] (a7 (DZ x k)):=by apply bc func291 [];simp;exact aE
theorem I6 (x:W) (i j k:Nat) (h:0<i/\i<32) (m:0<j/\j<32) (hk:0<k/\k<32) :aY 286 [a7 x,.i6 i,.i6 j,.i6 k] (a7 (CV x i j k)):=by
 apply bc func286 [];have g:∀ n:Nat,n<32->IntKind.i64.wrap (-(n:Int))=-(n:Int):=fun n g=>wrap_i64 F F
 simp[g i h.2];refine av (sD x _) rfl ?_;simp[g j m.2];refine av (sD x _) rfl ?_;simp[g k hk.2];refine av (sD x _) rfl ?_;simp[sE x _ h.1 h.2,sE x _ m.1 m.2,sE x _ hk.1 hk.2];exact aE
def bR (x:B) :ag:=[a8 x]
abbrev dS:=bL B
abbrev cc (s:dS) :U:=b4 1 bR s
theorem i5 (s:dS) :(cc s).aw=true:=lQ (fun _=>rfl) s
def mg (b:List B) (k:Nat) :List W:=((List.range 16).map fun g=>mf (((b.take k).drop (4*g)).take 4))++List.replicate 48 0#32
theorem M1 (b:List B) (k:Nat) :(mg b k).length=64:=by simp[mg]
theorem Zw (b:List B) :mg b 0=List.replicate 64 0#32:=by simp[mg,mf];rfl
theorem E1 (b:List B) (k t:Nat) (g:t<16) :(mg b k)[t]?=some (mf (((b.take k).drop (4*t)).take 4)):=by unfold mg;rw[aV (by simpa using g),bW,hp g];rfl
theorem Zv (b:List B) (k:Nat) (hk:k<64) (t:k<b.length) (x:B) (p:b[k]?=some x) :
  (mg b k).set (k / 4) ((mf (((b.take k).drop (4*(k / 4))).take 4) <<< 8) ||| x.setWidth 32)=mg b (k+1):=by
 apply g5;intro g;rw[nT,M1];have o:b.take (k+1)=b.take k++[x]:=by rw[eU,p];rfl
 have u:(b.take k).length=k:=by simp;omega
 by_cases m:g<16
 ·rw[E1 b _ g m,E1 b _ g m];by_cases h:k / 4=g
  ·rw[aj h,aj F,<-Zl,o,h];congr 2;rw[nS F];obtain⟨A,j⟩:=ao (List.drop (4*g) (List.take k b));have q:A.length<4:=by rw[j];simp;omega
   rw[<-j,aL F,aL (by simp;omega)]
  ·rw[ak h,o];congr 2;rcases fN k (4*g) with h1 | h1
   ·rw[kh F,kh (by simp;omega)]
   ·rw[nS F,ig (by simp;omega)]
 ·rw[ak F];unfold mg;rw[et (by simp;omega),et (by simp;omega)];simp
theorem Zu (b:List B) (h:64<=b.length) :mg b 64=eB b++List.replicate 48 0#32:=by unfold mg eB;congr 1;apply mm;intro j g;have:=g7.1 g;congr 1;rw[rv,na,iX F]
def mY (b:List B) (k:Nat) :List W:=gX k (eB b)++List.replicate (48 - k) 0#32
theorem Xc (b:List B) (k:Nat) (hk:k<=48) :(mY b k).length=64:=by simp[mY,r0,eB];omega
theorem z1 (b:List B) (k i:Nat) (g:i<16+k) :(mY b k)[i]?=some ((gX k (eB b)).getD i 0#32):=by
 unfold mY;have h:(gX k (eB b)).length=16+k:=by simp[r0,eB]
 rw[aV F,gA,bI F];rfl
theorem Xd (b:List B) (k:Nat) (hk:k<48) :(mY b k).set (16+k) (ext (gX k (eB b)))=mY b (k+1):=by
 have g:(gX k (eB b)).length=16+k:=by simp[r0,eB]
 unfold mY;rw[o0 _ _ F,g,tk,show 48 - k=(48 - (k+1))+1 by omega,kk,xU,B8];simp
theorem Xf (b:List B) (am:64<=b.length) :aY 285 [cc (some b)] (.ah ((eJ b).map a7)):=by
 apply bc func285 [];have aC:dK (.ad 1) (cc (some b)) none (some (.i6 64)) none=some (cc (some (b.take 64))):=by
  unfold cc;rw[Eo F F];rfl
 have ay:min 64 b.length=64:=F;simp[aC,ay];refine bz 64 (fun k m l=>m 2=.ptr 0 0 64/\m 11=cc (some (b.take 64))/\m 12=.i6 64/\m 13=.i6 k/\l=[.q 64 ((mg b k).map a7)]) ?_ ?_
 ·rintro k m l hk ⟨o,D,G,H,rfl⟩;obtain⟨m,rfl⟩:=fc o D G H;clear o D G H;simp;by_cases h:(k:Int)<64
  ·obtain⟨x,J⟩:∃ x,b[k]?=some x:=⟨_,bI F⟩
   have aF:(b.take 64)[k]?=some x:=by rw[dU F];exact J
   have aq:bO (.ad 1) (cc (some (b.take 64))) (.i6 k)=some (.b0 (bR x) 0):=by simp[cc,ow,aF]
   obtain⟨q,z⟩:=ao (k / 4);have aA:ct .quo .i64 (k:Int) .i64 4=some (.i6 (q:Int)):=by rw[z];exact Bx k 4 F F
   have aE:IntKind.i64.wrap ((k:Int)+1)=k+1:=wrap_i64 F F;have az:(q:Int)<64:=F;have ap:=E1 b k q F;have j:=mc a7 (mg b k) q (((mf (((b.take k).drop (4*q)).take 4) <<< 8) ||| x.setWidth 32)) (by rw[M1];omega);rw[z,Zv b k F F x J,<-z] at j;have w:q+1<=64:=F;simp[h,aq,bR,aA,az,ap,w,aE,j];omega
  ·have au:k=64:=F;subst au;simp;refine bz 48 (fun g m l=>m 2=.ptr 0 0 64/\m 5=.i6 (16+g:Nat)/\l=[.q 64 ((mY b g).map a7)]) ?_ ?_
   ·rintro g m l aG ⟨o,I,rfl⟩;obtain⟨m,rfl⟩:=kb o I;clear o I;obtain⟨t,C⟩:=ao (16+g);rw[<-C];simp;by_cases h:(t:Int)<64
    ·have aD:IntKind.i64.wrap ((t:Int)+1)=(t+1:Nat):=wrap_i64 F F;have V:IntKind.i64.wrap ((t:Int) - 15)=(t - 15:Nat):=by rw[wrap_i64 F F];omega
     have X:IntKind.i64.wrap ((t:Int) - 2)=(t - 2:Nat):=by rw[wrap_i64 F F];omega
     have W:IntKind.i64.wrap ((t:Int) - 16)=(t - 16:Nat):=by rw[wrap_i64 F F];omega
     have Y:IntKind.i64.wrap ((t:Int) - 7)=(t - 7:Nat):=by rw[wrap_i64 F F];omega
     have aw:(gX g (eB b)).length=t:=by simp[r0,eB];omega
     have p:=z1 b g (t - 15) F;have o:=z1 b g (t - 2) F;have u:=z1 b g (t - 16) F;have v:=z1 b g (t - 7) F;have j:=mc a7 (mY b g) t (ext (gX g (eB b))) (by rw[Xc b g F];omega);rw[C,Xd b g F,<-C] at j;unfold ext at j;rw[aw] at j
     dsimp only at j
     obtain⟨K,aj⟩:=ao (t - 15);obtain⟨P,ak⟩:=ao (t - 2);obtain⟨O,yu⟩:=ao (t - 16);obtain⟨Q,al⟩:=ao (t - 7);rw[<-aj] at V p j;rw[<-ak] at X o j;rw[<-yu] at W u j;rw[<-al] at Y v j;have Z:(K:Int)<64:=F;have ag:(P:Int)<64:=F;have ae:(O:Int)<64:=F;have ai:(Q:Int)<64:=F;have w:t+1<=64:=F;generalize (gX g (eB b)).getD K 0#32=x at p j;generalize (gX g (eB b)).getD P 0#32=y at o j;generalize (gX g (eB b)).getD O 0#32=aH at u j;generalize (gX g (eB b)).getD Q 0#32=aJ at v j;have U:=sE x 7 F F;have S:=sE x 18 F F;have R:=sE y 17 F F;have T:=sE y 19 F F;simp at U S R T;simp[h,V,X,p,o,Z,ag];refine av (sD _ _) rfl ?_;simp;refine av (sD _ _) rfl ?_;simp;refine av (sD _ _) rfl ?_;simp;refine av (sD _ _) rfl ?_;simp[U,S,R,T,W,Y,u,v,ae,ai,h,j,aD,w];omega
    ·have ar:g=48:=F;have aB:mY b 48=eJ b:=by simp[mY,eJ]
     subst ar;have ax:=xg b;rw[aB];simp[h,ax,mb,aL];exact aT rfl (GO a7 (fun _=>rfl) _)
   ·simp[mY,gX,Zu b am]
 ·simp[Zw,KT _ 32]
theorem Zs (b:List B) (n:Nat) (h:64<=n) :eB (b.take n)=eB b:=by unfold eB;apply mm;intro j g;have:=g7.1 g;congr 1;rw[rv,na,iX F]
theorem Xe (b:List B) (n:Nat) (g:64<=n) :eJ (b.take n)=eJ b:=by unfold eJ;rw[Zs b n g]
theorem rounds_succ:∀ (k:Nat) (s:dM) (a b:List W) (x y:W),a[k]?=some x->b[k]?=some y->rounds s (a.take (k+1)) (b.take (k+1))=round (rounds s (a.take k) (b.take k)) x y
 | 0,s,a,b,x,y,g,h=>by
  cases a with
  | nil=>simp at g
  | cons a j=>
   cases b with
   | nil=>simp at h
   | cons b m=>simp at g h;subst g h;simp[rounds]
 | k+1,s,a,b,x,y,g,h=>by
  cases a with
  | nil=>simp at g
  | cons a j=>
   cases b with
   | nil=>simp at h
   | cons b m=>
    simp only[List.take_succ_cons,rounds];exact rounds_succ k _ j m x y (by simpa using g) (by simpa using h)
def j5 (h:dM) (b:List B) (k:Nat) :dM:=rounds h (b3.take k) ((eJ b).take k)
theorem Kv (h:dM) (b:List B) :j5 h b 0=h:=rfl
theorem Ku (h:dM) (b:List B) (k:Nat) (hk:k<64) :j5 h b (k+1)=round (j5 h b k) (b3.getD k 0#32) ((eJ b).getD k 0#32):=by
 have h1:b3.length=64:=rfl;have g:=xg b;refine rounds_succ k h b3 (eJ b) _ _ ?_ ?_
 ·rw[gA,bI F];rfl
 ·rw[gA,bI F];rfl
theorem Kt (h:dM) (b:List B) :j5 h b 64=rounds h b3 (eJ b):=by have h1:b3.length=64:=rfl;have g:=xg b;unfold j5;rw[aL F,aL F]
def ha (a b:List W) (k:Nat) :List W:=(List.zipWith (·+·) a b).take k++a.drop k
theorem FR (a b:List W) :ha a b 0=a:=rfl
theorem Bh {a b:List W} (h:a.length=b.length) (k:Nat) :(ha a b k).length=a.length:=by simp[ha];omega
theorem FP {a b:List W} (h:a.length=b.length) {k:Nat} (hk:k<a.length) :(ha a b k)[k]?=a[k]?:=by
 unfold ha;rw[et (by simp;omega)];have:(List.take k (List.zipWith (·+·) a b)).length=k:=by simp;omega
 rw[this,gB];simp
theorem FQ {a b:List W} (h:a.length=b.length) {k:Nat} {x y:W} (g:a[k]?=some x) (m:b[k]?=some y) :(ha a b k).set k (x+y)=ha a b (k+1):=by
 have hk:=(aK.1 g).1;unfold ha;have j:(List.take k (List.zipWith (·+·) a b)).length=k:=by simp;omega
 have o:(List.zipWith (·+·) a b)[k]?=some (x+y):=by rw[List.getElem?_zipWith,g,m]
 rw[o0 _ _ F,j,tk,ml hk,xU,eU,o];simp
theorem RO {h:dM} {b:List B} (aA:64<=b.length) {l:ae} {bk sz:Nat} {rest:ag} {x:U} {K:cA} (G:l[bk]?=some (.q sz (h.l.map a7++rest))) (aY:8<=sz) (aN:fw (aX l) x (cc (some b)))
  (ak:∀ junk,K (.a1 []) (l.set bk (.q sz ((grind h b).l.map a7++rest))++junk)) :cJ 273 [.ptr bk 0 sz,x] l K:=by
 apply cW func273 [[],[[0],[1]]++db 4 8++[[13],[14],[15],[17],[18],[19],[2,19,15],[3],[12],[16]]];simp;refine hg (Xf b aA) (.cons aN .nil) (HG a7 (fun _=>rfl) _) ?_;have u:=a2 G;have aL:=xg b;have aH:(l++[am.q 64 ((eJ b).map a7)])[bk]?=some (.q sz (h.l.map a7++rest)):=by rw[aV u];exact G
 have m:∀ i (y:W),i<8->h.l[i]?=some y->(h.l.map a7++rest)[i]?=some (a7 y):=fun i y aE w=>by
  rw[aV (by simpa [dM.l] using aE),bW,w];rfl
 have aO:=m 0 h.a F rfl;have q1:=m 1 h.b F rfl;have aP:=m 2 h.c F rfl;have aQ:=m 3 h.d F rfl;have aR:=m 4 h.e F rfl;have aS:=m 5 h.f F rfl;have aT:=m 6 h.g F rfl;have aU:=m 7 h.h F rfl;simp[mb,aL,aH,aO,q1,aP,aQ,aR,aS,aT,aU];refine bz 64 (fun k j t=>j 0=.ptr bk 0 sz/\j 4=.ptr l.length 0 64/\j 5=a7 (j5 h b k).a/\j 6=a7 (j5 h b k).b/\j 7=a7 (j5 h b k).c/\j 8=a7 (j5 h b k).d/\j 9=a7 (j5 h b k).e/\j 10=a7 (j5 h b k).f/\j 11=a7 (j5 h b k).g/\j 12=a7 (j5 h b k).h/\j 52=.i6 k ∧
  t=l++[.q 64 ((eJ b).map a7)]) ?_ ?_
 ·rintro k j t hk ⟨p,T,V,Y,Z,ai,aj,O,P,S,X,rfl⟩;obtain⟨j,rfl⟩:=ME p T V Y Z ai aj O P S X;clear p T V Y Z ai aj O P S X;simp;by_cases C:(k:Int)<64
  ·have J:IntKind.i64.wrap ((k:Int)+1)=k+1:=wrap_i64 F F;have D:k<64:=F;have ar:=Ye k D;have aq:(eJ b)[k]?=some ((eJ b).getD k 0#32):=by rw[gA,bI F];rfl
   rw[Ku h b k D];generalize (eJ b).getD k 0#32=a0 at *
   generalize b3.getD k 0#32=aZ at *
   generalize j5 h b k=s at *
   have ay:=I6 s.e 6 11 25 F F F;have az:=I6 s.a 2 13 22 F F F;simp at ay az;simp[C,ar,aq];refine av ay rfl ?_;simp[ar,aq];refine av az rfl ?_;simp[D,J];simp[round]
  ·have aF:k=64:=F;subst aF;rw[Kt];obtain⟨v,au⟩:∃ v,rounds h b3 (eJ b)=v:=⟨_,rfl⟩
   rw[au];have aC:grind h b=⟨h.a+v.a,h.b+v.b,h.c+v.c,h.d+v.d,h.e+v.e,h.f+v.f,h.g+v.g,h.h+v.h⟩:=by unfold grind;rw[au]
   simp;have I:h.l.length=v.l.length:=rfl;have H:h.l.length=8:=rfl;have aB:(grind h b).l=ha h.l v.l 8:=by rw[aC];rfl
   rw[aB] at ak;refine bz 8 (fun k j t=>j 0=.ptr bk 0 sz/\j 111=.ah (v.l.map a7)/\j 112=.i6 k/\t=l.set bk (.q sz ((ha h.l v.l k).map a7++rest))++[.q 64 ((eJ b).map a7)]) ?_ ?_
   ·rintro k j t hk ⟨p,Q,R,rfl⟩;obtain⟨j,rfl⟩:=gK p Q R;clear p Q R;simp;by_cases C:(k:Int)<8
    ·have J:IntKind.i64.wrap ((k:Int)+1)=k+1:=wrap_i64 F F;have o:k<8:=F;obtain⟨y,w⟩:∃ y,v.l[k]?=some y:=⟨_,bI (show k<v.l.length from o)⟩
     obtain⟨z,aw⟩:∃ z,h.l[k]?=some z:=⟨_,bI (show k<h.l.length from o)⟩
     have al:=FP I (k:=k) (by rw[H];exact o);rw[aw] at al;have ao:=Bh I k;have ap:=mc a7 (ha h.l v.l k) k (z+y) (by rw[ao,H];exact o);rw[FQ I aw w] at ap;have aW:((ha h.l v.l k).map a7).length=8:=by rw[cx,ao,H]
     have aM:ax ((ha h.l v.l k).map a7++rest) k [a7 (z+y)]=(ha h.l v.l (k+1)).map a7++rest:=by
      rw[<-ap];unfold ax;rw[ig F,nS (by simp;omega)];simp
     have aD:((ha h.l v.l k).map a7++rest)[k]?=some (a7 z):=by rw[aV F,bW,al];rfl
     have aJ:(l.set bk (.q sz ((ha h.l v.l k).map a7++rest))++[am.q 64 ((eJ b).map a7)])[bk]?=some (.q sz ((ha h.l v.l k).map a7++rest)):=by
      rw[aV (by simpa using u),nT];simp[u]
     have aG:k+1<=sz:=F;simp[C,w,aD,aJ,J,aM,o,aG,u]
    ·have o:k=8:=F;subst o;simp;exact ak _
   ·have aK:l.set bk (.q sz ((ha h.l v.l 0).map a7++rest))=l:=by
     rw[FR];exact Xi G
    rw[aK];simp[dM.l]
 ·simp[Kv]
abbrev kw (g:bL dS) :U:=b4 1 (fun s=>[cc s]) g
theorem GM (g:bL dS) :(kw g).aw=true:=lQ (fun s=>by simp only[aq,i5,kU]) g
def bytesOf (g:List dS) :List B:=(g.map bL.l).flatten
theorem bytesOf_take (g:List dS) (k:Nat) (s:dS) (h:g[k]?=some s) :bytesOf (g.take (k+1))=bytesOf (g.take k)++s.l:=by unfold bytesOf;rw[eU,h];simp
theorem Gw (g:List dS) (k:Nat) :(bytesOf (g.take k)).length<=(bytesOf g).length:=by
 conv=>rhs;rw[<-iV k g]
 unfold bytesOf;rw[c5,jL,cr];omega
theorem RS {n:Nat} (C:n<=1000000000) {l:ae} {K:cA} (h:∀ v j l',aM 1 l' v j []->l.length<=l'.length->(∀ b,b<l.length->l'[b]?=l[b]?)->(bt v=decide (n=0))->K v l') :cJ 219 [.af,.i6 n] l K:=by
 apply cW func219 [];have h1:¬((n:Int)<0):=F;have w:IntKind.i64.wrap (n:Int)=n:=wrap_i64 F F;have z:IntKind.i64.wrap (0:Int)=0:=rfl;by_cases g:n=0
 ·subst g;simp;exact h _ 0 _ (.nil 0) (aI _) (fun _ _=>rfl) rfl
 have B:(0:Int)<n:=F;have p:n5 l 1 1 [.int .u8 0] .af (.i6 n)=some (.ad 1 l.length 0 n n (n*1),l++[.q (n*1) (cD [.int .u8 0] n)]):=by
  unfold n5 ht;simp only[fA];have m:=dF;rw[aj ⟨F,F,by rw[m];omega⟩,ak g,ak F,aj (by rw[m];omega)]
 have o:dK (.ad 1) (.ad 1 l.length 0 n n (n*1)) none (some (.i6 0)) none=some (.ad 1 l.length 0 0 n (n*1)):=by
  rw[sL,Bw,aj ⟨F,F⟩];simp[g]
 rw[nX] at p o;have t:0<n:=F;simp[h1,t,w,p,z,o];refine h _ l.length (l++[.q n (cD [.int .u8 0] n)]) (.ad _ 0 n n (cD [.int .u8 0] n) [] V (by rw[uJ];simp) rfl V F F rfl) V (fun b u=>aV u) ?_;simp[bt,g]
def tL (g:List dS) :dS:=if bytesOf g=[] then none else some (bytesOf g)
theorem Pv (IM:List dS) :(tL IM).l=bytesOf IM:=by unfold tL;split<;>simp_all
theorem PY (g:List dS) (T:(bytesOf g).length<=1000000000) (ai:g.length<=1000000000) :nh prog GS 172 [kw (some g)] (cc (tL g)):=by
 refine w3 checked.mixed ev ?_;apply cW func172 [];simp;have Q:∀ (k:Nat) (s:dS),g[k]?=some s->bO (.ad 1) (kw (some g)) (.i6 k)=some (.b0 [cc s] 0):=fun k s m=>by simp[kw,ow,m]
 refine bz g.length (fun k j l=>j 0=kw (some g)/\j 9=kw (some g)/\j 10=.i6 g.length/\j 11=.i6 k/\j 3=.i6 (bytesOf (g.take k)).length/\l=[]) ?_ ?_
 ·rintro k j l hk ⟨C,P,D,G,K,rfl⟩;obtain⟨j,rfl⟩:=gx C K P D G;clear C K P D G;simp;by_cases h:k<g.length
  ·obtain⟨s,m,_⟩:=aP h;have o:=bytesOf_take g k s m;have z:=Gw g (k+1);rw[o,cr] at z;have V:IntKind.i64.wrap (((bytesOf (g.take k)).length:Int)+s.l.length)=((bytesOf (g.take k)).length:Int)+s.l.length:=wrap_i64 F F;have B:IntKind.i64.wrap ((k:Int)+1)=k+1:=wrap_i64 F F;have U:¬(((bytesOf (g.take k)).length:Int)+s.l.length<0):=F;simp[h,Q k s m,V,U,B,o]
  ·have w:k=g.length:=F;subst w;simp;refine RS T ?_;intro t v l q ag _ u;simp;refine bz g.length (fun k j l=>j 25=kw (some g)/\j 26=.i6 g.length/\j 27=.i6 k/\∃ t v,j 6=t/\aM 1 l t v ((bytesOf (g.take k)).map bR)/\bt t=decide (bytesOf g=[])) ?_ ?_
   ·rintro k j l hk ⟨H,I,J,t,v,O,q,u⟩;obtain⟨j,rfl⟩:=fc O H I J;clear O H I J;simp;by_cases h:k<g.length
    ·obtain⟨s,m,_⟩:=aP h;have o:=bytesOf_take g k s m;have z:=Gw g (k+1);rw[o,cr] at z;have B:IntKind.i64.wrap ((k:Int)+1)=k+1:=wrap_i64 F F;have aj:=dF;obtain⟨al,W,ak,h1,R,Y,Z,ae,S⟩:=lM (by_:=1) q (x:=cc s) (xs:=s.l.map bR) (by simp[cc]) (fun e p=>by obtain⟨x,_,rfl⟩:=cy.1 p;rfl) F F (by simp;omega);simp[h,Q k s m,h1];refine b2.bq ?_;simp[h,B];refine⟨⟨W,by rw[o,c5];exact R⟩,?_⟩;rw[qL S,u];by_cases p:bytesOf g=[]
     ·have X:(bytesOf g).length=0:=by rw[p];rfl
      have:s.l=[]:=ic.1 F;simp[p,this]
     ·simp[p]
    ·have w:k=g.length:=F;subst w;simp;rw[fC] at q;refine q.DK (fun _=>rfl) _ ?_ (Pv g);rw[u];unfold tL;split<;>simp_all
   ·simp;refine⟨⟨v,by simpa [bytesOf] using q⟩,?_⟩;rw[u];simp[ic]
 ·simp[bytesOf]
theorem PK (s:bL B) :eb prog .eql 100 (b4 1 bR s) .af=some (.bool s.isNone):=vF (e:=5) bg 1 bR s
theorem PL {s:bL B} (D:s.l.length<=1000000000) {l:ae} {K:cA} (g:∀ v j l',aM 1 l' v j (s.l.map bR)->l.length<=l'.length->(∀ b,b<l.length->l'[b]?=l[b]?)->(v=.af\/l.length<=j)->bt v=s.isNone->K v l') :cJ 274 [b4 1 bR s] l K:=by
 apply cW func274 [];simp[PK];cases s with
 | none=>
  simp;exact g _ 0 _ (.nil 0) (aI _) (fun _ _=>rfl) (.inl rfl) rfl
 | some b=>
  simp;have I:=dF;have J:b.length<=1000000000:=D;have C:aM 1 (l++[am.q 0 []]) (.ad 1 l.length 0 0 0 0) l.length []:=.ad l.length 0 0 0 [] [] V rfl rfl V (aI _) F rfl;obtain⟨O,G,l',h1,m,o,p,t,u⟩:=lM (by_:=1) C (x:=b4 1 bR (some b)) (xs:=b.map bR) V (fun e z=>by obtain⟨x,_,rfl⟩:=cy.1 z;rfl) F F (by simp;omega);simp[h1];refine b2.bq ?_;simp;have H:l.length+1<=l'.length:=by simpa using o
  refine g _ G _ m F (fun b w=>?_) (.inr (by rcases t with h | h<;>(try simp only[cr,dE,hq] at h)<;>omega)) ?_
  ·rw[p b (by simp;omega) F,aV w]
  ·rw[qL u];rfl
structure o5 where
 st:dM
 rest:dS
 n:Int
def fq (s:dM) (r:U) (n:Int) :ag:=s.l.map a7++[r,.i6 n]
def nt (m:o5) :U:=.ah (fq m.st (cc m.rest) m.n)
def pn (m:o5) (b:dS) :o5:=
 let all:=m.rest.l++b.l
 ⟨(fZ m.st all).1,if all=[] then none else some (fZ m.st all).2,m.n+b.l.length⟩
theorem Pw (a b:dS) :tL [a,b]=if a.l++b.l=[] then none else some (a.l++b.l):=by
 have:bytesOf [a,b]=a.l++b.l:=by simp[bytesOf]
 unfold tL;rw[this]
theorem RP (h:dM) (b:List B) :grind h (b.take 64)=grind h b:=by unfold grind;rw[Xe b 64 F]
theorem qQ (s:dM) (r:U) (n:Int) :(fq s r n).length=10:=rfl
theorem Ht (m:o5) (b:dS) (Q:m.rest.l.length+b.l.length<=1000000000) (aG:0<=m.n) (aH:m.n<=1000000000) :nh prog GS 248 [nt m,cc b] (nt (pn m b)):=by
 refine w3 checked.mixed ev ?_;apply cW func248 [db 0 6++[[6,1]]];have aD:(U.ah (fq m.st (cc m.rest) m.n)).cells=some (fq m.st (cc m.rest) m.n):=rfl;have ai:(fq m.st (cc m.rest) m.n)[8]?=some (cc m.rest):=rfl;have P:=PY [m.rest,b] (by simp[bytesOf];exact Q) V;rw[Pw] at P;simp[nt,qQ,ai];refine Ki P (.cons ?_ .nil) ?_
 ·exact zM (es:=[[cc m.rest],[cc b]]) (rest:=[]) rfl rfl V (by simp[aq,i5])
 obtain⟨all,z⟩:=ao (m.rest.l++b.l);have aC:all.length<=1000000000:=by rw[z];simpa using Q
 rw[<-z];simp;refine bz (all.length / 64) (fun k j l=>j 1=cc b/\j 2=.ptr 0 0 10/\j 4=.ptr 1 0 10/\∃ h s o junk,j 5=cc s/\l=.q 10 (fq h (cc m.rest) m.n) ::.q 10 o::junk/\fZ m.st all=fZ h s.l/\s.l.length=all.length - 64*k/\o.length=10/\s.isNone=decide (all=[])) ?_ ?_
 ·rintro k j l hk ⟨B,C,D,h,s,o,junk,G,rfl,J,t,X,S⟩;obtain⟨j,rfl⟩:=fc B C D G;clear B C D G;have am:bx (.ad 1) (cc s)=some (.i6 s.l.length):=cd _;simp[am];by_cases w:(64:Int)<=s.l.length
  ·cases s with
   | none=>simp at w
   | some g=>
   have ag:(64:Int)<=g.length:=w;have H:64<=g.length:=F;simp[ag];refine RO (h:=h) (b:=g) H (l:=.q 10 (fq h (cc m.rest) m.n) ::.q 10 o::junk) (bk:=0) (sz:=10) (rest:=[cc m.rest,.i6 m.n]) rfl F (KH (i5 _)) (fun aJ=>?_);have av:dK (.ad 1) (cc (some g)) (some (.i6 64)) none none=some (cc (some (g.drop 64))):=by
    unfold cc;rw[LG F F];rfl
   simp[av];have aE:g.length=all.length - 64*k:=t;refine⟨F,grind h g,some (g.drop 64),rfl,o,⟨rfl,rfl⟩,?_,?_,X,?_⟩
   ·rw[J];show fZ h g=_;rw[vG h g H,RP];rfl
   ·simp;omega
   ·exact S
  ·have ap:s.l.length<64:=F;have aA:IntKind.i64.wrap (m.n+(b.l.length:Int))=m.n+b.l.length:=wrap_i64 F F;have I:(fq h (cc m.rest) m.n)[9]?=some (.i6 m.n):=rfl;have al:bx (.ad 1) (cc b)=some (.i6 b.l.length):=cd _;simp[w,I,al,aA];refine PL F ?_;intro ae Y l T aF R p ar;obtain⟨l',rfl⟩:∃ l',l=.q 10 (fq h (cc m.rest) m.n) ::.q 10 o::l':=by
    have u:=R 0 V;have v:=R 1 V;cases l with
    | nil=>simp at u
    | cons a l=>cases l with
     | nil=>simp at v
     | cons c l=>simp at u v;subst u v;exact⟨l,rfl⟩
   have ay:∀ r n Jc,ax (fq h r n) 9 [.i6 Jc]=fq h r Jc:=fun _ _ _=>rfl
   have aw:∀ r n Z,ax (fq h r n) 8 [Z]=fq h Z n:=fun _ _ _=>rfl
   have az:=T.cells;simp[I,ay,aw,az,qQ,X,mb];have W:∀ r n,List.take 10 (fq h r n)=fq h r n:=fun _ _=>rfl
   rw[W,W];have ak:pn m b=⟨h,if all=[] then none else some s.l,m.n+b.l.length⟩:=by
    unfold pn;rw[<-z]
    dsimp only
    rw[J,yd h s.l ap]
   rw[ak];have au:=(T.c6 (l':=.q 10 (fq h ae (m.n+(b.l.length:Int))) ::.q 10 (fq h ae (m.n+(b.l.length:Int))) ::l') (by
    rcases p with p | p
    ·exact .inl p
    ·obtain⟨q,rfl⟩:∃ q,Y=q+2:=⟨Y - 2,by simp at p;omega⟩
     exact .inr rfl)).DK (fun _=>rfl) (if all=[] then none else some s.l) (by
     rw[ar,S];split<;>simp_all) (by
     split
     ·rename_i aj;rw[aj] at t;simp at t;rw[t];rfl
     ·rfl)
   refine .ah _ _ rfl fun i c aB K O=>?_
   rcases i with _ | _ | _ | _ | _ | _ | _ | _ | _ | _ | i<;>simp[fq,dM.l] at K O
   all_goals subst K O
   all_goals first | exact au | exact .flat _ rfl
 ·simp;exact⟨m.st,(if all=[] then none else some all),rfl,⟨[.int .u32 0,.int .u32 0,.int .u32 0,.int .u32 0,.int .u32 0,.int .u32 0,.int .u32 0,.int .u32 0,.af,.i6 0],⟨rfl,rfl⟩,by split<;>simp_all,by split<;>simp_all,rfl,by split<;>simp_all⟩⟩
def eF (b:List B) :U:=.ah (b.map a8)
def kS (n k:Nat) :List B:=128#8::List.replicate ((119 - n % 64) % 64) 0#8++(vI (BitVec.ofNat 64 n*8#64)).take k
theorem EH (n:Nat) :kS n 8=tail n:=rfl
theorem Mi (n k:Nat) (x:B) (g:(vI (BitVec.ofNat 64 n*8#64))[k]?=some x) :kS n (k+1)=kS n k++[x]:=by unfold kS;rw[eU,g];simp
theorem Ak (n k:Nat) :(kS n k).length<=80:=by unfold kS;have:(vI (BitVec.ofNat 64 n*8#64)).length=8:=rfl;simp;omega
theorem Gs (q:BitVec 64) (k:Nat) (hk:k<8) :(vI q)[k]?=some ((q >>> (56 - 8*k)).setWidth 8):=by
 match k,hk with
 | 0,_=>rfl
 | 1,_=>rfl
 | 2,_=>rfl
 | 3,_=>rfl
 | 4,_=>rfl
 | 5,_=>rfl
 | 6,_=>rfl
 | 7,_=>rfl
def mU (s:List W) (k:Nat) :List B:=((s.take k).map p4).flatten++List.replicate (32 - 4*k) 0#8
theorem MX (s:List W) :(s.map p4).flatten.length=4*s.length:=by
 induction s with
 | nil=>rfl
 | cons w s g=>simp[g,p4];omega
theorem UM (s:List W) (k:Nat) (hk:k<=s.length) (g:s.length=8) :(mU s k).length=32:=by unfold mU;rw[cr,MX];simp;omega
theorem UN (s:List W) (k:Nat) (w:W) (hk:s[k]?=some w) (o:s.length=8) :
  ((((mU s k).set (4*k) ((w >>> 24).setWidth 8)).set (4*k+1) ((w >>> 16).setWidth 8)).set (4*k+2) ((w >>> 8).setWidth 8)).set (4*k+3) (w.setWidth 8)=mU s (k+1):=by
 have m:=(aK.1 hk).1;unfold mU;rw[eU,hk];have g:((s.take k).map p4).flatten.length=4*k:=by rw[MX];simp;omega
 obtain⟨A,h⟩:=ao (((s.take k).map p4).flatten);rw[<-h] at g ⊢;have j:32 - 4*k=(32 - 4*(k+1))+1+1+1+1:=F;rw[j,kk,kk,kk,kk];rw[o0 _ _ F,o0 _ _ F,o0 _ _ F,o0 _ _ F];simp only[g,tk,Nat.add_sub_cancel_left,xU,Fp,c5,jL,<-h];simp[p4]
def yx (s:dM) (r:dS) (n:Nat) :List B:=written (fZ s (r.l++tail n)).1
theorem QG (s:dM) (r:dS) (n:Nat) (bO:r.l.length<=100000000) (bL:n<=100000000) :aY 249 [nt ⟨s,r,n⟩] (eF (yx s r n)):=by
 apply bc func249 [];have aR:(fq s (cc r) n)[9]?=some (.i6 n):=rfl;have ai:(U.ah (fq s (cc r) n)).cells=some (fq s (cc r) n):=rfl;have av:=tG n 64 F;obtain⟨q,Q⟩:=ao (n % 64);rw[show ((64:Int).toNat)=64 from rfl,<-Q] at av;have bN:q<64:=by rw[Q];exact iY _ F
 have ay:IntKind.i64.wrap (119 - (q:Int))=(119 - q:Nat):=by rw[wrap_i64 F F];omega
 have I:=tG (119 - q) 64 F;rw[show ((64:Int).toNat)=64 from rfl] at I;obtain⟨v,P⟩:=ao ((119 - q) % 64);rw[<-P] at I;have bH:v<64:=by rw[P];exact iY _ F
 obtain⟨bS,bj⟩:=ao (119 - q);rw[<-bj] at ay I;have bh:dk=140737488355328:=rfl;obtain⟨L,D⟩:=ao ([am.q 10 (fq s (cc r) n),am.q 32 (bT 32 (U.int IntKind.u8 0)),am.q 1 [U.int IntKind.u8 128]] :ae);have aU:L[0]?=some (am.q 10 (fq s (cc r) n)):=by rw[D];rfl
 have aW:L[1]?=some (am.q 32 (bT 32 (U.int IntKind.u8 0))):=by rw[D];rfl
 have bE:L.length=3:=by rw[D];rfl
 have bd:aM 1 L (.ad 1 2 0 1 1 1) 2 [[U.int IntKind.u8 128]]:=by
  rw[D];exact .ad 2 1 1 1 [.int .u8 128] _ rfl rfl rfl V (aI _) (aI _) rfl
 have bb:v<9223372036854775808:=F;have bi:(List.length [[U.int IntKind.u8 128]]+v)*1<=dk:=by rw[bh];simp;omega
 have a9:=OI (n:=v) (k:=.i64) (by_:=1) (zero:=[.int .u8 0]) bd rfl F F bb bi;obtain⟨t,j,l,h1,p,aQ,C,J,K⟩:=a9;have H:bt t=false:=by
  rw[p9];intro al;rw[gC,K] at al;cases al.1
 have bk:u 128#8=128:=by decide
 have a0:([[U.int IntKind.u8 128]]++List.replicate v [U.int IntKind.u8 0] :List (ag))=(kS n 0).map bR:=by
  have:v=(119 - n % 64) % 64:=by rw[P,Q]
  unfold kS;rw[<-this];simp[bR,bk]
 rw[a0] at p;have z:=(C 0 F F).trans aU;have o:=(C 1 F F).trans aW;have a5:2<=j:=by rcases J with h | h<;>omega
 simp[nt,qQ,aR,av,ay,I];rw[<-D];simp[h1];refine bz 8 (fun k m l=>m 1=.ptr 0 0 10/\m 2=.ptr 1 0 32/\m 3=c1 (BitVec.ofNat 64 n*8#64)/\m 5=.i6 (56 - 8*(k:Int))/\∃ t j,m 4=t/\2<=j/\bt t=false/\aM 1 l t j ((kS n k).map bR)/\l[0]?=some (am.q 10 (fq s (cc r) n))/\l[1]?=some (am.q 32 (bT 32 (U.int IntKind.u8 0)))) ?_ ?_
 ·rintro k m l hk ⟨S,B,T,Z,t,j,Y,bF,H,p,z,o⟩;obtain⟨m,rfl⟩:=gx S B T Y Z;clear S B T Y Z;obtain⟨c,ai⟩:=ao (56 - 8*(k:Int) :Int);rw[<-ai];simp;by_cases G:0<=c
  ·have a6:k<8:=F;have R:=Gs (BitVec.ofNat 64 n*8#64) k a6;have aZ:c.toNat=56 - 8*k:=F;have bm:IntKind.i64.wrap (c - 8)=56 - 8*((k:Int)+1):=by rw[wrap_i64 F F];omega
   have bP:=Ak n k;have bf:aM 1 (l++[am.q 1 [a8 (((BitVec.ofNat 64 n*8#64) >>> (56 - 8*k)).setWidth 8)]]) t j ((kS n k).map bR):=p.more _;obtain⟨bx,dp,az,h1,aP,aQ,C,J,K⟩:=lM (by_:=1) bf (x:=.ad 1 l.length 0 1 1 1) (xs:=[[a8 (((BitVec.ofNat 64 n*8#64) >>> (56 - 8*k)).setWidth 8)]]) (by simp[cG]) V F F (by simp;omega);have bG:j<l.length:=by
    rcases p.lt with h | h
    ·subst h;simp[bt] at H
    ·exact h
   have aN:az[0]?=some (am.q 10 (fq s (cc r) n)):=by rw[C 0 V F,aV (a2 z)];exact z
   have aO:az[1]?=some (am.q 32 (bT 32 (U.int IntKind.u8 0))):=by
    have:=a2 o;rw[C 1 (by simp;omega) F,aV (a2 o)];exact o
   have bl:bt bx=false:=by rw[qL K,H];rfl
   have a4:2<=dp:=by
    rcases J with h | h
    ·omega
    ·have h:=dL (show l.length<=(l++[am.q 1 [a8 (((BitVec.ofNat 64 n*8#64) >>> (56 - 8*k)).setWidth 8)]]).length by simp) h;omega
   simp[G,aZ,h1];refine b2.bq ?_;simp[G,bm];exact⟨F,dp,a4,bl,by rw[Mi n k _ R,c5];exact aP,aN,aO⟩
  ·have O:k=8:=F;subst O;rw[EH] at p;have aj:=Ht ⟨s,r,n⟩ (some (tail n)) (by have:=Ak n 8;rw[EH] at this;simp;omega) V (by simp;omega);have R:=p.l8 (fun _=>rfl) (some (tail n)) (by rw[H];rfl) rfl;have ak:(pn ⟨s,r,n⟩ (some (tail n))).st=(fZ s (r.l++tail n)).1:=rfl;obtain⟨g,aS⟩:=ao (pn ⟨s,r,n⟩ (some (tail n)));rw[<-aS] at aj ak;have bK:aq [nt ⟨s,r,n⟩]=true:=by simp[aq,nt,U.aw,fq,dM.l,i5]
   have a3:yH 8 0 (nt g)=some (.ah (g.st.l.map a7)):=rfl;have ar:g.st.l.length=8:=rfl;simp[G,z,qQ];refine Ki aj (.cons (KH ?_) (.cons R .nil)) ?_
   ·show (U.ah (fq s (cc r) n)).aw=true;simp[U.aw,aq,fq,dM.l,i5]
   simp[a3];refine bz 8 (fun k m l=>m 2=.ptr 1 0 32/\m 33=.ah (g.st.l.map a7)/\m 34=.i6 k/\l[1]?=some (am.q 32 ((mU g.st.l k).map a8))) ?_ ?_
   ·rintro k m l hk ⟨B,W,X,o⟩;obtain⟨m,rfl⟩:=gK B W X;clear B W X;obtain⟨bU,bQ,rfl⟩:=Ys o;clear o;simp;by_cases G:(k:Int)<8
    ·have ap:k<8:=F;obtain⟨w,ax⟩:∃ w,g.st.l[k]?=some w:=⟨_,bI (show k<g.st.l.length from ap)⟩
     have bM:=UM g.st.l k F ar;have au:=UN g.st.l k w ax ar;have aB:IntKind.i64.wrap (4*(k:Int))=(4*k:Nat):=by rw[wrap_i64 F F];omega
     have aC:IntKind.i64.wrap (((4*k:Nat) :Int)+1)=(4*k+1:Nat):=by rw[wrap_i64 F F];omega
     have aD:IntKind.i64.wrap (((4*k:Nat) :Int)+2)=(4*k+2:Nat):=by rw[wrap_i64 F F];omega
     have aE:IntKind.i64.wrap (((4*k:Nat) :Int)+3)=(4*k+3:Nat):=by rw[wrap_i64 F F];omega
     have bA:IntKind.i64.wrap ((k:Int)+1)=k+1:=wrap_i64 F F;obtain⟨a,aX⟩:=ao (4*k);rw[<-aX] at aB aC aD aE au;have bu:=mc a8 (mU g.st.l k) a ((w >>> 24).setWidth 8) F;have bv:=mc a8 ((mU g.st.l k).set a ((w >>> 24).setWidth 8)) (a+1) ((w >>> 16).setWidth 8) (by simp;omega);have bw:=mc a8 (((mU g.st.l k).set a ((w >>> 24).setWidth 8)).set (a+1) ((w >>> 16).setWidth 8)) (a+2) ((w >>> 8).setWidth 8) (by simp;omega);have aA:=mc a8 ((((mU g.st.l k).set a ((w >>> 24).setWidth 8)).set (a+1) ((w >>> 16).setWidth 8)).set (a+2) ((w >>> 8).setWidth 8)) (a+3) (w.setWidth 8) (by simp;omega);rw[au] at aA;have aF:(a:Int)<32:=F;have bB:((a+1:Nat) :Int)<32:=F;have bC:((a+2:Nat) :Int)<32:=F;have bD:((a+3:Nat) :Int)<32:=F;have aG:a+1<=32:=F;have aH:a+1+1<=32:=F;have aJ:a+2+1<=32:=F;have aK:a+3+1<=32:=F;have d1:(a:Int)+1<32:=F;have d2:(a:Int)+2<32:=F;have d3:(a:Int)+3<32:=F;have f1:((a:Int)+1).toNat=a+1:=F;have f2:((a:Int)+2).toNat=a+2:=F;have f3:((a:Int)+3).toNat=a+3:=F;have bp:(0:Int)<=(a:Int)+1:=F;have br:(0:Int)<=(a:Int)+2:=F;have bs:(0:Int)<=(a:Int)+3:=F;simp[G,ap,ax,aB,aC,aD,aE,bA,aF,bu,bv,bw,aA,aG,aH,aJ,aK,d1,d2,d3,f1,f2,f3,bp,br,bs,-List.map_set]
    ·have O:k=8:=F;subst O;have bg:mU g.st.l 8=written g.st:=by simp[mU,written,dM.l]
     rw[bg];have bo:(written g.st).length=32:=rfl;simp[bo,mb,aL];exact aT (by unfold eF yx;rw[ak]) (GO a8 (fun _=>rfl) _)
   ·simp[o];rw[KT .u8 8];rfl
 ·simp;exact⟨j,a5,H,p,z,o⟩
structure tq (m:o5) (b:List B) :Prop where
 Bs:fZ first b=(m.st,m.rest.l)
 n:m.n=b.length
theorem Ss {m:o5} {b:List B} (h:tq m b) (s:dS) :tq (pn m s) (b++s.l):=by
 have h1:fZ first (b++s.l)=fZ m.st (m.rest.l++s.l):=by rw[Gm,h.Bs]
 refine⟨?_,?_⟩
 ·rw[h1];unfold pn
  dsimp only
  split
  ·rename_i g;rw[g];rfl
  ·rfl
 ·unfold pn
  dsimp only
  rw[h.n];simp
theorem St {m:o5} {b:List B} (h:tq m b) :m.rest.l.length<64:=by
 have:=O4 first b
 rw[h.Bs] at this;simp only at this;rw[this];exact iY _ F
theorem Sr {m:o5} {b:List B} (h:tq m b) :yx m.st m.rest b.length=fr b:=by unfold yx fr;rw[Gm first b,h.Bs]
def start:o5:=⟨first,none,0⟩
theorem Su:tq start []:=⟨rfl,rfl⟩
theorem XX:nh prog GS 247 [] (nt start):=by refine w3 checked.mixed ev ?_;apply cW func247 [];simp;exact .flat _ rfl
def ox (s:dS) :Bool:=decide ((10000:Int)<s.l.length)
theorem S0 (s:dS) :aY 246 [cc s] (.bool (ox s)):=by apply bc func246 [];simp[cc];exact aE
theorem Ri:fR prog 246=true:=bg
def idx (l:List dS) :Int:=match l.findIdx? ox with | some i=>(i:Int) | none=>-1
theorem R0 {l:List dS} {k:Nat} {s:dS} (o:l[k]?=some s) (h:ox s=true) (m:∀ j s,j<k->l[j]?=some s->ox s=false) :idx l=k:=by
 have:l.findIdx? ox=some k:=by
  rw[List.findIdx?_eq_some_iff_getElem];obtain⟨h1,rfl⟩:=aK.1 o;refine⟨h1,h,fun j g=>?_⟩;rw[m j l[j] g (bI F)];simp
 unfold idx;rw[this]
theorem Ie {l:List dS} (h:∀ j s,j<l.length->l[j]?=some s->ox s=false) :idx l=-1:=by
 have:l.findIdx? ox=none:=by
  rw[List.findIdx?_eq_none_iff];intro x m;obtain⟨j,g⟩:=cj.1 m;exact h j x (aK.1 g).1 g
 unfold idx;rw[this]
theorem Cv (g:bL dS) (I:g.l.length<=1000000000) :aY 272 [kw g,.fn 246 [] []] (.i6 (idx g.l)):=by
 apply bc func272 [];have D:bx (.ad 1) (kw g)=some (.i6 g.l.length):=cd _;simp[D];refine bz g.l.length (fun k m l=>m 0=kw g/\m 1=.fn 246 [] []/\m 7=.i6 g.l.length/\m 8=.i6 k/\∀ j s,j<k->g.l[j]?=some s->ox s=false) ?_ V;rintro k m l hk ⟨t,u,v,w,p⟩;obtain⟨m,rfl⟩:=fc t u v w;clear t u v w;simp;by_cases h:k<g.l.length
 ·obtain⟨s,o,_⟩:=aP h;have B:bO (.ad 1) (kw g) (.i6 k)=some (.b0 [cc s] 0):=by
   rw[ow];simp[o]
  have G:IntKind.i64.wrap ((k:Int)+1)=k+1:=wrap_i64 F F;simp[h,B];refine⟨Ri,av (S0 s) (by simp[aq,i5]) ?_⟩;cases z:ox s with
  | true=>
   simp;rw[R0 o z p];exact aE
  | false=>
   simp[h,G];intro j H C q;rcases fN j k with h1 | h1
   ·exact p j H h1 q
   ·have:j=k:=F;subst this;rw[o] at q;cases q;exact z
 ·simp[h];rw[Ie (fun j s C o=>p j s F o)];exact aE
theorem P0 (g:bL dS) (h:g.l.length<=1000000000) :aY 245 [kw g,.fn 246 [] []] (.bool (decide (0<=idx g.l))):=by apply bc func245 [];simp;refine av (Cv g h) (by simp[aq,U.aw,GM]) ?_;simp;exact aE
theorem J0 (g:List dS) (al:g.length<=20) (v:∀ s∈g,s.l.length<=10000) :aY 205 [kw (some g)] (.a1 [eF (fr (bytesOf g)),.i6 0]):=by
 have W:idx g=-1:=Ie fun au s ap o=>by
  have:=v s (cE o);unfold ox;simp;omega
 have Y:∀ k,(bytesOf (g.take k)).length<=200000:=fun k=>by
  have:∀ l:List dS,(∀ s∈l,s.l.length<=10000)->(bytesOf l).length<=10000*l.length:=by
   intro l
   induction l with
   | nil=>intro _;simp[bytesOf]
   | cons s l ak=>
    intro h;have h1:=ak fun x aj=>h x (by simp[aj])
    have Q:=h s V;unfold bytesOf at h1 ⊢;rw[df,g6,cr,dE];omega
  have h1:=this (g.take k) fun s o=>v s (gh o)
  have Q:(g.take k).length<=20:=by simp;omega
  omega
 apply bc func205 [];have R:¬(20:Int)<g.length:=F;have H:=P0 (some g) (by simp;omega);rw[bL.kE,W] at H;simp[R];refine av H (by simp[aq,U.aw,GM]) ?_;simp;refine av XX.An rfl ?_;simp[nt,qQ];refine bz g.length (fun k m l=>m 2=.ptr 0 0 32/\m 4=.ptr 1 0 10/\m 16=kw (some g)/\m 17=.i6 g.length/\m 18=.i6 k/\∃ j,tq j (bytesOf (g.take k))/\l=[.q 32 (bT 32 (.int .u8 0)),.q 10 (fq j.st (cc j.rest) j.n)]) ?_ ?_
 ·rintro k m l hk ⟨C,D,w,z,B,j,p,rfl⟩;obtain⟨m,rfl⟩:=gx C D w z B;clear C D w z B;simp;have G:(U.ah (fq j.st (cc j.rest) j.n)).aw=true:=by simp[U.aw,aq,fq,dM.l,i5]
  have O:List.take 10 (fq j.st (cc j.rest) j.n)=fq j.st (cc j.rest) j.n:=rfl;have ar:=St p;have J:=p.n;have Z:=Y k;by_cases h:k<g.length
  ·obtain⟨s,o,ag⟩:=aP h;have T:bO (.ad 1) (kw (some g)) (.i6 k)=some (.b0 [cc s] 0):=by
    rw[ow];simp[o]
   have ai:IntKind.i64.wrap ((k:Int)+1)=k+1:=wrap_i64 F F;have h1:=v s ag;have I:=Ht j s F F F;have u:=Ss p s;rw[<-bytesOf_take g k s o] at u;obtain⟨P,S⟩:=ao (pn j s);rw[<-S] at I u;simp[h,T,qQ,O];refine av I.An ?_ ?_
   ·simp only[aq,G,i5,kU]
   simp[nt,qQ,h,ai];exact⟨P,u,rfl⟩
  ·have X:k=g.length:=F;subst X;rw[fC] at p J Z;have t:=QG j.st j.rest (bytesOf g).length F F;rw[Sr p] at t;have ae:j=⟨j.st,j.rest,((bytesOf g).length:Int)⟩:=by rw[<-J]
   rw[<-ae] at t;have K:=jE (bytesOf g);simp[h,qQ,O];refine av t ?_ ?_
   ·simp only[aq,G,kU]
   have am:((fr (bytesOf g)).map a8).length=32:=by rw[cx,K]
   simp[eF,K,mb,aL];exact aT rfl (by simp[U.aw,aq,jo a8 (fun _=>rfl)])
 ·simp[bytesOf];exact⟨start,Su,rfl⟩
theorem X9 (s:dS) (h:s.l.length<=10000) :aY 150 [cc s] (.a1 [eF (fr s.l),.i6 0]):=by
 have j:bytesOf [s]=s.l:=by simp[bytesOf]
 have g:=J0 [s] V (by simpa using h);rw[j] at g;apply bc func150 [];have m:=jE s.l;simp;refine hg g (.cons ?_ .nil) (by simp[U.flat,ky,eF,tW a8 (fun _=>rfl)]) ?_
 ·exact zM (es:=[[cc s]]) (rest:=[]) rfl rfl V (by simp[aq,i5])
 simp[eF,m,mb,aL];exact aT rfl (by simp[U.aw,aq,jo a8 (fun _=>rfl)])
theorem oU (x:W) (n:Nat) (m:0<n) (h:n<32) :aY 265 [a7 x,.i6 n] (a7 (kL x n)):=by
 apply bc func265 [];have j:IntKind.i64.wrap (32 - (n:Int))=(32 - n:Nat):=by rw[wrap_i64 F F];omega
 obtain⟨o,g⟩:=ao (32 - n);rw[<-g] at j;simp[j];exact aT (by unfold kL;rw[g]) rfl
def eh (x:W) :ag:=[a7 x]
theorem PZ:nh prog GS 266 [] (b4 1 eh (some b3)):=by refine w3 checked.mixed ev ?_;apply cW func266 [];simp;exact KK (z:=1) (es:=b3.map eh) (rest:=[]) bg bg (fun e g=>by obtain⟨y,_,rfl⟩:=cy.1 g;rfl) (fun e g=>by obtain⟨y,_,rfl⟩:=cy.1 g;rfl)
theorem Rb:aY 186 [] (.ah (first.l.map a7)):=by apply bc func186 [];simp;exact aE
theorem Zq (b:List B) (t:Nat) (g j m o:B) (q:b[4*t]?=some g) (h1:b[4*t+1]?=some j) (u:b[4*t+2]?=some m) (p:b[4*t+3]?=some o) :
  mf ((b.drop (4*t)).take 4)=((g.setWidth 32*256#32+j.setWidth 32)*256#32+m.setWidth 32)*256#32+o.setWidth 32:=by
 have h:(b.drop (4*t)).take 4=[g,j,m,o]:=by
  have v:=(aK.1 p).1;apply g5;intro i
  match i with
  | 0=>simp[q]
  | 1=>simp[h1]
  | 2=>simp[u]
  | 3=>simp[p]
  | i+4=>rw[ea (by simp;omega),ea V]
 rw[h];show ((((0#32 <<< 8 ||| g.setWidth 32) <<< 8 ||| j.setWidth 32) <<< 8 ||| m.setWidth 32) <<< 8 ||| o.setWidth 32)=_;rw[Aa,Aa,Aa,Aa];simp
theorem MQ {l:ae} {v:U} {j:Nat} {g:List W} (h:aM 1 l v j (g.map eh)) (t:bt v=false) :∃ (cap sz:Nat) (cs:ag),v=.ad 1 j 0 g.length cap sz/\l[j]?=some (.q sz cs)/\∀ (i:Nat) (x:W),g[i]?=some x->cs[i]?=some (a7 x):=by obtain⟨n,cap,sz,cs,h1,o,w,m,z,p,_⟩:=h.view t;rw[cx] at m;subst m;refine⟨cap,sz,cs,h1,o,fun i x u=>?_⟩;have:=p i (eh x) (by rw[bW,u];rfl) 0 F;simpa [eh] using this
theorem Zt (b:List B) (k:Nat) (hk:k<16) :(eB b).take (k+1)=(eB b).take k++[mf ((b.drop (4*k)).take 4)]:=by
 have:(eB b)[k]?=some (mf ((b.drop (4*k)).take 4)):=by unfold eB;rw[bW,hp hk];rfl
 rw[eU,this];rfl
theorem Zr (b:List B) :(eB b).length=16:=by simp[eB]
theorem QW (k:Nat) (b:List B) :(gX k (eB b)).length=16+k:=by simp[r0,eB]
theorem RQ (h:dM) (b:List B) (cr:64<=b.length) :aY 231 [.ah (h.l.map a7),cc (some b)] (.ah ((grind h b).l.map a7)):=by
 have bk:dk=140737488355328:=rfl;have bQ:(h.l.map a7).length=8:=rfl;apply bc func231 [[],[],db 0 13++[[14],[17],[18],[21],[23],[26],[27],[13,10,5],[15,10,5],[16],[19],[20],[22,10,5],[24,10,5],[25]],[],[[0],[1],[2],[4],[7]]++db 11 8++db 20 4++db 25 4++[[3,28,23,1],[5,28,23,1],[6],[8,28,23,1],[9],[10],[19],[24]]];simp[bQ];refine bz 16 (fun k m l=>m 1=cc (some b)/\m 2=.ptr 0 0 8/\m 4=.ptr 1 0 8/\m 6=.i6 k/\∃ v j o rest,m 5=v/\(bt v=true->k=0)/\(v=.af\/2<=j)/\aM 1 l v j (((eB b).take k).map eh)/\l=.q 8 (h.l.map a7) ::.q 8 o::rest/\o.length=8) ?_ ?_
 ·rintro k m l hk ⟨a4,u,C,a9,v,j,o,rest,K,J,V,D,rfl,ap⟩;obtain⟨m,rfl⟩:=gx a4 u C K a9;clear a4 u C K a9;by_cases bU:(k:Int)<16
  ·have G:k<16:=F;obtain⟨a,P⟩:=ao (4*k);have cj:IntKind.i64.wrap (4*(k:Int))=(a:Nat):=by rw[wrap_i64 F F];omega
   obtain⟨ni,bG⟩:=ao (a+1);obtain⟨Bg,bH⟩:=ao (a+2);obtain⟨a3,bK⟩:=ao (a+3);have ck:IntKind.i64.wrap ((a:Int)+1)=ni:=by rw[wrap_i64 F F];omega
   have a0:IntKind.i64.wrap ((a:Int)+2)=Bg:=by rw[wrap_i64 F F];omega
   have cn:IntKind.i64.wrap ((a:Int)+3)=a3:=by rw[wrap_i64 F F];omega
   have wk:IntKind.i64.wrap ((k:Int)+1)=k+1:=wrap_i64 F F;obtain⟨aF,bd⟩:∃ x,b[a]?=some x:=⟨_,bI F⟩
   obtain⟨aG,bf⟩:∃ x,b[ni]?=some x:=⟨_,bI F⟩
   obtain⟨X,bg⟩:∃ x,b[Bg]?=some x:=⟨_,bI F⟩
   obtain⟨aH,bh⟩:∃ x,b[a3]?=some x:=⟨_,bI F⟩
   have aA:∀ (i:Nat) (x:B),b[i]?=some x->bO (.ad 1) (cc (some b)) (.i6 i)=some (.b0 (bR x) 0):=fun i x aE=>by rw[ow];simp[aE]
   have cf:=aA a aF bd;have cg:=aA ni aG bf;have sa:=aA Bg X bg;have ch:=aA a3 aH bh;have aW:=Zt b k G;rw[Zq b k aF aG X aH (by rw[<-P];exact bd) (by rw[<-P,<-bG];exact bf) (by rw[<-P,<-bH];exact bg) (by rw[<-P,<-bK];exact bh)] at aW;obtain⟨w,S⟩:=ao (((aF.setWidth 32*256#32+aG.setWidth 32)*256#32+X.setWidth 32)*256#32+aH.setWidth 32);rw[<-S] at aW;have aS:aM 1 ([.q 8 (h.l.map a7),.q 8 o]++(rest++[am.q 1 [a7 w]])) v j (((eB b).take k).map eh):=D.more [am.q 1 [a7 w]];have cu:(((eB b).take k).map eh).length<=16:=by simp;omega
   obtain⟨au,ar,aZ,h1,aJ,aO,aP⟩:=rN (by_:=4) aS V (x:=.ad 1 (rest.length+2) 0 1 1 1) (xs:=[eh w]) (by simp[cG,eh]) (by simp[eh]) F F (by rw[bk];simp;omega);have aN:aM 1 (.q 8 (h.l.map a7) ::.q 8 o::aZ) au ar (((eB b).take (k+1)).map eh):=by rw[aW,c5];exact aJ
   simp only[jK,iD] at h1;have aD:bt au=false:=by rw[aP];simp
   simp[bU,cj,ck,a0,cn,cf,cg,sa,ch,bR];rw[<-S];simp[h1];refine b2.bq ?_;simp[wk,G];exact⟨aD,ar,aO,by rw[<-jh];exact aN,ap⟩
  ·have G:k=16:=F;subst G;have bm:bt v=false:=by
    cases ca:bt v with
    | false=>rfl
    | true=>exact bP (J ca) F
   have bS:2<=j:=by
    rcases V with h | h
    ·subst h;cases bm
    ·exact h
   have b1:aM 1 (.q 8 (h.l.map a7) ::.q 8 o::rest) v j ((eB b).map eh):=by
    have:(eB b).take 16=eB b:=aL (by rw[Zr];omega);rw[this] at D;exact D
   clear J V D;simp;refine bz 48 (fun k m l=>m 2=.ptr 0 0 8/\m 4=.ptr 1 0 8/\m 7=.i6 (16+k:Nat)/\∃ v j o rest,m 5=v/\bt v=false/\2<=j/\aM 1 l v j ((gX k (eB b)).map eh)/\l=.q 8 (h.l.map a7) ::.q 8 o::rest/\o.length=8) ?_ ?_
   ·rintro k m l hk ⟨u,C,bb,v,j,o,rest,K,J,V,D,rfl,ap⟩;obtain⟨m,rfl⟩:=fc u C K bb;clear u C K bb;obtain⟨t,bl⟩:=ao (16+k);rw[<-bl];by_cases aQ:(t:Int)<64
    ·have cb:IntKind.i64.wrap ((t:Int)+1)=(t+1:Nat):=wrap_i64 F F;have bZ:=QW k b;obtain⟨wb,bC⟩:=ao (t - 15);obtain⟨sa,bD⟩:=ao (t - 2);obtain⟨wc,yu⟩:=ao (t - 16);obtain⟨wd,bE⟩:=ao (t - 7);have cl:IntKind.i64.wrap ((t:Int) - 15)=wb:=by rw[wrap_i64 F F];omega
     have a0:IntKind.i64.wrap ((t:Int) - 2)=sa:=by rw[wrap_i64 F F];omega
     have cm:IntKind.i64.wrap ((t:Int) - 16)=wc:=by rw[wrap_i64 F F];omega
     have cp:IntKind.i64.wrap ((t:Int) - 7)=wd:=by rw[wrap_i64 F F];omega
     obtain⟨p,ce⟩:=ao (gX k (eB b));have R:=B8 k (eB b);rw[<-ce] at bZ D R;have cd:p.length=t:=F;unfold ext at R
     dsimp only at R
     rw[cd,<-bC,<-bD,<-yu,<-bE] at R;have ax:∀ i,i<t->p[i]?=some (p.getD i 0#32):=fun i ct=>by rw[gA,bI F];rfl
     obtain⟨x,aE⟩:=ao (p.getD wb 0#32);obtain⟨y,al⟩:=ao (p.getD sa 0#32);obtain⟨bs,bo⟩:=ao (p.getD wc 0#32);obtain⟨bu,bp⟩:=ao (p.getD wd 0#32);rw[<-aE,<-al,<-bo,<-bp] at R;obtain⟨cap,W,cs,rfl,aB,T⟩:=MQ D J;have bA:=T wb x (by rw[aE];exact ax wb F);have bB:=T sa y (by rw[al];exact ax sa F);have Y:=T wc bs (by rw[bo];exact ax wc F);have Z:=T wd bu (by rw[bp];exact ax wd F);obtain⟨w,S⟩:=ao (bs+bu+(kL x 7 ^^^ kL x 18 ^^^ x >>> 3)+(kL y 17 ^^^ kL y 19 ^^^ y >>> 10));rw[<-S] at R;have aS:aM 1 ([.q 8 (h.l.map a7),.q 8 o]++(rest++[am.q 1 [a7 w]])) _ j (p.map eh):=D.more [am.q 1 [a7 w]];obtain⟨au,ar,aZ,h1,aJ,aO,aP⟩:=rN (by_:=4) aS (.inr V) (x:=.ad 1 (rest.length+2) 0 1 1 1) (xs:=[eh w]) (by simp[cG,eh]) (by simp[eh]) F F (by rw[bk];simp;omega);have aN:aM 1 (.q 8 (h.l.map a7) ::.q 8 o::aZ) au ar ((gX (k+1) (eB b)).map eh):=by rw[R,c5];exact aJ
     simp only[jK,iD] at h1;have aD:bt au=false:=by rw[aP];rfl
     obtain⟨I,rfl⟩:∃ I,j=I+2:=⟨j - 2,F⟩
     have H:rest[I]?=some (.q W cs):=by simpa using aB
     have aj:(rest++[am.q 1 [a7 w]])[I]?=some (.q W cs):=by rw[aV (a2 H)];exact H
     have bv:wb<p.length:=F;have X:sa<p.length:=F;have bw:wc<p.length:=F;have bx:wd<p.length:=F;have t7:=oU x 7 F F;have t18:=oU x 18 F F;have t17:=oU y 17 F F;have t19:=oU y 19 F F;simp at t7 t18 t17 t19;simp[aQ,cl,a0,cm,cp,bv,X,bw,bx,H,bA,bB,Y,Z];refine av t7 rfl ?_;simp[H,Y,Z];refine av t18 rfl ?_;simp[H,Y,Z];refine av t17 rfl ?_;simp[H,Y,Z];refine av t19 rfl ?_;simp[H,Y,Z];rw[<-S];simp[h1];refine b2.bq ?_;simp[cb];exact⟨F,F,aD,ar,aO.resolve_left (by intro e;subst e;cases aD),aN,ap⟩
    ·have G:k=48:=F;subst G;subst bl;have b7:gX 48 (eB b)=eJ b:=rfl;rw[b7] at D;obtain⟨cap,W,cs,rfl,aB,T⟩:=MQ D J;obtain⟨I,rfl⟩:∃ I,j=I+2:=⟨j - 2,F⟩
     have H:rest[I]?=some (.q W cs):=by simpa using aB
     have b8:=xg b;rw[b8];clear D J V aB;simp;refine av PZ.An rfl ?_;have Q:h.l.length=8:=rfl;simp[mb,Q];refine bz 64 (fun k m l=>m 2=.ptr 0 0 8/\m 4=.ptr 1 0 8/\m 5=.ad 1 (I+2) 0 64 cap W/\m 10=b4 1 eh (some b3)/\m 11=.ptr (rest.length+2) 0 8/\m 12=.i6 k/\l=.q 8 (h.l.map a7) ::.q 8 o::(rest++[.q 8 ((j5 h b k).l.map a7)])) ?_ ?_
     ·rintro k m l hk ⟨u,C,K,a5,ae,a6,rfl⟩;obtain⟨m,rfl⟩:=rj u C K a5 ae a6;clear u C K a5 ae a6;have bT:=a2 H;have aj:∀ x:am,(rest++[x])[I]?=some (.q W cs):=fun x=>by rw[aV bT];exact H
      by_cases aQ:(k:Int)<64
      ·have aR:k<64:=F;have aX:IntKind.i64.wrap ((k:Int)+1)=(k+1:Nat):=wrap_i64 F F;have bj:b3[k]?=some (b3.getD k 0#32):=by rw[gA,bI (show k<b3.length from aR)];rfl
       have ak:=T k ((eJ b).getD k 0#32) (by rw[gA,bI F];rfl);rw[Ku h b k aR];obtain⟨wk,S⟩:∃ wk,(eJ b).getD k 0#32=wk:=⟨_,rfl⟩
       obtain⟨mP,bY⟩:∃ mP,b3.getD k 0#32=mP:=⟨_,rfl⟩
       obtain⟨s,b5⟩:∃ s,j5 h b k=s:=⟨_,rfl⟩
       rw[S] at ak ⊢;rw[bY] at bj ⊢;rw[b5];have ci:bO (.ad 1) (b4 1 eh (some b3)) (.i6 k)=some (.b0 (eh mP) 0):=by rw[ow];simp[bj]
       have t6:=oU s.e 6 F F;have t11:=oU s.e 11 F F;have t25:=oU s.e 25 F F;have t2:=oU s.a 2 F F;have t13:=oU s.a 13 F F;have t22:=oU s.a 22 F F;simp at t6 t11 t25 t2 t13 t22;have b6:s.l=[s.a,s.b,s.c,s.d,s.e,s.f,s.g,s.h]:=rfl;have cv:(round s mP wk).l=[(round s mP wk).a,(round s mP wk).b,(round s mP wk).c,(round s mP wk).d,(round s mP wk).e,(round s mP wk).f,(round s mP wk).g,(round s mP wk).h]:=rfl;simp[aQ,b6,ci,eh,aj,ak];refine av t6 rfl ?_;simp[aj,ak];refine av t11 rfl ?_;simp[aj,ak];refine av t25 rfl ?_;simp[aj,ak];refine av t2 rfl ?_;simp;refine av t13 rfl ?_;simp;refine av t22 rfl ?_;simp[mb,aR,aX];rfl
      ·have G:k=64:=F;subst G;rw[Kt];obtain⟨v,J⟩:∃ v,rounds h b3 (eJ b)=v:=⟨_,rfl⟩
       rw[J];have bM:grind h b=⟨h.a+v.a,h.b+v.b,h.c+v.c,h.d+v.d,h.e+v.e,h.f+v.f,h.g+v.g,h.h+v.h⟩:=by unfold grind;rw[J]
       have aC:h.l.length=v.l.length:=rfl;have Q:h.l.length=8:=rfl;have bL:(grind h b).l=ha h.l v.l 8:=by rw[bM];rfl
       rw[bL];simp;refine bz 8 (fun k m l=>m 2=.ptr 0 0 8/\m 4=.ptr 1 0 8/\m 11=.ptr (rest.length+2) 0 8/\m 21=.i6 k/\l=.q 8 ((ha h.l v.l k).map a7) ::.q 8 o::(rest++[.q 8 (v.l.map a7)])) ?_ ?_
       ·rintro k m l hk ⟨u,C,ae,a8,rfl⟩;obtain⟨m,rfl⟩:=fc u C ae a8;clear u C ae a8;by_cases bX:(k:Int)<8
        ·have ai:k<8:=F;have aX:IntKind.i64.wrap ((k:Int)+1)=(k+1:Nat):=wrap_i64 F F;obtain⟨y,al⟩:∃ y,v.l[k]?=some y:=⟨_,bI (show k<v.l.length from ai)⟩
         obtain⟨z,br⟩:∃ z,h.l[k]?=some z:=⟨_,bI (show k<h.l.length from ai)⟩
         have P:=FP aC (k:=k) (by rw[Q];exact ai);rw[br] at P;have az:=Bh aC k;have aU:=mc a7 (ha h.l v.l k) k (z+y) (by rw[az,Q];exact ai);rw[FQ aC br al] at aU;have bi:(List.map a7 (ha h.l v.l k))[k]?=some (a7 z):=by rw[bW,P];rfl
         have bV:k<=7:=F;obtain⟨A,O⟩:=ao ((ha h.l v.l k).map a7);have ay:A.length=8:=by rw[O,cx,az,Q]
         rw[<-O] at bi aU ⊢;obtain⟨cq,bN⟩:=aK.1 bi;simp[bX,ai,aX,bN,al,aU,ay,bV]
        ·have G:k=8:=F;subst G;have az:=Bh aC 8;have b9:∀ A:ag,A.length=8->A.take 8=A:=fun A O=>aL F
         obtain⟨A,O⟩:=ao ((ha h.l v.l 8).map a7);have ay:A.length=8:=by rw[O,cx,az,Q]
         have bF:aq A=true:=by rw[O];exact jo a7 (fun _=>rfl) _
         rw[<-O];simp[mb,ap,ay,b9 A ay];exact aT rfl (by simp[U.aw,bF])
       ·simp[FR]
     ·simp[Kv];exact aL (by simp[Q])
   ·refine⟨rfl,rfl,rfl,v,j,o,rest,rfl,bm,bS,b1,rfl,ap⟩
 ·simp;exact⟨0,.nil 0⟩
end ca
end Go.bh

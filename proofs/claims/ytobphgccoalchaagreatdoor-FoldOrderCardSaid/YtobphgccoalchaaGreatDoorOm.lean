/-
  The sort of Go's library, laid at this translation (printed by program).
-/
import Derived.Test.YtobphgccoalchaaGreatDoorOl
import Derived.Test.YtobphgccoalchaaGreatDoorRows
import Derived.Shelf.SlSortCmp.WholeK
import Derived.Shelf.SlGeneric
set_option linter.unusedVariables false
set_option linter.unusedSimpArgs false
set_option linter.unnecessarySimpa false
namespace Go.Proofs
open Go.Shelf
set_option maxRecDepth 100000
def Tryz.ald:Go.Shelf.Ren:=⟨fun | 6=>85 | 15=>135 | 14=>134 | 28=>188 | 29=>189 | 20=>180 | 21=>181 | 22=>182 | 23=>183 | 24=>184 | 25=>185 | 26=>186 | 27=>187 | 46=>228 | 47=>229 | 48=>230 | 49=>231 | 50=>232 | 57=>255 | n=>n,fun | 22=>29 | 24=>53 | 25=>142 | 3=>3 | 39=>194 | 0=>0 | 53=>76 | 55=>40 | 4=>4 | 46=>234 | 45=>233 | 50=>152 | 5=>5 | 9=>9 | 66=>269 | 70=>273 | 76=>291 | 77=>292 | n=>n,fun | n=>n⟩
theorem Tryz.alc:Go.Proofs.SlLaysF0.n6 Tryz.prog Tryz.ald where
 mixed:=by kernel_rfl
 f6:=⟨ "slices.SortFunc[[]braid/api.Tag,braid/api.Tag]",by decide,Tryz.func85.trans (congrArg some (by kernel_rfl))⟩
 f14:=⟨ "slices.pdqsortCmpFunc[braid/api.Tag]",by decide,Tryz.func134.trans (congrArg some (by kernel_rfl))⟩
 f15:=Tryz.func135.trans (congrArg some (by kernel_rfl))
 f20:=⟨ "slices.insertionSortCmpFunc[braid/api.Tag]",by decide,Tryz.func180.trans (congrArg some (by kernel_rfl))⟩
 f21:=⟨ "slices.heapSortCmpFunc[braid/api.Tag]",by decide,Tryz.func181.trans (congrArg some (by kernel_rfl))⟩
 f22:=⟨ "slices.breakPatternsCmpFunc[braid/api.Tag]",by decide,Tryz.func182.trans (congrArg some (by kernel_rfl))⟩
 f23:=⟨ "slices.choosePivotCmpFunc[braid/api.Tag]",by decide,Tryz.func183.trans (congrArg some (by kernel_rfl))⟩
 f24:=⟨ "slices.reverseRangeCmpFunc[braid/api.Tag]",by decide,Tryz.func184.trans (congrArg some (by kernel_rfl))⟩
 f25:=⟨ "slices.partialInsertionSortCmpFunc[braid/api.Tag]",by decide,Tryz.func185.trans (congrArg some (by kernel_rfl))⟩
 f26:=⟨ "slices.partitionEqualCmpFunc[braid/api.Tag]",by decide,Tryz.func186.trans (congrArg some (by kernel_rfl))⟩
 f27:=⟨ "slices.partitionCmpFunc[braid/api.Tag]",by decide,Tryz.func187.trans (congrArg some (by kernel_rfl))⟩
 f28:=Tryz.func188.trans (congrArg some (by kernel_rfl))
 f29:=Tryz.func189.trans (congrArg some (by kernel_rfl))
 f46:=⟨ "slices.siftDownCmpFunc[braid/api.Tag]",by decide,Tryz.func228.trans (congrArg some (by kernel_rfl))⟩
 f47:=Tryz.func229.trans (congrArg some (by kernel_rfl))
 f48:=Tryz.func230.trans (congrArg some (by kernel_rfl))
 f49:=⟨ "slices.medianAdjacentCmpFunc[braid/api.Tag]",by decide,Tryz.func231.trans (congrArg some (by kernel_rfl))⟩
 f50:=⟨ "slices.medianCmpFunc[braid/api.Tag]",by decide,Tryz.func232.trans (congrArg some (by kernel_rfl))⟩
 f57:=⟨ "slices.order2CmpFunc[braid/api.Tag]",by decide,Tryz.func255.trans (congrArg some (by kernel_rfl))⟩
 t0:=Tryz.underlying0
 a0:=Tryz.isAgg0
 z0:=Tryz.sizeOf0
 v0:=Tryz.zeroValue0
 t3:=Tryz.underlying3
 a3:=Tryz.isAgg3
 z3:=Tryz.sizeOf3
 v3:=Tryz.zeroValue3
 t4:=Tryz.underlying4
 a4:=Tryz.isAgg4
 z4:=Tryz.sizeOf4
 v4:=Tryz.zeroValue4
 t5:=Tryz.underlying5
 a5:=Tryz.isAgg5
 z5:=Tryz.sizeOf5
 v5:=Tryz.zeroValue5
 t9:=Tryz.underlying9
 a9:=Tryz.isAgg9
 z9:=Tryz.sizeOf9
 v9:=Tryz.zeroValue9
 t22:=Tryz.underlying29
 a22:=Tryz.isAgg29
 z22:=Tryz.sizeOf29
 v22:=Tryz.zeroValue29
 t25:=Tryz.underlying142
 a25:=Tryz.isAgg142
 z25:=Tryz.sizeOf142
 v25:=Tryz.zeroValue142
 t39:=Tryz.underlying194
 a39:=Tryz.isAgg194
 z39:=Tryz.sizeOf194
 v39:=Tryz.zeroValue194
 t45:=Tryz.underlying233
 a45:=Tryz.isAgg233
 z45:=Tryz.sizeOf233
 v45:=Tryz.zeroValue233
 t46:=Tryz.underlying234
 a46:=Tryz.isAgg234
 z46:=Tryz.sizeOf234
 v46:=Tryz.zeroValue234
 t50:=Tryz.underlying152
 a50:=Tryz.isAgg152
 z50:=Tryz.sizeOf152
 v50:=Tryz.zeroValue152
 t53:=Tryz.underlying76
 a53:=Tryz.isAgg76
 z53:=Tryz.sizeOf76
 v53:=Tryz.zeroValue76
 t55:=Tryz.underlying40
 a55:=Tryz.isAgg40
 z55:=Tryz.sizeOf40
 v55:=Tryz.zeroValue40
 t66:=Tryz.underlying269
 a66:=Tryz.isAgg269
 z66:=Tryz.sizeOf269
 v66:=Tryz.zeroValue269
 t70:=Tryz.underlying273
 a70:=Tryz.isAgg273
 z70:=Tryz.sizeOf273
 v70:=Tryz.zeroValue273
 t76:=Tryz.underlying291
 a76:=Tryz.isAgg291
 z76:=Tryz.sizeOf291
 v76:=Tryz.zeroValue291
 t77:=Tryz.underlying292
 a77:=Tryz.isAgg292
 z77:=Tryz.sizeOf292
 v77:=Tryz.zeroValue292
end Go.Proofs

namespace Go.cb
open Go Go.Proofs Go.Sort Go.Shelf
set_option maxRecDepth 100000
namespace Op
open g3
abbrev vr:={t:bn // t.id.length=32}
instance:Inhabited vr:=⟨⟨⟨[],List.replicate 32 0#8⟩,by simp⟩⟩
def Cp (x:vr) :List U:=b0 x.1
def vM (x y:vr) :Int:=jg x.1 y.1
theorem uT (a b:bn) :ltOf jg a b=eS a b:=by
 unfold ltOf;cases h:eS a b with
 | true=>exact decide_eq_true ((Fk a b).2 h)
 | false=>exact decide_eq_false fun aG=>by rw[(Fk a b).1 aG] at h; cases h
theorem Yz:SWO (ltOf vM) where
 irrefl x:=by show ltOf jg x.1 x.1=false; rw[uT]; exact yS _
 trans x y z:=by
  show ltOf jg x.1 y.1=true->ltOf jg y.1 z.1=true->ltOf jg x.1 z.1=true;rw[uT,uT,uT]; exact rP
 ntrans x y z:=by
  show ltOf jg x.1 y.1=false->ltOf jg y.1 z.1=false->ltOf jg x.1 z.1=false;rw[uT,uT,uT];intro h1 ad;cases aj:eS x.1 z.1 with
  | false=>rfl
  | true=>
   by_cases aQ:x.1=y.1
   ·rw[aQ] at aj; rw[aj] at ad; cases ad
   ·by_cases bF:y.1=z.1
    ·rw[bF] at h1; rw[aj] at h1; cases h1
    ·have:=rP (rP aj (yT ad bF)) (yT h1 aQ);rw[yS] at this; cases this
theorem aah (x y:vr) (h1:ltOf vM x y=false) (ad:ltOf vM y x=false) :x=y:=by
 have cN:ltOf jg x.1 y.1=false:=h1;have gE:ltOf jg y.1 x.1=false:=ad;rw[uT] at cN gE;by_cases e:x.1=y.1
 ·exact Subtype.ext e
 ·rw[yT cN e] at gE; cases gE
theorem Sd (x:vr) :(Cp x).length=33:=kZ x.2
theorem ab4 (x:vr) :∀ c∈Cp x,y1 c=true:=fun c ah=>by
 rcases auG.1 ah with h | h
 ·rw[h]; rfl
 ·obtain⟨b,_,rfl⟩:=auo.1 h; rfl
theorem alb {g:Nat} (JC:∀ args w,(callFunc g args).run Tryz.prog w=.ok (.enter g args) w) :EO Tryz.prog 85 g 33 (fun x=>(Cp x).map valOf) vM:=
 fun blk off cap d w rn hH hblk g5=>
  AnyQ.slices_SortFunc Tryz.alc 33 (by intro w; exact Tryz.isAgg53 w) (by intro w; exact Tryz.sizeOf53 w) _ (fun x=>by rw[auh,Sd]) (fun x v aq=>by obtain⟨c,_,rfl⟩:=auo.1 aq; exact Ij c) vM Yz g #[] blk off cap d w JC rn hH hblk g5
def mC (l:List bn) :List bn:=l.mergeSort fun x y=>!eS y x
theorem YH:∀ {xs:List bn},g7 xs->∃ bc:List vr,bc.map (·.1)=xs
 | [],_=>⟨[],rfl⟩
 | x::xs,h=>by
  obtain⟨bc,aA⟩:=YH (xs:=xs) fun i av=>h i (by simp[av])
  exact⟨⟨x,h x (by simp)⟩::bc,by simp[aA]⟩
theorem alh (bc:List vr) :(sorted vM bc).map (·.1)=mC (bc.map (·.1)) :=by
 unfold sorted mC;rw[List.map_mergeSort];intro a _ b _;show (!ltOf jg b.1 a.1)=(!eS b.1 a.1)
 rw[uT]
theorem ajy {z:Nat} {l l' : ao} {v:U} {j:Nat} {es du:List (List U)} (h:bG z l v j es) (h' : en z l' v j du) :bG z l' v j du:=by
 cases h with
 | nil j=>have:=h'.tc; subst this; exact .nil j
 | au j n cap sz cs es ag al aC aw ah c3 ci=>
  generalize aq:U.au z j 0 n cap sz=w at h';cases h' with
  | nil=>cases aq
  | au VA aiS ow aa6 alO hB xP fT g0 ol iY ka aew KI=>
   injection aq with _ aQ bF dn kt Ci
   subst bF dn kt Ci;exact .au j n cap sz hB _ fT g0 ol iY ka (by omega) (by simpa using KI)
theorem aau (n:Q) :bw Tryz.prog GS 135 [da n] (.int .i64 (jS n.toNat)) :=by
 refine bK Tryz.checked.mixed bB ?_;apply bm Tryz.func135 [];have h:=VY n;simp;refine a1 h rfl ?_;simp;exact aK rfl rfl
theorem alX (f:U) (aD:f.closed=true) :bw Tryz.prog GS 180 [.aW,.int .i64 0,.int .i64 0,f] (.bE []) :=by
 refine bK Tryz.checked.mixed bB ?_;apply bm Tryz.func180 [];have b1:IntKind.i64.wrap 1=1:=by decide
 simp;refine cF 0 (fun _ ae l=>ae 2=.int .i64 0/\ae 8=.int .i64 1) ?_ ⟨by simp,by simp[b1]⟩;rintro k ae l hk ⟨aT,dw⟩;simp[aT,dw];exact aK rfl rfl
theorem al2 (n:Int) (f:U) (aD:f.closed=true) :bw Tryz.prog GS 134 [.aW,.int .i64 0,.int .i64 0,.int .i64 n,f] (.bE []) :=by
 refine bK Tryz.checked.mixed bB ?_;apply bm Tryz.func134 [];have h:=alX f aD;have ll:IntKind.i64.wrap 0=0:=by decide
 simp;refine cF 0 (fun _ ae l=>ae 0=.aW/\ae 1=.int .i64 0/\ae 2=.int .i64 0/\ae 4=f) ?_ ⟨by simp,by simp,by simp,by simp⟩;rintro k ae l hk ⟨ca,aM,aT,bD⟩;simp[ca,aM,aT,bD,ll];refine a1 h (by simp[bg,U.closed,aD]) ?_;simp;exact aK rfl rfl
theorem al9:bw Tryz.prog GS 85 [.aW,.fn 86 [] []] (.bE []) :=by
 refine bK Tryz.checked.mixed bB ?_;apply bm Tryz.func85 [];have h:=aau 0;have ad:=al2 (jS (0:Q).toNat) (.fn 86 [] []) rfl;simp;refine a1 h rfl ?_;simp;refine a1 ad rfl ?_;simp;exact aK rfl rfl
theorem al8 {l:ao} {v:U} {j:Nat} {xs:List bn} (af:g7 xs) (al:xs.length<=1000000) (aC:cx v=xs.isEmpty) (h:bG 33 l v j (xs.map b0)) {K:U->ao->Prop}
  (aV:∀ l',l'.length=l.length->(∀ b,v=.aW\/b≠j->l'[b]? = l[b]?)->bG 33 l' v j ((mC xs).map b0)->K (.bE []) l') :cY Tryz.prog GS 85 [v,.fn 86 [] []] l (c:=⟨K⟩) :=by
 by_cases hn:xs=[]
 ·subst hn;have LN:v=.aW:=i2.1 (by rw[aC]; rfl);subst LN;exact a1 al9 rfl (aV l rfl (fun _ _=>rfl) (by simpa [mC] using bG.nil j))
 ·obtain⟨bc,aA⟩:=YH af;have am:bc.map Cp=xs.map b0:=by rw[<-aA,avF]; rfl
  have ak:(sorted vM bc).map Cp=(mC xs).map b0:=by rw[<-aA,<-alh,avF]; rfl
  have b8:bc.length=xs.length:=by rw[<-aA]; simp
  have LN:v≠.aW:=fun aq=>by subst aq; rw[show cx .aW=true from rfl] at aC; exact hn (by simpa using aC.symm)
  rw[<-am] at h;exact Yg vM (alb (by intro args w; exact enters_of Tryz.func86 (by kernel_rfl) rfl args w)) Yz aah Sd ab4 (fun x y=>Jp x.1 y.1 x.2 y.2) h.q (by omega) (fun rv=>absurd (by rw[<-aA,rv]; rfl) hn)
   (fun l' h1 ad aj=>aV l' h1 (fun b ag=>ad b (ag.resolve_left LN)) (by rw[<-ak]; exact ajy h aj))
theorem Yi (l:List bn) (y:bn) :y∈mC l<->y∈l:=by unfold mC; exact List.mem_mergeSort
theorem Yh (l:List bn) :(mC l).length=l.length:=by unfold mC; exact List.length_mergeSort l
theorem ale {l:List bn} (aC:l.Nodup) :(mC l).Pairwise fun a b=>eS a b=true:=by
 have h1:(mC l).Pairwise fun a b=>(!eS b a)=true:=by
  unfold mC;refine aw4 (fun a b c h1 ad=>?_) (fun a b=>?_) l
  ·simp only[avb] at *
   cases aj:eS c a with
   | false=>rfl
   | true=>
    by_cases aQ:b=c
    ·rw[aQ] at h1; rw[aj] at h1; cases h1
    ·by_cases bF:a=b
     ·rw[bF] at aj; rw[aj] at ad; cases ad
     ·have:=rP (rP aj (yT h1 (Ne.symm bF))) (yT ad (Ne.symm aQ));rw[yS] at this; cases this
  ·cases h:eS b a with
   | false=>rfl
   | true=>
    cases ad:eS a b with
    | false=>rfl
    | true=>have:=rP h ad; rw[yS] at this; cases this
 have ad:(mC l).Nodup:=(awC l _).nodup_iff.2 aC;refine (h1.and ad).imp fun {a b} h=>?_
 have aj:eS b a=false:=by simpa using h.1
 exact yT aj (Ne.symm h.2)
end Op

end Go.cb

namespace Go.cb
open Go Go.Proofs
set_option maxRecDepth 100000
namespace Op
open g3
theorem aaB (t:bn) :U.beq (.aJ (b0 t)) (.aJ (b0 t))=true:=by
 show fu (.str t.key::aS t.id) (.str t.key::aS t.id)=true;have h:=I5 t.id;unfold aS;simp[fu,U.beq,h]
theorem JM {t:bn} (h:t.id.length=32) :k8 Tryz.prog 53 (.aJ (b0 t))=true:=by
 have h1:rK Tryz.prog 8 53=true:=by kernel_rfl
 have ad:eo Tryz.prog 53=some true:=by kernel_rfl
 have aj:cB Tryz.prog 53=some 33:=by kernel_rfl
 have aF:(b0 t).all tl=true:=by
  rw[auK];intro c ah;rcases auG.1 ah with h | h
  ·rw[h]; rfl
  ·obtain⟨b,_,rfl⟩:=auo.1 h; rfl
 show (rK Tryz.prog 8 53&&(match eo Tryz.prog 53,cB Tryz.prog 53 with | some true,some m=>Nat.beq (b0 t).length m | _,_=>false)&&(b0 t).all tl)=true;rw[h1,ad,aj,aF,kZ h];rfl
theorem acj {a b:bn} (ax:a.id.length=32) (ag:b.id.length=32) :eP Tryz.prog 10000 53 (.aJ (b0 a)) (.aJ (b0 b))=some (decide (a=b)) :=by
 rw[<-Po ax ag];obtain⟨x,y,p1,ob,uc⟩:=(Fx (P:=Tryz.prog) 20 10000 (by omega) 53 G8 VU).2 _ _ (HA ax) (HA ag);have ad:eo Tryz.prog 53=some true:=by kernel_rfl
 simp only[kV,ad,Option.some.injEq] at p1 ob;subst p1; subst ob;exact uc
inductive qV:List (U × U × Nat)->List bn->Prop
 | nil:qV [] []
 | cons {es:List (U × U × Nat)} {bP:List bn} {k:bn} (n:Nat) (hk:k.id.length=32) (h:qV es bP) :qV ((.aJ (b0 k),.bool true,n) ::es) (k::bP)
theorem qV.snoc {es:List (U × U × Nat)} {bP:List bn} (h:qV es bP) {k:bn} (hk:k.id.length=32) (n:Nat) :qV (es++[(.aJ (b0 k),.bool true,n)]) (bP++[k]) :=by
 induction h with
 | nil=>exact .cons n hk .nil
 | cons m e2 h aI=>exact .cons m e2 aI
theorem qV.modify {es:List (U × U × Nat)} {bP:List bn} (h:qV es bP) :∀ {i:Nat} {k:bn},bP[i]? = some k->qV (es.modify i fun e=>(.aJ (b0 k),.bool true,e.2.2)) bP:=by
 induction h with
 | nil=>intro i k h; simp at h
 | cons n hk h aI=>
  intro i k av;cases i with
  | zero=>simp at av; subst av; exact .cons n hk h
  | succ i=>exact .cons n hk (aI (by simpa using av))
theorem FC {x:bn} (af:x.id.length=32) {es:List (U × U × Nat)} {bP:List bn} (h:qV es bP) :∀ c,(x∈bP->∃ i,bP[i]? = some x/\jK Tryz.prog 53 (.aJ (b0 x)) es c=some (some (c+i,.bool true)))/\(x∉bP->jK Tryz.prog 53 (.aJ (b0 x)) es c=some none) :=by
 induction h with
 | nil=>intro c; exact⟨fun h=>by simp at h,fun _=>rfl⟩
 | @cons es bP k n hk h aI=>
  intro c;unfold jK;rw[JM hk];simp only;rw[acj af hk];by_cases am:x=k
  ·subst am;simp only[decide_true,aaB];exact⟨fun _=>⟨0,by simp⟩,fun h=>absurd (by simp) h⟩
  ·simp only[am,decide_false];obtain⟨h1,ad⟩:=aI (c+1);refine⟨fun hm=>?_,fun h=>ad (fun h'=>h (by simp[h']))⟩;obtain⟨i,av,aD⟩:=h1 (by simpa [am] using hm);exact⟨i+1,by simpa using av,by rw[aD,show c+1+i=c+(i+1) by omega]⟩
structure ng (l:ao) (j:Nat) (M:bn->Prop) :Prop where
 e:∃ es eN bP,l[j]? = some (.map es eN)/\qV es bP/\∀ x,x∈bP<->M x
open Classical in
theorem ng.look {l:ao} {j:Nat} {M:bn->Prop} (h:ng l j M) {x:bn} (af:x.id.length=32) :wN Tryz.prog l 53 (.bool false) false (.mp j) (.aJ (b0 x))=some (.bool (decide (M x))) :=by
 obtain⟨es,eN,bP,h1,ad,aF⟩:=h.e;have aj:s8 l (.mp j)=some es:=by simp[s8,h1]
 unfold wN;rw[aj];simp only[JM af];by_cases hm:x∈bP
 ·obtain⟨i,_,aD⟩:=(FC af ad 0).1 hm;rw[aD];simp[(aF x).1 hm]
 ·rw[(FC af ad 0).2 hm];have:¬ M x:=fun aG=>hm ((aF x).2 aG)
  simp[this]
theorem ng.put {l:ao} {j:Nat} {M:bn->Prop} (h:ng l j M) {x:bn} (af:x.id.length=32) :∃ c,s9 Tryz.prog l 53 (.mp j) (.aJ (b0 x)) (.bool true)=some (l.set j c)/\(∀ l' : ao,l'[j]? = some c->ng l' j (fun y=>M y\/y=x)) :=by
 obtain⟨es,eN,bP,h1,ad,aF⟩:=h.e;unfold s9;simp only[h1,JM af];by_cases hm:x∈bP
 ·obtain⟨i,av,aD⟩:=(FC af ad 0).1 hm;rw[aD];rw[avi];refine⟨_,rfl,fun l' db=>⟨_,_,bP,db,ad.modify av,fun y=>?_⟩⟩;rw[aF y];exact⟨.inl,fun aG=>aG.elim id fun e=>by rw[e]; exact (aF x).1 hm⟩
 ·rw[(FC af ad 0).2 hm];refine⟨_,rfl,fun l' db=>⟨_,_,_,db,ad.snoc af eN,fun y=>?_⟩⟩;rw[aup,aui,aF y]
theorem ng.frame {l l' : ao} {j:Nat} {M:bn->Prop} (h:ng l j M) (ai:l'[j]? = l[j]?) :ng l' j M:=by
 obtain⟨es,eN,bP,h1,ad,aF⟩:=h.e;exact⟨es,eN,bP,by rw[ai,h1],ad,aF⟩
theorem ng.lt {l:ao} {j:Nat} {M:bn->Prop} (h:ng l j M) :j<l.length:=by
 obtain⟨es,eN,bP,h1,ad⟩:=h.e;exact (atU.1 h1).1
theorem ai5 (l:ao) :ng (l++[.map [] 0]) l.length (fun _=>False) :=⟨[],0,[],by simp,.nil,fun x=>by simp⟩
theorem ng.iff {l:ao} {j:Nat} {M N:bn->Prop} (h:ng l j M) (aG:∀ x,M x<->N x) :ng l j N:=by
 obtain⟨es,eN,bP,h1,ad,aF⟩:=h.e;exact⟨es,eN,bP,h1,ad,fun x=>(aF x).trans (aG x)⟩
def oL (g:bi) (m:Nat) (t:bn) :Prop:=∃ k o,k<m/\g.ops.l[k]? = some o/\o.act.kind=3#8/\o.act.key=t.key/\t.id∈iO g k
def BE (g:bi) (m:Nat) (key:List UInt8) (L:List (List B)) (t:bn) :Prop:=oL g m t\/(key=t.key/\t.id∈L)
theorem adj {g:bi} {m:Nat} {o:bq} (ap:g.ops.l[m]? = some o) (hk:¬ o.act.kind=3#8) (t:bn) :oL g m t<->oL g (m+1) t:=by
 constructor
 ·rintro⟨k,cR,h1,ad⟩; exact⟨k,cR,by omega,ad⟩
 ·rintro⟨k,cR,h1,ad,aj,aF⟩;by_cases nE:k=m
  ·subst nE; rw[ap] at ad; obtain rfl:=Option.some.inj ad; exact absurd aj hk
  ·exact⟨k,cR,by omega,ad,aj,aF⟩
theorem adk {g:bi} {m:Nat} {o:bq} (ap:g.ops.l[m]? = some o) (hk:o.act.kind=3#8) (t:bn) :BE g m o.act.key (iO g m) t<->oL g (m+1) t:=by
 constructor
 ·rintro (⟨k,cR,h1,ad⟩ | ⟨h1,ad⟩)
  ·exact⟨k,cR,by omega,ad⟩
  ·exact⟨m,o,by omega,ap,hk,h1,ad⟩
 ·rintro⟨k,cR,h1,ad,aj,aF,aU⟩;by_cases nE:k=m
  ·subst nE; rw[ap] at ad; obtain rfl:=Option.some.inj ad; exact .inr ⟨aF,aU⟩
  ·exact .inl ⟨k,cR,by omega,ad,aj,aF,aU⟩
theorem adl {g:bi} {m:Nat} {key:List UInt8} {L:List (List B)} {k:Nat} {x:List B} (af:L[k]? = some x) (t:bn) :(BE g m key (L.take k) t\/t=⟨key,x⟩)<->BE g m key (L.take (k+1)) t:=by
 unfold BE;rw[aud,af,aup];simp only[Option.toList_some,aui];constructor
 ·rintro ((h | ⟨h1,ad⟩) | h)
  ·exact .inl h
  ·exact .inr ⟨h1,.inl ad⟩
  ·subst h; exact .inr ⟨rfl,.inr rfl⟩
 ·rintro (h | ⟨h1,ad | ad⟩)
  ·exact .inl (.inl h)
  ·exact .inl (.inr ⟨h1,ad⟩)
  ·right; cases t; simp_all
open Classical in
noncomputable def iA (g:bi) (m:Nat) :List bn:=(List.range m).flatMap fun k=>match g.ops.l[k]?,g.ids.l[k]? with
 | some o,some x=>if o.act.kind=2#8/\¬ oL g g.ops.l.length ⟨o.act.key,x⟩ then [⟨o.act.key,x⟩] else []
 | _,_=>[]
open Classical in
theorem IU {g:bi} {m:Nat} {o:bq} {x:List B} (ap:g.ops.l[m]? = some o) (af:g.ids.l[m]? = some x) :iA g (m+1)=iA g m++(if o.act.kind=2#8/\¬ oL g g.ops.l.length ⟨o.act.key,x⟩ then [⟨o.act.key,x⟩] else []) :=by
 unfold iA;rw[avr,avD];simp[ap,af]
theorem IR {g:bi} {t:bn}:∀ {m:Nat},t∈iA g m<->∃ k o x,k<m/\g.ops.l[k]? = some o/\g.ids.l[k]? = some x/\o.act.kind=2#8/\¬ oL g g.ops.l.length ⟨o.act.key,x⟩/\t=⟨o.act.key,x⟩:=by
 intro m;unfold iA;rw[awS];constructor
 ·rintro⟨k,hk,aH⟩;rw[aux] at hk;cases ap:g.ops.l[k]? with
  | none=>simp[ap] at aH
  | some o=>
   cases af:g.ids.l[k]? with
   | none=>simp[ap,af] at aH
   | some x=>
    simp only[ap,af] at aH;split at aH
    ·rename_i aG;rw[aui] at aH;exact⟨k,o,x,hk,ap,af,aG.1,aG.2,aH⟩
    ·simp at aH
 ·rintro⟨k,o,x,hk,ap,af,h1,ad,aj⟩;refine⟨k,aux.2 hk,?_⟩;simp only[ap,af];rw[if_pos ⟨h1,ad⟩,aui];exact aj
theorem ER (g:bi) :∀ m,(iA g m).length<=m
 | 0=>by simp[iA]
 | m+1=>by
  have aI:=ER g m;cases ap:g.ops.l[m]? with
  | none=>unfold iA at *; rw[avr,avD]; simp[ap] at *; omega
  | some o=>
   cases af:g.ids.l[m]? with
   | none=>unfold iA at *; rw[avr,avD]; simp[ap,af] at *; omega
   | some x=>
    rw[IU ap af,at4];split<;>simp<;>omega
theorem OU {g:bi} (ar:ft g) (m:Nat) :g7 (iA g m) :=fun t aH=>by
 obtain⟨k,o,x,_,_,af,_,_,aj⟩:=IR.1 aH;rw[aj]; exact ar.ids x (at3 af)
structure lZ (g:bi) (M:bn->Prop) (l:ao) :Prop where
 gf:l[0]? = some (.cells 2 [aR g.ids,bZ g.ops])
 oy:l[1]? = some (.cells 1 [.aW])
 m:ng l 2 M
theorem lZ.lt {g:bi} {M:bn->Prop} {l:ao} (h:lZ g M l) :3<=l.length:=h.m.lt
theorem lZ.frame {g:bi} {M:bn->Prop} {l l' : ao} (h:lZ g M l) (aD:∀ b,b<3->l'[b]? = l[b]?) :lZ g M l':=
 ⟨(aD 0 (by omega)).trans h.gf,(aD 1 (by omega)).trans h.oy,h.m.frame (aD 2 (by omega))⟩
theorem lZ.more {g:bi} {M:bn->Prop} {l:ao} (h:lZ g M l) (x:ao) :lZ g M (l++x) :=h.frame fun b ag=>atV (by have:=h.lt; omega)
theorem lZ.iff {g:bi} {M N:bn->Prop} {l:ao} (h:lZ g M l) (aG:∀ x,M x<->N x) :lZ g N l:=⟨h.gf,h.oy,h.m.iff aG⟩
structure ZL (g:bi) (k:Nat) (ae:a8) (l:ao) :Prop where
 aM:ae 1=.ptr 0 0 2
 aT:ae 2=.ptr 1 0 1
 a7:ae 3=.int .i64 0
 bh:ae 5=.mp 2
 mJ:ae 24=bZ g.ops
 ku:ae 25=.int .i64 g.ops.l.length
 ma:ae 26=.int .i64 k
 h:lZ g (oL g k) l
structure ZN (g:bi) (i:Nat) (o:bq) (b:Nat) (k:Nat) (ae:a8) (l:ao) :Prop where
 aM:ae 1=.ptr 0 0 2
 aT:ae 2=.ptr 1 0 1
 a7:ae 3=.int .i64 0
 bh:ae 5=.mp 2
 dC:ae 7=.ptr b 0 11
 mJ:ae 24=bZ g.ops
 ku:ae 25=.int .i64 g.ops.l.length
 ma:ae 26=.int .i64 i
 uh:ae 45=aR (ew (iO g i))
 ui:ae 46=.int .i64 (iO g i).length
 uj:ae 47=.int .i64 k
 h:lZ g (BE g i o.act.key ((iO g i).take k)) l
 gg:3<=b
 ag:l[b]? = some (.cells 11 (bd o))
structure ZM (g:bi) (b:Nat) (k:Nat) (ae:a8) (l:ao) :Prop where
 aM:ae 1=.ptr 0 0 2
 aT:ae 2=.ptr 1 0 1
 a7:ae 3=.int .i64 0
 bh:ae 5=.mp 2
 fx:ae 12=.ptr b 0 1
 JX:ae 60=bZ g.ops
 JY:ae 61=.int .i64 g.ops.l.length
 JZ:ae 62=.int .i64 k
 h:lZ g (oL g g.ops.l.length) l
 gg:3<=b
 ex:∃ v j,l[b]? = some (.cells 1 [v])/\bG 33 l v j ((iA g k).map b0)/\cx v=(iA g k).isEmpty/\(v=.aW\/b<j)
noncomputable def qE (g:bi) :eU:=if eK g=0 then Et (mC (iA g g.ops.l.length)) else none
set_option maxHeartbeats 8000000 in
theorem amR (g:bi) (ar:ft g) :bw Tryz.prog GS 41 [cS g] (.bE [.aJ [dg (qE g)],.int .i64 (eK g)]) :=by
 refine bK Tryz.checked.mixed bB ?_;apply bm Tryz.func41 [];have az:cK=140737488355328:=rfl;have dx:=e5 g.ids;have cD:=lu g.ops;have dh:=Bt g ar;unfold cS ds at dh;have eC:cz (.au 11) (bZ g.ops)=some (.int .i64 g.ops.l.length) :=by simp[bZ]
 simp[cS,ds];refine a1 dh (by simp[bg,U.closed,dx,cD]) ?_;by_cases aE:eK g=0
 ·have V:=my aE;have yr:=V.n60;have ju:=V.len;have adN:lZ g (fun _=>False) [a2.cells 2 [aR g.ids,bZ g.ops],.cells 1 [.aW],.map [] 0] :=⟨rfl,rfl,ai5 [a2.cells 2 [aR g.ids,bZ g.ops],.cells 1 [.aW]]⟩
  simp[aE,eC];refine cF g.ops.l.length (ZL g) ?_ ⟨by simp,by simp,by simp,by simp,by simp,by simp,by simp,adN.iff fun x=>⟨fun h=>h.elim,fun ⟨k,_,hk,_⟩=>by omega⟩⟩;rintro k ae l hk ⟨aM,aT,a7,bh,mJ,ku,ma,hH⟩;obtain⟨ae,rfl⟩:=Ii aM aT a7 bh mJ ku ma;clear aM aT a7 bh mJ ku ma;by_cases cZ:k<g.ops.l.length
  ·obtain⟨x,af,cC⟩:=bx (l:=g.ids.l) (k:=k) (by omega);obtain⟨o,ap,dD⟩:=bx cZ;have nL:=ar.ids x cC;have bf:=cM nL;have aQ:IntKind.i64.wrap ((k:Int)+1)=((k+1:Nat) :Int) :=by rw[IntKind.wrap_i64]; omega
   have h4:cg (.au 32) (aR g.ids) (.int .i64 (k:Int))=some (.b3 (aS x) 0) :=by simp[aR,af]
   have bW:cg (.au 11) (bZ g.ops) (.int .i64 (k:Int))=some (.b3 (bd o) 0) :=by simp[bZ,ap]
   have cl:(bd o).length=11:=rfl;have rg:∀ h,(bd o)[3]'h=bC o.act.kind:=fun _=>rfl
   have rh:∀ h,(bd o)[4]'h=.str o.act.key:=fun _=>rfl
   have gj:=fE x;have yl:=Cl o;have sK:=OZ g ar V aE x k af;unfold cS ds at sK;obtain⟨O,dX⟩:∃ O,O=bd o:=⟨_,rfl⟩
   obtain⟨Y,ef⟩:∃ Y,Y=aS x:=⟨_,rfl⟩
   rw[<-dX] at bW cl rg rh;rw[<-ef] at h4 bf gj sK;obtain⟨Z,sJ⟩:∃ Z,Z=[U.int .u32 0,.aW,.int .u64 0,.int .u8 0,.str [],.int .u8 0,.int .i64 0,.int .u64 0,.str [],.int .u32 0,.int .u32 0] :=⟨_,rfl⟩
   have ri:Z.length=11:=by rw[sJ]; rfl
   have il:bu Z 0 O=O:=fi (by rw[cl,ri]);have FS:=hH.more [.cells 11 O];have jq:∀ y z:a2,(l++[y]).set l.length z=l++[z] :=fun y z=>by rw[auA _ _ (atW _)]; simp
   have eh:=FS.gf;have lf:∀ (X:ao) h,(l++X)[0]'h=.cells 2 [aR g.ids,bZ g.ops] :=fun X h=>by
    have:=(hH.more X).gf; rw[atU] at this; exact this.2
   have CN:O.take 11=O:=atT (by omega);by_cases c0:o.act.kind=3#8
   ·have rG:=yl.2 c0;simp[cZ,bW,cl,<-sJ,ri,il,jq,CN,rg,rh,rG,lf,h4,bf,atT];refine a1 sK (by simp[bg,U.closed,dx,cD,gj]) ?_;have ij:cz (.au 32) (aR (ew (iO g k)))=some (.int .i64 (iO g k).length) :=by simp[aR,fq]
    have gG:=EW g k;simp[ij];refine cF (iO g k).length (ZN g k o l.length) ?_ ⟨by simp,by simp,by simp,by simp,by simp,by simp,by simp,by simp,by simp,by simp,by simp,FS.iff fun t=>⟨.inl,fun h=>h.elim id fun h=>by simp at h⟩,hH.lt,by rw[<-dX]; simp⟩;obtain⟨b,k1⟩:∃ b,b=l.length:=⟨_,rfl⟩
    rw[<-k1];clear hH FS jq eh lf;rintro q ae l aZ ⟨aM,aT,a7,bh,dC,mJ,ku,ma,uh,ui,uj,hH,gg,ag⟩;obtain⟨ae,rfl⟩:=YY aM aT a7 bh dC mJ ku ma uh ui uj;clear aM aT a7 bh dC mJ ku ma uh ui uj;by_cases lG:q<(iO g k).length
    ·obtain⟨y,aA,cm⟩:=bx lG;have rD:=ar.ids y (EX cm);have b8:=cM rD;have f1:IntKind.i64.wrap ((q:Int)+1)=((q+1:Nat) :Int) :=by rw[IntKind.wrap_i64]; omega
     have C1:cg (.au 32) (aR (ew (iO g k))) (.int .i64 (q:Int))=some (.b3 (aS y) 0) :=by simp[aR,fq,aA]
     have sI:b0 ⟨o.act.key,y⟩=.str o.act.key::aS y:=rfl;have gb:=(hH.more [.cells 32 (aS y)]).m;obtain⟨c,kh,lD⟩:=gb.put (x:=⟨o.act.key,y⟩) rD;rw[sI] at kh;rw[<-dX] at ag;have fb:b<l.length:=(atU.1 ag).1;obtain⟨W,dG⟩:∃ W,W=aS y:=⟨_,rfl⟩
     rw[<-dG] at b8 C1 sI kh gb;have agy:bu (rep 32 (.int .u8 0)) 0 W=W:=fi (by rw[b8]; rfl);have jq:∀ y z:a2,(l++[y]).set l.length z=l++[z] :=fun y z=>by rw[auA _ _ (atW _)]; simp
     have b7:∀ X:ao,(l++X)[b]? = some (.cells 11 O) :=fun X=>by rw[atV fb]; exact ag
     simp[lG,C1,b8,agy,jq,atT,b7,rh,cl,kh,f1];have hN:∀ a,a≠2->((l++[a2.cells 32 W]).set 2 c)[a]? = (l++[a2.cells 32 W])[a]?:=fun a ax=>at5 (Ne.symm ax)
     have Aa:=hH.more [.cells 32 W];refine⟨by simp,by simp,by simp,by simp,by simp,by simp,by simp,by simp,by simp,by simp,by simp,⟨(hN 0 (by omega)).trans Aa.gf,(hN 1 (by omega)).trans Aa.oy,?_⟩,gg,?_⟩
     ·refine (lD _ (at9 (by have:=Aa.lt; omega))).iff (adl aA)
     ·rw[hN b (by omega),<-dX]; exact b7 _
    ·have uB:q=(iO g k).length:=by omega
     subst uB;rw[aun] at hH;simp[lG,aQ];exact⟨cZ,by simp,by simp,by simp,by simp,by simp,by simp,by simp,hH.iff (adk ap c0)⟩
   ·have rG:¬ (u o.act.kind:Int)=3:=fun h=>c0 (yl.1 h)
    simp[cZ,bW,cl,<-sJ,ri,il,jq,CN,rg,rh,rG,aQ];exact⟨by simp,by simp,by simp,by simp,by simp,by simp,by simp,FS.iff (adj ap c0)⟩
  ·have hl:k=g.ops.l.length:=by omega
   subst hl;have lf:∀ (X:ao) h,(l++X)[0]'h=.cells 2 [aR g.ids,bZ g.ops] :=fun X h=>by
    have:=(hH.more X).gf; rw[atU] at this; exact this.2
   simp[cZ,lf,eC];refine cF g.ops.l.length (ZM g l.length) ?_ ⟨by simp,by simp,by simp,by simp,by simp,by simp,by simp,by simp,hH.more _,hH.lt,.aW,l.length+1,by simp,by simpa [iA] using bG.nil _,by simp[iA,cx],.inl rfl⟩;obtain⟨b,k1⟩:∃ b,b=l.length:=⟨_,rfl⟩
   rw[<-k1];clear hH lf k1;rintro i ae l av ⟨aM,aT,a7,bh,fx,JX,JY,JZ,hH,gg,v,j,ag,hF,wv,ai⟩;obtain⟨ae,rfl⟩:=YZ aM aT a7 bh fx JX JY JZ;clear aM aT a7 bh fx JX JY JZ;have fb:b<l.length:=(atU.1 ag).1;have lf:∀ (X:ao) h,(l++X)[0]'h=.cells 2 [aR g.ids,bZ g.ops] :=fun X h=>by
    have:=(hH.more X).gf; rw[atU] at this; exact this.2
   by_cases c7:i<g.ops.l.length
   ·obtain⟨x,af,cC⟩:=bx (l:=g.ids.l) (k:=i) (by omega);obtain⟨o,ap,dD⟩:=bx c7;have nL:=ar.ids x cC;have bf:=cM nL;have aQ:IntKind.i64.wrap ((i:Int)+1)=((i+1:Nat) :Int) :=by rw[IntKind.wrap_i64]; omega
    have h4:cg (.au 32) (aR g.ids) (.int .i64 (i:Int))=some (.b3 (aS x) 0) :=by simp[aR,af]
    have bW:cg (.au 11) (bZ g.ops) (.int .i64 (i:Int))=some (.b3 (bd o) 0) :=by simp[bZ,ap]
    have cl:(bd o).length=11:=rfl;have rg:∀ h,(bd o)[3]'h=bC o.act.kind:=fun _=>rfl
    have rh:∀ h,(bd o)[4]'h=.str o.act.key:=fun _=>rfl
    have yl:=Ck o;have sI:b0 ⟨o.act.key,x⟩=.str o.act.key::aS x:=rfl;have nA:(b0 ⟨o.act.key,x⟩).length=33:=kZ nL;have gG:=IU ap af;obtain⟨O,dX⟩:∃ O,O=bd o:=⟨_,rfl⟩
    obtain⟨Y,ef⟩:∃ Y,Y=aS x:=⟨_,rfl⟩
    obtain⟨T,ce⟩:∃ T,T=b0 ⟨o.act.key,x⟩:=⟨_,rfl⟩
    rw[<-dX] at bW cl rg rh;rw[<-ef] at h4 bf sI;have ik:=(hH.more [a2.cells 11 O,.cells 33 T]).m.look (x:=⟨o.act.key,x⟩) nL;rw[<-ce] at sI nA ik;obtain⟨Z,sJ⟩:∃ Z,Z=[U.int .u32 0,.aW,.int .u64 0,.int .u8 0,.str [],.int .u8 0,.int .i64 0,.int .u64 0,.str [],.int .u32 0,.int .u32 0] :=⟨_,rfl⟩
    have ri:Z.length=11:=by rw[sJ]; rfl
    have il:bu Z 0 O=O:=fi (by rw[cl,ri]);have pl:bu (rep 32 (.int .u8 0)) 0 Y=Y:=fi (by rw[bf]; rfl);have yC:bu (U.str [] ::rep 32 (.int .u8 0)) 0 T=T:=H7 nA;have CN:O.take 11=O:=atT (by omega);have Ty:T.take 33=T:=atT (by omega);have jq:∀ y z:a2,(l++[y]).set l.length z=l++[z] :=fun y z=>by rw[auA _ _ (atW _)]; simp
    have Uz:∀ y z w:a2,(l++[w,y]).set (l.length+1) z=l++[w,z] :=fun y z w=>by rw[auA _ _ (by omega)]; simp
    have b7:∀ X:ao,(l++X)[b]? = some (.cells 1 [v]) :=fun X=>by rw[atV fb]; exact ag
    by_cases bJ:o.act.kind=2#8
    ·have pm:=yl.2 bJ;simp[c7,bW,cl,<-sJ,ri,il,jq,CN,rg,rh,pm,lf,h4,bf,atT,pl,<-sI,nA,yC,Uz,ik];by_cases hm:oL g g.ops.l.length ⟨o.act.key,x⟩
     ·rw[if_neg (fun h=>h.2 hm),auu] at gG;simp[hm,aQ];exact⟨c7,by simp,by simp,by simp,by simp,by simp,by simp,by simp,by simp,hH.more _,gg,v,j,b7 _,by rw[gG]; exact hF.more _,by rw[gG]; exact wv,ai⟩
     ·rw[if_pos ⟨bJ,hm⟩] at gG;obtain⟨fe,pc⟩:∃ fe,fe=l++[a2.cells 11 O,a2.cells 33 T,a2.cells 33 T] :=⟨_,rfl⟩
      have ap6:fe.length=l.length+3:=by rw[pc]; simp
      have ad7:=ER g i;have afT:bG 33 fe v j ((iA g i).map b0) :=by rw[pc]; exact hF.more _
      obtain⟨aY,bM,l',iu,kn,qN,Ez,Br,aml⟩:=O4 (by_:=48) afT (x:=.au 33 (l.length+2) 0 1 1 33) (xs:=[T]) (by rw[pc]; simp[dM,nA,Ty]) (by simp[nA]) (by omega) (by omega) (by simp; omega);have gl:cx aY=false:=by rw[aml]; simp
      have jt:=kn.cells;have adO:lZ g (oL g g.ops.l.length) fe:=by rw[pc]; exact hH.more _
      have rj:fe[b]? = some (.cells 1 [v]) :=by rw[pc]; exact b7 _
      have bL:l'[b]? = some (.cells 1 [v]) :=by rw[Ez b (by omega) (ai.imp_right (by omega))]; exact rj
      rw[pc] at iu;simp[hm,b7,nA,Ty,yC,iu,atT];refine dT.cy ?_;simp[jt,bL,aQ];have bz:∀ a,a≠b->(l'.set b (.cells 1 [aY]))[a]? = l'[a]?:=fun a ax=>at5 (Ne.symm ax)
      refine⟨c7,by simp,by simp,by simp,by simp,by simp,by simp,by simp,by simp,adO.frame fun a ax=>?_,gg,aY,bM,at9 (by omega),?_,by rw[gl,gG]; simp,?_⟩
      ·rw[bz a (by omega),Ez a (by omega) (ai.imp_right (by omega))]
      ·have afi:bM≠b:=by
        rcases Br with h | ⟨h1,ad⟩ | h
        ·omega
        ·have:=ai.resolve_left h1; omega
        ·rw[h] at gl; cases gl
       rw[gG,auq];have:bG 33 (l'.set b (.cells 1 [aY])) aY bM ((iA g i).map b0++[T]) :=kn.frame fun _=>bz bM afi
       rw[ce] at this;exact this
      ·right;rcases Br with h | ⟨h1,ad⟩ | h
       ·omega
       ·have:=ai.resolve_left h1; omega
       ·rw[h] at gl; cases gl
    ·have pm:¬ (u o.act.kind:Int)=2:=fun h=>bJ (yl.1 h)
     simp[c7,bW,cl,<-sJ,ri,il,jq,CN,rg,rh,pm,lf,h4,bf,atT,pl,<-sI,nA,yC,Uz,aQ];rw[if_neg (fun h=>bJ h.1),auu] at gG;exact⟨by simp,by simp,by simp,by simp,by simp,by simp,by simp,by simp,hH.more _,gg,v,j,b7 _,by rw[gG]; exact hF.more _,by rw[gG]; exact wv,ai⟩
   ·have dQ:i=g.ops.l.length:=by omega
    subst dQ;have ad7:=ER g g.ops.l.length;simp[c7,ag];refine al8 (OU ar _) (by omega) wv hF (fun l' h1 ad aj=>?_);have bL:l'[b]? = some (.cells 1 [v]) :=by rw[ad b (ai.imp_right (by omega))]; exact ag
    have Aa:lZ g (oL g g.ops.l.length) l':=hH.frame fun a ax=>ad a (ai.imp_right (by omega))
    have oy:=Aa.oy;have pc:=Aa.lt;have jt:=aj.cells;have dE:∀ (y:a2),(l'.set 1 y)[1]? = some y:=fun y=>at9 (by omega)
    simp[bL,oy,dE];refine tt (w4 ?_) (aK (by rw[aE]) rfl);unfold qE;rw[if_pos aE];have aF:bG 33 (l'.set 1 (.cells 1 [v])) v j ((mC (iA g g.ops.l.length)).map b0) :=by
     rcases ai with e | e
     ·subst e;have:=aj.q.tc;rw[this]; exact .nil _
     ·exact aj.frame fun _=>at5 (by omega)
    exact aF.q.oA (fun x=>oT x) (Et (mC (iA g g.ops.l.length))) (by
     rw[wv,alL];have:=Yh (iA g g.ops.l.length);cases aU:mC (iA g g.ops.l.length)<;>cases bt:iA g g.ops.l.length<;>simp_all) (Eu _)
 ·simp[aE];refine aK ?_ ?_
  ·unfold qE; rw[if_neg aE]; rfl
  ·simp[U.closed,bg,ss]
theorem ahL {g:bi} (V:kU g) {k:Nat} {o:bq} (ap:g.ops.l[k]? = some o) (bJ:o.act.kind=2#8) :gA o.act.key=true:=by
 obtain⟨y,aA,_⟩:=bx (l:=g.ids.l) (k:=k) (by rw[V.len]; exact (atU.1 ap).1);have h1:=Sk (Bs (V.lx k o y ap aA).1);rw[BP bJ,atY] at h1;exact h1.1
theorem Z5 {g:bi} (V:kU g) {m:Nat} {key:List UInt8} {x:List B} (af:g.ids.l[m]? = some x) :(⟨key,x⟩:bn)∉iA g m:=fun h=>by
 obtain⟨k,o,y,h1,_,aj,_,_,bt⟩:=IR.1 h;have:x=y:=congrArg bn.id bt;subst this;have:=mu V.dO k m x aj af;omega
theorem OT {g:bi} (V:kU g) :∀ {m:Nat},m<=g.ops.l.length->(iA g m).Nodup
 | 0,_=>by simp[iA]
 | m+1,hm=>by
  have aI:=OT V (m:=m) (by omega);obtain⟨o,ap,_⟩:=bx (l:=g.ops.l) (k:=m) (by omega);obtain⟨x,af,_⟩:=bx (l:=g.ids.l) (k:=m) (by rw[V.len]; omega);rw[IU ap af];split
  ·rw[au1];refine⟨aI,by simp,fun a ax b ag e=>?_⟩;rw[aui] at ag;subst e;rw[ag] at ax;exact Z5 V af ax
  ·simpa using aI
theorem aiR {g:bi} (ar:ft g) :g7 (qE g).l/\(qE g).l.length<=g.ops.l.length:=by
 unfold qE;by_cases aE:eK g=0
 ·rw[if_pos aE,Eu];refine⟨fun t aH=>OU ar _ t ((Yi _ _).1 aH),?_⟩;rw[Yh]; exact ER g _
 ·rw[if_neg aE]; exact⟨fun t aH=>(by cases aH),au7 _⟩
noncomputable def oc (g:bi) :cp:=if eK g=0 then ⟨g.ops.l.length,qE g,mY g,m8 g⟩ else e7
set_option maxHeartbeats 4000000 in
theorem amL (g:bi) (ar:ft g) :bw Tryz.prog GS 12 [cS g] (.bE [.aJ (fR (oc g)),.int .i64 (eK g)]) :=by
 refine bK Tryz.checked.mixed bB ?_;apply bm Tryz.func12 [];have dx:=e5 g.ids;have cD:=lu g.ops;have eC:cz (.au 11) (bZ g.ops)=some (.int .i64 g.ops.l.length) :=by simp[bZ]
 have h1:=amR g ar;have ad:=amU g ar;have aj:=amM g ar;have cW:=RF (qE g);have dv:=Jm (mY g);have j3:=Jl (m8 g);unfold cS ds at h1 ad aj;simp[cS,ds];refine a1 h1 (by simp[bg,U.closed,dx,cD]) ?_;by_cases aE:eK g=0
 ·have aD:oc g=⟨g.ops.l.length,qE g,mY g,m8 g⟩:=by unfold oc; rw[if_pos aE]
  rw[aD];simp[aE,cW,eC,bu];refine a1 ad (by simp[bg,U.closed,dx,cD]) ?_;simp[dv,bu];refine a1 aj (by simp[bg,U.closed,dx,cD]) ?_;simp[j3,bu];exact aK (by rw[aE]; rfl) (tZ _ _)
 ·have aD:oc g=e7:=by unfold oc; rw[if_neg aE]
  rw[aD];simp[aE,cW];exact aK rfl (tZ e7 _)
def ox (g:bi) (l:List (List B)) (i:Nat) :Bool:=decide (b2 l i∈g.ids.l)&&(!decide (b2 l i∈l.take i)&&kr (l.take i) (oe g (b2 l i)).1.bp.l)
theorem Vr (a:List (List B)) {k:Nat} (h:k<=a.length) :gq (.au 32) (aR (some a)) none (some (.int .i64 (k:Int))) none=some (aR (some (a.take k))) :=by
 exact Yd (z:=32) (enc:=aS) (l:=a) (k:=.i64) (i:=(k:Int)) (by omega) (by omega)
structure pP (s:cp) (k:Nat) :Prop where
 ok:tJ s
 dS:s.dS=(k:Int)
 al:s.cr.l.length<=k
 aC:s.cr.l.Nodup
 oC:s.c1.l.length<=k
theorem alz:pP e7 0:=⟨Wy,rfl,by simp[e7],List.Pairwise.nil,by simp[e7]⟩
theorem als {l:List (List B)} (h:l.Nodup) :(Bh l).Nodup:=by rw[<-NU h]; exact (awC l _).nodup_iff.2 h
theorem aj1 (s:he) (o:bq) :(qG s o).1.l.length<=s.l.length+1:=by
 rw[<-(HS s o).1];unfold ib;split
 ·split
  ·split
   ·simp
   ·rw[w7];unfold eL;split
    ·unfold iK;split
     ·split
      ·simp
      ·omega
     ·rw[AO]; omega
    ·omega
  ·simp
 ·simp
theorem acv {s:cp} {k:Nat} (ak:pP s k) (hk:k<60) {g:bi} (ar:ft g) (aE:eK g=0) {x:List B} (af:x.length=32) (am:(zV s g x).2=0) :pP (zV s g x).1 (k+1) :=by
 have V:=my aE;unfold zV at am ⊢;by_cases hm:x∈g.ids.l
 ·rw[if_pos hm] at am ⊢;obtain⟨i,av⟩:=atZ.1 hm;obtain⟨o,ap,dD⟩:=bx (l:=g.ops.l) (k:=i) (by rw[<-V.len]; exact (atU.1 av).1);have mm:=ar.ops o dD;rw[sE V av ap] at am ⊢;by_cases h1:x∈s.cr.l
  ·rw[if_pos h1] at am; cases am
  ·rw[if_neg h1] at am ⊢;by_cases ad:s.dS=60
   ·rw[if_pos ad] at am; cases am
   ·rw[if_neg ad] at am ⊢;unfold JK at am ⊢;obtain⟨b,ag⟩:∃ b,b=ew (iz g (q6 g.ids.l x)) :=⟨_,rfl⟩
    rw[<-ag] at am ⊢;by_cases aj:(sl s.set o b).2=0
    ·rw[if_pos aj] at am ⊢;by_cases aF:(qG s.c1 o).2=0
     ·rw[if_pos aF] at am ⊢;have wj:(s.cr.l.filter (kJ o)++[x]).Nodup:=by
       refine au1.2 ⟨ak.aC.sublist avE,by simp,fun p ay q aZ=>?_⟩;rw[aui.1 aZ];exact fun e=>h1 (by rw[<-e]; exact (auS.1 ay).1)
      have b6:=aam s.set o b ak.ok.set ak.ok.ls;have bJ:=aj2 s.c1 o ak.ok.c1 (by have:=ak.oC; omega) mm;have i4:(us s.cr.l o x).length<=k+1:=by
       show (Bh _).length<=_;rw[Yf (atW _),at4];have:=avm (kJ o) s.cr.l;have:=ak.al;simp; omega
      refine⟨⟨?_,?_,?_,?_,?_,?_⟩,?_,i4,als wj,?_⟩
      ·show g7 (sl s.set o b).1.l; rw[<-(IX s.set o b).1]; exact b6.1
      ·show hI (qG s.c1 o).1.l; rw[<-(HS s.c1 o).1]; exact bJ.1
      ·intro z aw;have iY:z∈Bh (s.cr.l.filter (kJ o)++[x]) :=aw;rw[Ep (atW _),aun] at iY;rcases aup.1 iY with e | e
       ·exact ak.ok.cr z (auS.1 e).1
       ·rw[aui.1 e]; exact af
      ·show (sl s.set o b).1.l.length<=_; rw[<-(IX s.set o b).1]; exact b6.2
      ·show (qG s.c1 o).1.l.length<=_; rw[<-(HS s.c1 o).1]; exact bJ.2
      ·show (us s.cr.l o x).length<=_; omega
      ·show s.dS+1=_; rw[ak.dS]; omega
      ·have:=aj1 s.c1 o;have:=ak.oC;show (qG s.c1 o).1.l.length<=_; omega
     ·rw[if_neg aF] at am; exact absurd am aF
    ·rw[if_neg aj] at am; exact absurd am aj
 ·rw[if_neg hm] at am; cases am
def pK (l l' : ao) :Prop:=l.length<=l'.length/\∀ b,b<l.length->l'[b]? = l[b]?
theorem pK.refl (l:ao) :pK l l:=⟨atW _,fun _ _=>rfl⟩
theorem pK.trans {l m n:ao} (h:pK l m) (ad:pK m n) :pK l n:=⟨avn h.1 ad.1,fun b ag=>by rw[ad.2 b (awf ag h.1),h.2 b ag]⟩
def Iy (f:FuncId) (vF:List U) (l:ao) (xs:List (List B)) (c:List B->Bool) :Prop:=
 ∀ p∈xs,∀ l1,pK l l1->∀ K:U->ao->Prop,(∀ bX,pK l1 bX->K (.bool (c p)) bX)->cY Tryz.prog GS f (.aJ (aS p) ::vF) l1 (c:=⟨K⟩)
theorem ahZ (a:List (List B)) (i:Nat) (av:i<=a.length) (ax:∀ z∈a,z.length=32) (gG:a.length<=1000000) {l:ao} {bo E2:Nat} (h1:l[bo]? = some (.cells 1 [aR (some a)])) (ad:l[E2]? = some (.cells 1 [.int .i64 (i:Int)])) (xs:List (List B)) (af:∀ p∈xs,p.length=32) :
  Iy 69 [.ptr bo 0 1,.ptr E2 0 1] l xs (fun p=>!decide (p∈a.take i)) :=by
 intro p ay l1 am K aV;apply bm Tryz.func69 [];have k4:=af p ay;have gy:=cM k4;have af7:=fE p;have q1:l1[bo]? = some (.cells 1 [aR (some a)]) :=by rw[am.2 _ (e1 h1)]; exact h1
 have ff:l1[E2]? = some (.cells 1 [.int .i64 (i:Int)]) :=by rw[am.2 _ (e1 ad)]; exact ad
 have aM:∀ c:a2,(l1++[c])[bo]? = some (.cells 1 [aR (some a)]) :=fun c=>by rw[atV (e1 q1)]; exact q1
 have aT:∀ c:a2,(l1++[c])[E2]? = some (.cells 1 [.int .i64 (i:Int)]) :=fun c=>by rw[atV (e1 ff)]; exact ff
 have wi:=e5 (some (a.take i));have ec:=Vr a av;have dQ:=EG (some (a.take i)) (fun z aw=>ax z (aur aw)) (by show (a.take i).length<=_; rw[aue]; omega) p k4;simp[aM,aT,ec,gy,atT];refine a1 dQ (by simp[bg,U.closed,wi,af7]) ?_;simp;exact aV _ ⟨by simp,fun b ag=>atV ag⟩
theorem ag0 (s:ez) (ak:fU s) (ec:s.l.length<=1000000) {f:FuncId} {vF:List U} {c:List B->Bool} (aD:hE Tryz.prog f=true) {l:ao} (h:Iy f vF l s.l c) {K:U->ao->Prop}
  (aV:∀ (n:Int) l',pK l l'->(0<=n<->s.l.any c=true)->K (.int .i64 n) l') :cY Tryz.prog GS 117 [aR s,.fn f [] vF] l (c:=⟨K⟩) :=by
 apply bm Tryz.func117 [];have jq:cz (.au 32) (aR s)=some (.int .i64 s.l.length) :=by simp[aR]
 simp[jq];refine cF s.l.length (fun k ae l1=>ae 0=aR s/\ae 1=.fn f [] vF/\ae 7=.int .i64 s.l.length/\ae 8=.int .i64 k/\pK l l1/\∀ j y,j<k->s.l[j]? = some y->c y=false) ?_ ⟨by simp,by simp,by simp,by simp,pK.refl _,fun j _ ai=>by omega⟩;rintro k ae l1 hk ⟨ca,aM,dC,dw,am,dH⟩;obtain⟨ae,rfl⟩:=iw ca aM dC dw;clear ca aM dC dw;simp;refine ip (fun ad=>?_) (fun ad=>?_)
 ·simp only[decide_eq_true_eq] at ad;obtain⟨x,af,cC⟩:=bx (l:=s.l) (k:=k) (by omega);have bf:=cM (ak x cC);have aQ:IntKind.i64.wrap ((k:Int)+1)=((k+1:Nat) :Int) :=by rw[IntKind.wrap_i64]; omega
  have bW:cg (.au 32) (aR s) (.int .i64 (k:Int))=some (.b3 (aS x) 0) :=by simp[aR,af]
  have jL:=h x cC l1 am;obtain⟨X,cQ⟩:∃ X,X=aS x:=⟨_,rfl⟩
  rw[<-cQ] at bW bf jL;simp[bW,bf,atT];refine⟨aD,jL _ fun bX mO=>?_⟩;cases ah:c x with
  | true=>
   simp;exact aV _ _ (am.trans mO) ⟨fun _=>aw2.2 ⟨x,cC,ah⟩,fun _=>by omega⟩
  | false=>
   simp[aQ];refine⟨ad,am.trans mO,fun j y ai aA=>?_⟩;by_cases fk:j=k
   ·rw[fk,af] at aA; obtain rfl:=Option.some.inj aA; exact ah
   ·exact dH j y (by omega) aA
 ·simp[ad];have hj:k=s.l.length:=by simp at ad; omega
  refine aV _ _ am ⟨fun h=>by omega,fun h=>?_⟩;obtain⟨y,aA,oo⟩:=aw2.1 h;obtain⟨j,ai⟩:=atZ.1 aA;rw[dH j y (by rw[hj]; exact (atU.1 ai).1) ai] at oo; cases oo
theorem abB (s:ez) (ak:fU s) (ec:s.l.length<=1000000) {f:FuncId} {vF:List U} {c:List B->Bool} (aD:hE Tryz.prog f=true) {l:ao} (h:Iy f vF l s.l c) {K:U->ao->Prop}
  (aV:∀ l',pK l l'->K (.bool (s.l.any c)) l') :cY Tryz.prog GS 71 [aR s,.fn f [] vF] l (c:=⟨K⟩) :=by
 apply bm Tryz.func71 [];simp;refine ag0 s ak ec aD h fun n l' am aC=>?_
 simp;have:decide (0<=n)=s.l.any c:=by
  rw[awz,decide_eq_true_eq]; exact aC
 rw[this];exact aV _ am
theorem u9 (s t:cp) :mB s t=true<->s.dS=t.dS/\s.set.l=t.set.l/\s.c1.l=t.c1.l/\s.cr.l=t.cr.l:=by
 unfold mB;simp only[atY,decide_eq_true_eq]
theorem alA {s t:cp} {k:Nat} (h:mB s t=true) (ak:pP s k) :pP t k:=by
 obtain⟨h1,ad,aj,aF⟩:=(u9 s t).1 h;refine⟨⟨by rw[<-ad]; exact ak.ok.set,by rw[<-aj]; exact ak.ok.c1,fun z aw=>ak.ok.cr z (by rw[aF]; exact aw),by rw[<-ad]; exact ak.ok.ls,by rw[<-aj]; exact ak.ok.DM,by rw[<-aF]; exact ak.ok.DK⟩,by rw[<-h1]; exact ak.dS,by rw[<-aF]; exact ak.al,by rw[<-aF]; exact ak.aC,by rw[<-aj]; exact ak.oC⟩
theorem acx {s:cp} {k:Nat} (ak:pP s k) {g:bi} (ar:ft g) (aE:eK g=0) {x:List B} (af:x.length=32) :
  mB (j6 s g x).1 (zV s g x).1=true/\(j6 s g x).2=(zV s g x).2:=by
 have CH:mB e7 e7=true:=by simp[mB]
 have V:=my aE;unfold j6 zV;by_cases hm:x∈g.ids.l
 ·rw[if_pos hm,if_pos hm];obtain⟨i,av⟩:=atZ.1 hm;obtain⟨o,ap,dD⟩:=bx (l:=g.ops.l) (k:=i) (by rw[<-V.len]; exact (atU.1 av).1);rw[sE V av ap,xI V.dO av];by_cases ad:x∈s.cr.l
  ·rw[if_pos ad,if_pos ad]; exact⟨CH,rfl⟩
  ·rw[if_neg ad,if_neg ad];by_cases aj:s.dS=60
   ·rw[if_pos aj,if_pos aj]; exact⟨CH,rfl⟩
   ·rw[if_neg aj,if_neg aj];obtain⟨um,_⟩:=zy g ar V av;have kv:g.ids.l.length<=60:=by rw[V.len]; exact V.n60
    have x7:fQ s.set o (ew (iO g i))=fQ s.set o (ew (iz g i)) :=O5 _ _ (fun p=>by
     rw[fq,fq];constructor
     ·intro h;obtain⟨j,ai⟩:=atZ.1 (EX h);exact (um.mem j p ai).2 ((zA (mu V.dO) ai).1 h)
     ·intro h;obtain⟨j,ai⟩:=atZ.1 (um.sub p h);exact (zA (mu V.dO) ai).2 ((um.mem j p ai).1 h)) (by rw[fq]; have:=EW g i; omega) (by rw[fq]; have:=um.len; omega)
    have wj:(s.cr.l.filter (kJ o)++[x]).Nodup:=by
     refine au1.2 ⟨ak.aC.sublist avE,by simp,fun p ay q aZ=>?_⟩;rw[aui.1 aZ];exact fun e=>ad (by rw[<-e]; exact (auS.1 ay).1)
    have Gm:ut s o x=us s.cr.l o x:=NU wj;have cL:=IX s.set o (ew (iz g i));have gF:=HS s.c1 o;unfold xR JK;rw[x7,Gm,cL.2,gF.2];by_cases aF:(sl s.set o (ew (iz g i))).2=0
    ·rw[if_pos aF,if_pos aF];by_cases aU:(qG s.c1 o).2=0
     ·rw[if_pos aU,if_pos aU];exact⟨(u9 _ _).2 ⟨rfl,cL.1,gF.1,rfl⟩,rfl⟩
     ·rw[if_neg aU,if_neg aU]; exact⟨CH,rfl⟩
    ·rw[if_neg aF,if_neg aF]; exact⟨CH,rfl⟩
 ·rw[if_neg hm,if_neg hm]; exact⟨CH,rfl⟩
theorem X5 {s t:cp} (h:mB s t=true) :mB t s=true:=by
 obtain⟨h1,ad,aj,aF⟩:=(u9 s t).1 h;exact (u9 t s).2 ⟨h1.symm,ad.symm,aj.symm,aF.symm⟩
theorem acy {s:cp} {k:Nat} (ak:pP s k) (hk:k<60) {g:bi} (ar:ft g) (aE:eK g=0) {x:List B} (af:x.length=32) (am:(j6 s g x).2=0) :pP (j6 s g x).1 (k+1) :=by
 obtain⟨h1,ad⟩:=acx ak ar aE af;exact alA (X5 h1) (acv ak hk ar aE af (by rw[<-ad]; exact am))
noncomputable def gp (g:bi) (l:List (List B)) :Nat->cp × Int
 | 0=>(e7,0)
 | k+1=>if (gp g l k).2=0 then (if ox g l k=true then j6 (gp g l k).1 g (b2 l k) else (e7,32)) else gp g l k
theorem Nq {g:bi} {l:List (List B)} {k:Nat} (h:(gp g l k).2≠0) :∀ d,gp g l (k+d)=gp g l k
 | 0=>rfl
 | d+1=>by
  have aI:=Nq h d;have e:gp g l (k+(d+1))=if (gp g l (k+d)).2=0 then (if ox g l (k+d)=true then j6 (gp g l (k+d)).1 g (b2 l (k+d)) else (e7,32)) else gp g l (k+d) :=rfl
  rw[e,aI,if_neg h]
theorem acw {s:cp} {g:bi} {x:List B} (am:(j6 s g x).2≠0) :(j6 s g x).1=e7:=by
 unfold j6 at am ⊢;split
 ·rename_i hm;rw[if_pos hm] at am;split
  ·rfl
  ·rename_i h1;rw[if_neg h1] at am;split
   ·rfl
   ·rename_i ad;rw[if_neg ad] at am;unfold xR at am ⊢;split
    ·rename_i aj;rw[if_pos aj] at am;split
     ·rename_i aF;rw[if_pos aF] at am; exact absurd rfl am
     ·rfl
    ·rfl
 ·rfl
noncomputable def sy (g:bi) (l:List (List B)) :cp × Int:=if eK g=0 then (if l.length=g.ids.l.length then gp g l l.length else (e7,32)) else (e7,eK g)
theorem acQ:hE Tryz.prog 69=true:=by kernel_rfl
structure ZT (g:bi) (s:ez) (k:Nat) (ae:a8) (l:ao) :Prop where
 aT:ae 2=.ptr 0 0 2
 a7:ae 3=.ptr 1 0 1
 bD:ae 4=.ptr 2 0 4
 dC:ae 7=.ptr 3 0 4
 sD:ae 27=aR s
 JS:ae 28=.int .i64 s.l.length
 JT:ae 29=.int .i64 k
 eh:l[0]? = some (.cells 2 [aR g.ids,bZ g.ops])
 q1:l[1]? = some (.cells 1 [aR s])
 ff:l[2]? = some (.cells 4 [.int .i64 0,.aW,.aW,.aW])
 iJ:l[3]? = some (.cells 4 (fR (gp g s.l k).1))
 am:(gp g s.l k).2=0
 ch:pP (gp g s.l k).1 k
set_option maxHeartbeats 8000000 in
theorem Zb (g:bi) (ar:ft g) (s:ez) (ak:fU s) (ec:s.l.length<=1000000) :bw Tryz.prog GS 29 [cS g,aR s] (.bE [.aJ (fR (sy g s.l).1),.int .i64 (sy g s.l).2]) :=by
 refine bK Tryz.checked.mixed bB ?_;apply bm Tryz.func29 [];have dx:=e5 g.ids;have cD:=lu g.ops;have ci:=e5 s;have afv:=ar.li;have dh:=Bt g ar;have jq:cz (.au 32) (aR s)=some (.int .i64 s.l.length) :=by simp[aR]
 have gx:cz (.au 32) (aR g.ids)=some (.int .i64 g.ids.l.length) :=by simp[aR]
 have gi:=Jl s;unfold cS ds at dh;simp[cS,ds,gi];refine a1 dh (by simp[bg,U.closed,dx,cD]) ?_;by_cases aE:eK g=0
 ·have V:=my aE;by_cases h1:s.l.length=g.ids.l.length
  ·have cN:(s.l.length:Int)=g.ids.l.length:=by omega
   have aD:sy g s.l=gp g s.l s.l.length:=by unfold sy; rw[if_pos aE,if_pos h1]
   have lD:=ajW;rw[show fR (⟨0,none,none,none⟩:cp)=[.int .i64 0,.aW,.aW,.aW] from rfl] at lD;have yr:s.l.length<=60:=by rw[h1,V.len]; exact V.n60
   rw[aD];simp[aE,jq,gx,cN];refine a1 lD rfl ?_;simp[jq,bu];refine cF s.l.length (ZT g s) ?_ ⟨by simp,by simp,by simp,by simp,by simp,by simp[cN],by simp,by simp,by simp,by simp,by simp[gp]; rfl,rfl,alz⟩;rintro k ae l hk ⟨aT,a7,bD,dC,sD,JS,JT,eh,q1,ff,iJ,am,ch⟩;obtain⟨ae,rfl⟩:=Ii aT a7 bD dC sD JS JT;clear aT a7 bD dC sD JS JT;simp;refine ip (fun h=>?_) (fun h=>?_)
   ·simp only[decide_eq_true_eq] at h;cases s with
    | none=>simp at h
    | some a=>
     have afn:k<a.length:=h;have aqd:a.length<=60:=yr;obtain⟨x,af,cC⟩:=bx (l:=a) (k:=k) h;have nM:=ak x cC;have bf:=cM nM;have jv:=fE x;have gG:a.length<=1000000:=ec;have aQ:IntKind.i64.wrap ((k:Int)+1)=((k+1:Nat) :Int) :=by rw[IntKind.wrap_i64]; omega
     have bW:cg (.au 32) (aR (some a)) (.int .i64 (k:Int))=some (.b3 (aS x) 0) :=by simp[aR,af]
     have dU:=R5 g ar aE x nM;have qj:4<=l.length:=by have:=e1 iJ; omega
     have ags:=Vr a (k:=k) (by omega);obtain⟨X,cQ⟩:∃ X,X=aS x:=⟨_,rfl⟩
     rw[<-cQ] at bW bf jv dU;have nJ:bu (rep 32 (U.int .u8 0)) 0 X=X:=fi (by rw[bf]; rfl);unfold cS ds at dU;obtain⟨L,e6⟩:∃ L,L=l++[a2.cells 1 [.int .i64 (k:Int)],.cells 32 X] :=⟨_,rfl⟩
     have mK:L.length=l.length+2:=by rw[e6]; simp
     have lf:L[0]? = some (.cells 2 [aR g.ids,bZ g.ops]) :=by rw[e6,atV (by omega)]; exact eh
     have dJ:L[1]? = some (.cells 1 [aR (some a)]) :=by rw[e6,atV (by omega)]; exact q1
     have fg:L[2]? = some (.cells 4 [.int .i64 0,.aW,.aW,.aW]) :=by rw[e6,atV (by omega)]; exact ff
     have m3:L[3]? = some (.cells 4 (fR (gp g a k).1)) :=by rw[e6,atV (by omega)]; exact iJ
     have akx:L[l.length]? = some (.cells 1 [.int .i64 (k:Int)]) :=by rw[e6]; simp
     have tw:L[l.length+1]? = some (.cells 32 X) :=by rw[e6]; simp
     have ll:∀ c d:a2,(l++[c,d])[0]? = some (.cells 2 [aR g.ids,bZ g.ops]) :=fun c d=>by rw[atV (by omega)]; exact eh
     have am5:∀ (c d:a2) (h:0<(l++[c,d]).length),(l++[c,d])[0]'h=.cells 2 [aR g.ids,bZ g.ops] :=fun c d h=>(atU.1 (ll c d)).2
     simp[bW,bf,nJ,ll,am5,atT];rw[<-e6];refine a1 dU (by simp[bg,U.closed,dx,cD,jv]) ?_;have e8:∀ c:a2,(L++[c])[1]? = some (.cells 1 [aR (some a)]) :=fun c=>by rw[atV (by omega)]; exact dJ
     have dF:∀ c:a2,(L++[c])[2]? = some (.cells 4 [.int .i64 0,.aW,.aW,.aW]) :=fun c=>by rw[atV (by omega)]; exact fg
     have ED:∀ c:a2,(L++[c])[l.length]? = some (.cells 1 [.int .i64 (k:Int)]) :=fun c=>by rw[atV (by omega)]; exact akx
     have EE:∀ c:a2,(L++[c])[l.length+1]? = some (.cells 32 X) :=fun c=>by rw[atV (by omega)]; exact tw
     have Ik:∀ c:a2,(L++[c])[L.length]? = some c:=fun c=>av2
     have df:ox g a k=(decide (x∈g.ids.l)&&(!decide (x∈a.take k)&&kr (a.take k) (oe g x).1.bp.l)) :=by unfold ox; rw[fK af]
     obtain⟨S,j9⟩:∃ S,S=gp g a k:=⟨_,rfl⟩
     have ga:(gp g a k).2=0:=am;have rB:pP (gp g a k).1 k:=ch;rw[<-j9] at ga rB m3;have h6:gp g a (k+1)=if ox g a k=true then j6 S.1 g x else (e7,32) :=by show (if _ then _ else _)=_; rw[<-j9,if_pos ga,fK af]
     have oh:ox g a k=false->gp g a a.length=(e7,32) :=fun e=>by
      rw[e,if_neg (by simp)] at h6;have:=Nq (g:=g) (l:=a) (k:=k+1) (by rw[h6]; simp) (a.length - (k+1));rw[show k+1+(a.length - (k+1))=a.length by omega,h6] at this;exact this
     have KC:ox g a k=false->∀ zt:ao,Rd zt (.bE [.aJ [.int .i64 0,.aW,.aW,.aW],.int .i64 32]) (.bE [.aJ (fR (gp g (c6.l (some a)) (c6.l (some a)).length).1),.int .i64 (gp g (c6.l (some a)) (c6.l (some a)).length).2]) :=fun e zt=>by
      have:=oh e;show Rd zt _ (.bE [.aJ (fR (gp g a a.length).1),.int .i64 (gp g a a.length).2]);rw[this];exact aK rfl (tZ e7 _)
     have Y6:∀ c y:a2,((L++[c]).set 2 y)[2]? = some y:=fun c y=>at9 (by simp; omega)
     by_cases hm:x∈g.ids.l
     ·obtain⟨i,av⟩:=atZ.1 hm;obtain⟨o,ap,dD⟩:=bx (l:=g.ops.l) (k:=i) (by rw[<-V.len]; exact (atU.1 av).1);have mm:=ar.ops o dD;rw[sE V av ap,decide_eq_true hm,auQ] at df;rw[sE V av ap];have cl:(bd o).length=11:=rfl;have hh:∀ h,(bd o)[1]'h=aR o.bp:=fun _=>rfl
      obtain⟨O,dX⟩:∃ O,O=bd o:=⟨_,rfl⟩
      simp only[<-dX];rw[<-dX] at cl hh;have il:bu [U.int .u32 0,.aW,.int .u64 0,.int .u8 0,.str [],.int .u8 0,.int .i64 0,.int .u64 0,.str [],.int .u32 0,.int .u32 0] 0 O=O:=fi (by rw[cl]; rfl);have afV:fU (some (a.take k)) :=fun z aw=>ak z (aur aw)
      have wi:=e5 (some (a.take k));have dQ:=EG (some (a.take k)) afV (by show (a.take k).length<=_; rw[aue]; omega) x nM;rw[<-cQ] at dQ;simp only[c6.yN] at dQ;simp[cl,il,e8,dF,ED,EE,Ik,ags,bf,atT];refine a1 dQ (by simp[bg,U.closed,wi,jv]) ?_;by_cases aj:x∈a.take k
      ·rw[decide_eq_true aj] at df;simp[aj,e8,dF,ED,EE,Ik,Y6];exact KC df _
      ·rw[decide_eq_false aj] at df;have aft:=ahZ a k (by omega) (fun z aw=>ak z aw) gG (e8 (.cells 11 O)) (ED (.cells 11 O)) o.bp.l (fun p ay=>mm.ids p ay);simp[aj,cl,hh,e8,dF,ED,EE,Ik,atT];refine abB o.bp mm.ids mm.len acQ aft (fun bX mO=>?_);have aea:(o.bp.l.any fun p=>!decide (p∈a.take k))=!kr (a.take k) o.bp.l:=by
        unfold kr;rw[awz,aw2,avb,decide_eq_false_iff_not];constructor
        ·rintro⟨p,ay,aZ⟩ aG;rw[decide_eq_true (aG p ay)] at aZ; cases aZ
        ·intro aG;refine Decidable.byContradiction fun aC=>aG fun p ay=>Decidable.byContradiction fun aZ=>aC ⟨p,ay,by rw[decide_eq_false aZ]; rfl⟩
       rw[aea];have apE:(L++[a2.cells 11 O]).length=L.length+1:=by simp
       have EK:bX[0]? = some (.cells 2 [aR g.ids,bZ g.ops]) :=by rw[mO.2 0 (by omega),atV (by omega)]; exact lf
       have ln:bX[1]? = some (.cells 1 [aR (some a)]) :=by rw[mO.2 1 (by omega)]; exact e8 _
       have m9:bX[2]? = some (.cells 4 [.int .i64 0,.aW,.aW,.aW]) :=by rw[mO.2 2 (by omega)]; exact dF _
       have zn:bX[3]? = some (.cells 4 (fR S.1)) :=by rw[mO.2 3 (by omega),atV (by omega)]; exact m3
       have anp:bX[l.length+1]? = some (.cells 32 X) :=by rw[mO.2 _ (by omega)]; exact EE _
       have g0:4<=bX.length:=by have:=mO.1; omega
       have Zj:∀ y:a2,(bX.set 2 y)[2]? = some y:=fun y=>at9 (by omega)
       have ann:∀ y:a2,(bX.set 3 y)[3]? = some y:=fun y=>at9 (by omega)
       cases aF:kr (a.take k) o.bp.l with
       | false=>
        rw[aF] at df;simp[m9,Zj];exact KC df _
       | true=>
        rw[aF] at df;have afZ:ox g a k=true:=by rw[df]; rfl
        rw[afZ,if_pos rfl] at h6;have o3:=acz S.1 rB.ok (by rw[rB.dS]; omega) (by rw[rB.dS]; omega) (by have:=rB.al; omega) g ar aE x nM;obtain⟨F,o0⟩:∃ F,F=j6 S.1 g x:=⟨_,rfl⟩
        rw[<-o0] at o3 h6;obtain⟨C,j8⟩:∃ C,C=fR S.1:=⟨_,rfl⟩
        obtain⟨D,jk⟩:∃ D,D=fR F.1:=⟨_,rfl⟩
        have nx:C.length=4:=by rw[j8]; rfl
        have lz:D.length=4:=by rw[jk]; rfl
        have Kg:bg C=true:=by rw[j8]; exact Ca _
        rw[<-j8,<-jk,<-cQ] at o3;rw[<-j8] at zn;unfold cS ds at o3;have GO:bu C 0 D=D:=fi (by rw[lz,nx]);simp[EK,zn,anp,nx,bf,atT];refine a1 o3 (by simp[bg,U.closed,Kg,dx,cD,jv]) ?_;by_cases aU:F.2=0
        ·simp[aU,zn,lz,nx,GO,aQ,atT];refine⟨afn,by simp,by simp,by simp,by simp,by simp,by simp,by simp,?_,?_,?_,?_,?_,?_⟩
         ·rw[at5 (by omega)]; exact EK
         ·rw[at5 (by omega)]; exact ln
         ·rw[at5 (by omega)]; exact m9
         ·show _=some (a2.cells 4 (fR (gp g a (k+1)).1));rw[h6,<-jk]; exact ann _
         ·show (gp g a (k+1)).2=0;rw[h6]; exact aU
         ·show pP (gp g a (k+1)).1 (k+1);rw[h6,o0]; exact acy rB (by omega) ar aE nM (by rw[<-o0]; exact aU)
        ·have ano:∀ y z:a2,((bX.set 3 z).set 2 y)[2]? = some y:=fun y z=>at9 (by simp; omega)
         simp[aU,m9,zn,Zj,ano,lz,nx,GO,atT];have U8:=Nq (g:=g) (l:=a) (k:=k+1) (by rw[h6]; exact aU) (a.length - (k+1));rw[show k+1+(a.length - (k+1))=a.length by omega,h6] at U8;have adK:F.1=e7:=by rw[o0]; exact acw (by rw[<-o0]; exact aU)
         show Rd _ _ (.bE [.aJ (fR (gp g a a.length).1),.int .i64 (gp g a a.length).2]);rw[U8,adK];exact aK rfl (tZ e7 _)
     ·rw[decide_eq_false hm,auV] at df;have qh:oe g x=(Bz,6) :=by unfold oe; rw[if_neg hm]
      rw[qh];have aw:bd Bz=[U.int .u32 0,.aW,.int .u64 0,.int .u8 0,.str [],.int .u8 0,.int .i64 0,.int .u64 0,.str [],.int .u32 0,.int .u32 0] :=rfl;have T3:=oh df;simp only[aw];simp[bu,e8,dF,ED,EE,Ik,Y6];exact KC df _
   ·have hj:k=s.l.length:=by simp at h; omega
    obtain⟨C,j8⟩:∃ C,C=fR (gp g s.l k).1:=⟨_,rfl⟩
    have nx:C.length=4:=by rw[j8]; rfl
    have GO:bu [U.int .i64 0,.aW,.aW,.aW] 0 C=C:=fi (by rw[nx]; rfl);have qj:4<=l.length:=by have:=e1 iJ; omega
    have g9:∀ y:a2,(l.set 2 y)[2]? = some y:=fun y=>at9 (by omega)
    rw[<-j8] at iJ;simp[h,iJ,ff,g9,nx,GO,atT];rw[hj] at am j8;exact aK (by rw[j8,am]) (tZ _ _)
  ·have cN:¬ (s.l.length:Int)=g.ids.l.length:=by omega
   have aD:sy g s.l=(e7,32) :=by unfold sy; rw[if_pos aE,if_neg h1]
   rw[aD];simp[aE,jq,gx,cN];exact aK rfl (tZ e7 _)
 ·have aD:sy g s.l=(e7,eK g) :=by unfold sy; rw[if_neg aE]
  rw[aD];simp[aE];exact aK rfl (tZ e7 _)
noncomputable def Ov (g:bi) (key:List UInt8) :Nat->Bool
 | 0=>false
 | m+1=>Ov g key m||(match g.ops.l[m]?,g.ids.l[m]? with | some o,some x=>decide (o.act.kind=2#8)&&(decide (o.act.key=key)&&!CC g (iz g) key x g.ops.l.length) | _,_=>false)
structure anQ (g:bi) (key:List UInt8) (T:eU) (K:BG) (ak:Bool) (k:Nat) (ae:a8) (l:ao) :Prop where
 aM:ae 1=.str key
 aT:ae 2=.ptr 0 0 2
 bh:ae 5=.bool true
 dw:ae 8=.bool ak
 fS:ae 10=Fv K
 fx:ae 12=.bool false
 ac9:ae 14=.int .i64 k
 td:∃ v,ae 13=v/\cn 1 Sc [.cells 2 [aR g.ids,bZ g.ops],.cells 1 [dg T]] l v ((List.range k).map (iz g)) (decide (k=0))
structure anR (g:bi) (key:List UInt8) (K:BG) (ak:Bool) (v:U) (L:ao) (k:Nat) (ae:a8) (l:ao) :Prop where
 aM:ae 1=.str key
 aT:ae 2=.ptr 0 0 2
 bh:ae 5=.bool true
 dw:ae 8=.bool ak
 fS:ae 10=Fv K
 fx:ae 12=.bool (Ov g key k)
 ih:ae 13=v
 sA:ae 15=.int .i64 k
 e:l=L
structure anS (g:bi) (key:List UInt8) (K:BG) (ak:Bool) (v:U) (L:ao) (i:Nat) (x:List B) (k:Nat) (ae:a8) (l:ao) :Prop where
 aM:ae 1=.str key
 aT:ae 2=.ptr 0 0 2
 bh:ae 5=.bool true
 dw:ae 8=.bool ak
 fS:ae 10=Fv K
 fx:ae 12=.bool (Ov g key i)
 ih:ae 13=v
 sA:ae 15=.int .i64 i
 p3:ae 16=.bool (!CC g (iz g) key x k)
 od:ae 17=.int .i64 k
 e:l=L
structure anT (key:List UInt8) (K:BG) (ak w:Bool) (L:ao) (k:Nat) (ae:a8) (l:ao) :Prop where
 aM:ae 1=.str key
 bh:ae 5=.bool true
 dw:ae 8=.bool ak
 fS:ae 10=Fv K
 fx:ae 12=.bool w
 sB:ae 18=.bool (decide (key∈K.l.take k))
 sC:ae 19=.int .i64 k
 e:l=L
structure jd (g:bi) (out:List (List B)) :Prop where
 h8:out.Nodup
 sub:∀ x∈out,x∈g.ids.l
 pre:∀ (i:Nat) (x:List B) (j:Nat),out[i]? = some x->g.ids.l[j]? = some x->∀ p∈c4 g.ops.l j,p∈out.take i
theorem YJ (g:bi) :jd g [] :=⟨aw9,fun x h=>by simp at h,fun i x j h=>by simp at h⟩
theorem YL {g:bi} (et:iL g.ids.l) {out:List (List B)} (h:jd g out) {j:Nat} {x:List B} (af:g.ids.l[j]? = some x) (aC:x∉out) (ay:∀ p∈c4 g.ops.l j,p∈out) :jd g (out++[x]) :=by
 refine⟨?_,fun y aA=>?_,fun i y t av aH p qs=>?_⟩
 ·rw[au1];exact⟨h.h8,by simp,fun a ax b ag e=>by rw[aui] at ag; subst e; rw[ag] at ax; exact aC ax⟩
 ·rw[aup,aui] at aA;rcases aA with aA | aA
  ·exact h.sub y aA
  ·rw[aA]; exact at3 af
 ·by_cases c7:i<out.length
  ·rw[atV c7] at av;rw[auj (by omega)];exact h.pre i y t av aH p qs
  ·have Ue:i=out.length:=by
    have:=(atU.1 av).1;simp at this; omega
   subst Ue;rw[at8 (atW _)] at av;simp at av;subst av;rw[et t j x aH af] at qs;rw[auj (atW _),aun];exact ay p qs
theorem Of {g:bi} {out:List (List B)} (h:jd g out) :out.length<=g.ids.l.length:=zc h.h8 h.sub
def nn (g:bi) (out:List (List B)) :Nat->List (List B)
 | 0=>[]
 | k+1=>nn g out k++(match g.ids.l[k]? with | some x=>if x∉out/\∀ p∈c4 g.ops.l k,p∈out then [x] else [] | none=>[])
theorem Jj {g:bi} {out:List (List B)} {k:Nat} {x:List B} (h:g.ids.l[k]? = some x) :nn g out (k+1)=nn g out k++(if x∉out/\∀ p∈c4 g.ops.l k,p∈out then [x] else []) :=by
 show nn g out k++(match g.ids.l[k]? with | some x=>if x∉out/\∀ p∈c4 g.ops.l k,p∈out then [x] else [] | none=>[])=_;rw[h]
theorem Jh (g:bi) (out:List (List B)) :∀ k,(nn g out k).length<=k
 | 0=>atW _
 | k+1=>by
  have aI:=Jh g out k;cases h:g.ids.l[k]? with
  | none=>
   show (nn g out k++(match g.ids.l[k]? with | some x=>if x∉out/\∀ p∈c4 g.ops.l k,p∈out then [x] else [] | none=>[])).length<=k+1;rw[h]; simp; omega
  | some x=>
   rw[Jj h,at4];split<;>simp<;>omega
theorem Ji {g:bi} {out:List (List B)} {x:List B}:∀ {k:Nat},k<=g.ids.l.length->(x∈nn g out k<->∃ j,j<k/\g.ids.l[j]? = some x/\x∉out/\∀ p∈c4 g.ops.l j,p∈out)
 | 0,_=>by simp[nn]
 | k+1,hk=>by
  have aI:=Ji (g:=g) (out:=out) (x:=x) (k:=k) (by omega);obtain⟨y,aA,_⟩:=bx (l:=g.ids.l) (k:=k) (by omega);rw[Jj aA,aup,aI];constructor
  ·rintro (⟨j,h1,ad⟩ | h)
   ·exact⟨j,by omega,ad⟩
   ·split at h
    ·rename_i aG;rw[aui] at h;subst h;exact⟨k,by omega,aA,aG⟩
    ·cases h
  ·rintro⟨j,h1,ad,aj⟩;by_cases fk:j=k
   ·subst fk;rw[aA] at ad; obtain rfl:=Option.some.inj ad;right; rw[if_pos aj]; simp
   ·exact .inl ⟨j,by omega,ad,aj⟩
theorem aa4 {g:bi} (V:kU g) {out:List (List B)} (h:jd g out) (al:out.length<g.ids.l.length) :nn g out g.ids.l.length≠[] :=by
 intro am;have dH:∀ (j:Nat) (x:List B),g.ids.l[j]? = some x->x∉out->∃ p∈c4 g.ops.l j,p∉out:=fun j x ai af=>by
  apply Classical.byContradiction;intro aG;have:x∈nn g out g.ids.l.length:=(Ji (atW _)).2 ⟨j,(atU.1 ai).1,ai,af,fun p ay=>Classical.byContradiction fun af9=>aG ⟨p,ay,af9⟩⟩;rw[am] at this; cases this
 have eH:∀ j,pL g.ids.l g.ops.l j->∀ x,g.ids.l[j]? = some x->x∈out:=by
  intro j ar
  induction ar with
  | mk j av ay kb aI=>
   intro x af;apply Classical.byContradiction;intro nM;obtain⟨p,qs,k4⟩:=dH j x af nM;obtain⟨t,aH⟩:=atZ.1 (ay p qs);exact k4 (aI p qs t aH p aH)
 have:g.ids.l.length<=out.length:=by
  have qm:g.ids.l.Nodup:=by
   refine auO.2 fun i j av ai hi e=>?_
   have h1:=atX av;rw[e] at h1;have:=mu V.dO i j _ h1 (atX ai);omega
  exact zc qm fun x af=>by
   obtain⟨j,ai⟩:=atZ.1 af;exact eH j (V.all j (by rw[<-V.len]; exact (atU.1 ai).1)) x ai
 omega
def Cj (n:Int) :List U:=[.int .i64 n]
def q9 (s:c6 Int) :U:=cI 1 Cj s
theorem RK (s:c6 Int) :(q9 s).closed=true:=vK (fun _=>rfl) s
structure ZQ (g:bi) (s:c6 Int) (m:Nat) (ae:a8) (l:ao) :Prop where
 aM:ae 1=q9 s
 aT:ae 2=.ptr 0 0 2
 ex:∃ out v,ae 5=v/\cn 32 aS [.cells 2 [aR g.ids,bZ g.ops]] l v out out.isEmpty/\jd g out/\m=g.ids.l.length - out.length
structure ZP (g:bi) (s:c6 Int) (L:ao) (v:U) (out:List (List B)) (k:Nat) (ae:a8) (l:ao) :Prop where
 aM:ae 1=q9 s
 aT:ae 2=.ptr 0 0 2
 bh:ae 5=v
 dC:ae 7=.int .i64 k
 ex:∃ w,ae 6=w/\cn 32 aS L l w (nn g out k) (nn g out k).isEmpty
set_option maxHeartbeats 8000000 in
theorem ajN (g:bi) (ar:ft g) (V:kU g) (s:c6 Int) :
  cY Tryz.prog GS 34 [cS g,q9 s] [] (c:=⟨fun r l=>∃ out,jd g out/\out.length=g.ids.l.length/\Rd l r (aR (ew out))⟩) :=by
 apply bm Tryz.func34 [];have az:cK=140737488355328:=rfl;have et:=mu V.dO;have yr:=V.n60;have ju:=V.len;have gx:cz (.au 32) (aR g.ids)=some (.int .i64 g.ids.l.length) :=by simp[aR]
 have eC:cz (.au 11) (bZ g.ops)=some (.int .i64 g.ops.l.length) :=by simp[bZ]
 have jq:cz (.au 1) (q9 s)=some (.int .i64 s.l.length) :=qB _;simp[cS,ds];refine uS (ZQ g s) ?_ g.ids.l.length _ _ ⟨by simp,by simp,[],.aW,by simp,by simpa using cn.nil,YJ g,by simp⟩;rintro m ae l ⟨aM,aT,out,v,bh,eY,ce,hm⟩;obtain⟨ae,rfl⟩:=kQ aM aT bh;clear aM aT bh;have lC:=eY.len;have dR:=Of ce;have gf:l[0]? = some (.cells 2 [aR g.ids,bZ g.ops]) :=by rw[eY.same 0 (by simp)]; rfl
 have gk:1<=l.length:=by have:=eY.le; simpa using this
 by_cases KR:out.length<g.ids.l.length
 ·simp[lC,gf,gx,KR];refine cF g.ids.l.length (ZP g s l v out) ?_ ⟨by simp,by simp,by simp,by simp,.aW,by simp,by simpa [nn] using cn.nil⟩;rintro k ae l1 hk ⟨aM,aT,bh,dC,w,cd,nB⟩;obtain⟨ae,rfl⟩:=lk aM aT bh cd dC;clear aM aT bh cd dC;have eh:l1[0]? = some (.cells 2 [aR g.ids,bZ g.ops]) :=by rw[nB.same 0 (by omega)]; exact gf
  have Ll:=eY.frame nB.le nB.same;by_cases cZ:k<g.ids.l.length
  ·obtain⟨x,af,cC⟩:=bx cZ;obtain⟨o,ap,dD⟩:=bx (l:=g.ops.l) (k:=k) (by omega);have nL:=ar.ids x cC;have bf:=cM nL;have aQ:IntKind.i64.wrap ((k:Int)+1)=((k+1:Nat) :Int) :=by rw[IntKind.wrap_i64]; omega
   have h4:cg (.au 32) (aR g.ids) (.int .i64 (k:Int))=some (.b3 (aS x) 0) :=by simp[aR,af]
   have bW:cg (.au 11) (bZ g.ops) (.int .i64 (k:Int))=some (.b3 (bd o) 0) :=by simp[bZ,ap]
   have hh:(bd o)[1]? = some (aR o.bp) :=rfl;have gj:=fE x;have jN:=e5 o.bp;have pg:c4 g.ops.l k=o.bp.l:=m1 ap;have ci:=Jj (out:=out) af;have eb:=Jh g out k;rw[pg] at ci;have Gy:fU (ew out) :=fun y aA=>by rw[fq] at aA; exact ar.ids y (ce.sub y aA)
   have dQ:=Xq (ew out) Gy (by rw[fq]; omega) x nL;have eH:=Na (ew out) Gy (by rw[fq]; omega) o.bp (ar.ops o dD).ids (ar.ops o dD).len;rw[fq] at dQ eH;have k6:=Ll.rZ (fun x=>fE x) (ew out) (by rw[vc]) (fq _);obtain⟨O,dX⟩:∃ O,O=bd o:=⟨_,rfl⟩
   obtain⟨Y,ef⟩:∃ Y,Y=aS x:=⟨_,rfl⟩
   rw[<-dX] at bW hh;rw[<-ef] at h4 bf gj dQ;have pl:bu (rep 32 (.int .u8 0)) 0 Y=Y:=fi (by rw[bf]; rfl);simp[eh,gx,cZ,h4,bf,atT];refine ia dQ (.cons k6 (.cons (.same _ (by simp[U.closed,gj])) .nil)) rfl ?_;by_cases nM:x∈out
   ·rw[if_neg (fun h=>h.1 nM),auu] at ci;simp[nM,aQ];exact⟨cZ,by simp,by simp,by simp,by simp,w,by simp,by rw[ci]; exact nB⟩
   ·simp[nM,eh,eC,bW,hh];refine ia eH (.cons k6 (.cons (.same _ jN) .nil)) rfl ?_;by_cases o3:∀ p∈o.bp.l,p∈out
    ·have eg:kr out o.bp.l=true:=by unfold kr; exact decide_eq_true o3
     rw[if_pos ⟨nM,o3⟩] at ci;obtain⟨w',l',iu,kn,qN⟩:=MJ (by_:=32) (nB.more [a2.cells 32 (aS x)]) x (b:=l1.length) (by simp) (by rw[<-ef]; exact bf) (by omega) (by omega) (by rw[az]; omega);rw[<-ef] at iu;simp[eg,eh,h4,bf,atT,pl,iu];refine dT.cy ?_;simp[aQ];exact⟨cZ,by simp,by simp,by simp,by simp,w',by simp,by rw[ci,show (nn g out k++[x]).isEmpty=false by simp]; exact kn⟩
    ·have eg:kr out o.bp.l=false:=by unfold kr; exact decide_eq_false o3
     rw[if_neg (fun h=>o3 h.2),auu] at ci;simp[eg,aQ];exact⟨cZ,by simp,by simp,by simp,by simp,w,by simp,by rw[ci]; exact nB⟩
  ·have hl:k=g.ids.l.length:=by omega
   subst hl;have bz:=aa4 V ce KR;obtain⟨C,j8⟩:∃ C,C=nn g out g.ids.l.length:=⟨_,rfl⟩
   have gi:∀ y,y∈C->∃ j,g.ids.l[j]? = some y/\y∉out/\∀ p∈c4 g.ops.l j,p∈out:=fun y aA=>by
    rw[j8] at aA;obtain⟨j,_,ad⟩:=(Ji (atW _)).1 aA;exact⟨j,ad⟩
   have eb:=Jh g out g.ids.l.length;rw[<-j8] at nB bz eb;have Ki:0<C.length:=List.length_pos_iff.2 bz;have Kj:¬ (C.length:Int)=0:=by omega
   have mi:=nB.len;obtain⟨kI,ai2,_,_,_,_⟩:=id nB
   -- whichever is taken
   have fin:∀ a:Nat,a<C.length->∃ y p c x aY l',C[a]? = some y/\y.length=32/\cg (.au 32) w (.int .i64 (a:Int))=some p/\eM l1 p=some (c,x)/\x+32<=c.length/\(c.drop x).take 32=aS y ∧
     iP (l1++[a2.cells 32 (aS y)]) 32 32 v (.au 32 l1.length 0 1 1 32)=some (aY,l')/\cn 32 aS [.cells 2 [aR g.ids,bZ g.ops]] l' aY (out++[y]) false/\jd g (out++[y]) :=fun a ax=>by
    obtain⟨y,aA,cm⟩:=bx ax;obtain⟨j,ai,G0,agQ⟩:=gi y cm;have rD:=ar.ids y (at3 ai);obtain⟨p,c,x,aX,a6,a3,a4⟩:=ai2.q.get (k:=.i64) (i:=a) (e:=aS y) (by rw[at0,aA]; rfl);obtain⟨aY,l',iu,kn,qN⟩:=MJ (by_:=32) (Ll.more [a2.cells 32 (aS y)]) y (b:=l1.length) (by simp) (cM rD) (by omega) (by omega) (by rw[az]; omega);exact⟨y,p,c,x,aY,l',aA,rD,aX,a6,a3,a4,iu,kn,YL et ce ai G0 agQ⟩
   have Lc:=Ll.len;by_cases yz:out.length<s.l.length
   ·obtain⟨q,aZ,_⟩:=bx yz;have C1:cg (.au 1) (q9 s) (.int .i64 (out.length:Int))=some (.b3 (Cj q) 0) :=by unfold q9; rw[rF]; simp[aZ]
    by_cases Lw:0<q
    ·obtain⟨HP,rfl⟩:=avp (Int.le_of_lt Lw);have uB:0<HP:=by omega
     have Dh:=BX HP (C.length:Int) (by omega);rw[au0] at Dh;obtain⟨y,p,c,x,aY,l',aA,rD,aX,a6,a3,a4,iu,kn,qN⟩:=fin (HP % C.length) (avL _ Ki)
     have b8:=cM rD;obtain⟨Y,ef⟩:∃ Y,Y=aS y:=⟨_,rfl⟩
     rw[<-ef] at b8 a4 iu;have pl:bu (rep 32 (.int .u8 0)) 0 Y=Y:=fi (by rw[b8]; rfl);obtain⟨a,ad6⟩:∃ a,a=HP % C.length:=⟨_,rfl⟩
     rw[<-ad6] at aX Dh;simp[eh,gx,mi,bz,Kj,lC,Lc,jq,yz,C1,Cj,Lw,uB,Dh,aX,a6,a3,a4,b8,pl,atT,iu];refine dT.cy ?_;simp;exact⟨_,by simp; omega,by simp,by simp,out++[y],aY,by simp,by rw[show (out++[y]).isEmpty=false by simp]; exact kn,qN,rfl⟩
    ·obtain⟨y,p,c,x,aY,l',aA,rD,aX,a6,a3,a4,iu,kn,qN⟩:=fin 0 Ki;have b8:=cM rD;obtain⟨Y,ef⟩:∃ Y,Y=aS y:=⟨_,rfl⟩
     rw[<-ef] at b8 a4 iu;have pl:bu (rep 32 (.int .u8 0)) 0 Y=Y:=fi (by rw[b8]; rfl);have q2:cg (.au 32) w (.int .i64 0)=some p:=aX;simp[eh,gx,mi,bz,Kj,lC,Lc,jq,yz,C1,Cj,Lw,q2,a6,a3,a4,b8,pl,atT,iu];refine dT.cy ?_;simp;exact⟨_,by simp; omega,by simp,by simp,out++[y],aY,by simp,by rw[show (out++[y]).isEmpty=false by simp]; exact kn,qN,rfl⟩
   ·obtain⟨y,p,c,x,aY,l',aA,rD,aX,a6,a3,a4,iu,kn,qN⟩:=fin 0 Ki;have b8:=cM rD;obtain⟨Y,ef⟩:∃ Y,Y=aS y:=⟨_,rfl⟩
    rw[<-ef] at b8 a4 iu;have pl:bu (rep 32 (.int .u8 0)) 0 Y=Y:=fi (by rw[b8]; rfl);have q2:cg (.au 32) w (.int .i64 0)=some p:=aX;simp[eh,gx,mi,bz,Kj,lC,Lc,jq,yz,q2,a6,a3,a4,b8,pl,atT,iu];refine dT.cy ?_;simp;exact⟨_,by simp; omega,by simp,by simp,out++[y],aY,by simp,by rw[show (out++[y]).isEmpty=false by simp]; exact kn,qN,rfl⟩
 ·simp[lC,gf,gx,KR];exact⟨out,ce,by omega,eY.rd (fun x=>fE x) (ew out) (by rw[vc]) (fq _)⟩
theorem MQ (g:bi) (ar:ft g) (V:kU g) (s:c6 Int) :∃ out,jd g out/\out.length=g.ids.l.length/\bw Tryz.prog GS 34 [cS g,q9 s] (aR (ew out)) :=by
 obtain⟨r,l',Al,dR,out,h1,ad,k6⟩:=ajN g ar V s;exact⟨out,h1,ad,bK Tryz.checked.mixed bB ⟨r,l',Al,dR,k6⟩⟩
theorem aaf {g:bi} {out:List (List B)} (h:jd g out) {i m:Nat} {y:List B} (av:out[i]? = some y) (hm:g.ids.l[m]? = some y) :∀ {j:Nat},jc g.ids.l g.ops.l (c4 g.ops.l m) j->∀ x,g.ids.l[j]? = some x->x∈out.take i:=by
 intro j az
 induction az with
 | start p j ay ai=>
  intro x af;rw[ai] at af; obtain rfl:=Option.some.inj af;exact h.pre i y m av hm p ay
 | step jx p j az ay ai aI=>
  intro x af;rw[ai] at af; obtain rfl:=Option.some.inj af;have aZ:∃ q,g.ids.l[jx]? = some q:=by
   cases az with
   | start bS _ gc eB=>exact⟨bS,eB⟩
   | step LV bS _ kB gc eB=>exact⟨bS,eB⟩
  obtain⟨q,aZ⟩:=aZ;have agj:=aI q aZ;obtain⟨a,ax⟩:=atZ.1 agj;have gG:=(atU.1 ax).1;rw[aue] at gG;rw[aum (by omega)] at ax;have:=h.pre a q jx ax aZ p ay;exact aur (by rw[avj]; rw[ava (by omega)]; exact this:p∈(out.take i).take a)
def BA (g:bi) (D:List (List B)) (t:bn) :Prop:=∃ (j:Nat) (o:bq) (x:List B),x∈D/\g.ids.l[j]? = some x/\g.ops.l[j]? = some o/\o.act.kind=2#8/\t=⟨o.act.key,x⟩
def EN (g:bi) (D:List (List B)) (t:bn) :Prop:=∃ (j:Nat) (o:bq) (x:List B),x∈D/\g.ids.l[j]? = some x/\g.ops.l[j]? = some o/\o.act.kind=3#8/\o.act.key=t.key/\t.id∈iz g j
structure vp (g:bi) (out:List (List B)) (k:Nat) (s:eU) :Prop where
 ok:g7 s.l
 lx:mb s.l=true
 len:s.l.length<=k
 mem:∀ t,t∈s.l<->BA g (out.take k) t/\¬ EN g (out.take k) t
theorem alx (g:bi) (out:List (List B)) :vp g out 0 none:=
 ⟨fun t h=>(by cases h),rfl,atW _,fun t=>⟨fun h=>(by cases h),fun ⟨⟨j,o,x,af,_⟩,_⟩=>by simp at af⟩⟩
theorem AV {out:List (List B)} {k:Nat} {x y:List B} (hk:out[k]? = some x) :y∈out.take (k+1)<->y∈out.take k\/y=x:=by
 rw[aud,hk,aup]; simp
theorem Wt {out:List (List B)} (aC:out.Nodup) {k:Nat} {x:List B} (hk:out[k]? = some x) :x∉out.take k:=fun h=>by
 obtain⟨a,ax⟩:=atZ.1 h;have gG:=(atU.1 ax).1;rw[aue] at gG;rw[aum (by omega)] at ax;obtain⟨h1,ad⟩:=atU.1 hk;obtain⟨aj,aF⟩:=atU.1 ax;exact auO.1 aC a k aj h1 (by omega) (aF.trans ad.symm)
theorem Z6 {g:bi} (et:iL g.ids.l) {out:List (List B)} {k j:Nat} {x:List B} {o:bq} (hk:out[k]? = some x) (af:g.ids.l[j]? = some x) (ap:g.ops.l[j]? = some o) (t:bn) :BA g (out.take (k+1)) t<->BA g (out.take k) t\/(o.act.kind=2#8/\t=⟨o.act.key,x⟩) :=by
 constructor
 ·rintro⟨bM,cR,jX,h1,ad,aj,aF,aU⟩;rcases (AV hk).1 h1 with h | h
  ·exact .inl ⟨bM,cR,jX,h,ad,aj,aF,aU⟩
  ·subst h;have:=et bM j jX ad af;subst this;rw[ap] at aj; obtain rfl:=Option.some.inj aj;exact .inr ⟨aF,aU⟩
 ·rintro (⟨bM,cR,jX,h1,ad⟩ | ⟨h1,ad⟩)
  ·exact⟨bM,cR,jX,(AV hk).2 (.inl h1),ad⟩
  ·exact⟨j,o,x,(AV hk).2 (.inr rfl),af,ap,h1,ad⟩
theorem akj {g:bi} (et:iL g.ids.l) {out:List (List B)} {k j:Nat} {x:List B} {o:bq} (hk:out[k]? = some x) (af:g.ids.l[j]? = some x) (ap:g.ops.l[j]? = some o) (t:bn) :EN g (out.take (k+1)) t<->EN g (out.take k) t\/(o.act.kind=3#8/\o.act.key=t.key/\t.id∈iz g j) :=by
 constructor
 ·rintro⟨bM,cR,jX,h1,ad,aj,aF,aU⟩;rcases (AV hk).1 h1 with h | h
  ·exact .inl ⟨bM,cR,jX,h,ad,aj,aF,aU⟩
  ·subst h;have:=et bM j jX ad af;subst this;rw[ap] at aj; obtain rfl:=Option.some.inj aj;exact .inr ⟨aF,aU⟩
 ·rintro (⟨bM,cR,jX,h1,ad⟩ | ⟨h1,ad⟩)
  ·exact⟨bM,cR,jX,(AV hk).2 (.inl h1),ad⟩
  ·exact⟨j,o,x,(AV hk).2 (.inr rfl),af,ap,h1,ad⟩
theorem aly {g:bi} (ar:ft g) (V:kU g) {out:List (List B)} (ce:jd g out) {k j:Nat} {x:List B} {o:bq} {s:eU} (ak:vp g out k s) (hk:out[k]? = some x) (af:g.ids.l[j]? = some x) (ap:g.ops.l[j]? = some o) :
  ∃ fp,fQ s o (ew (iz g j))=(fp,0)/\vp g out (k+1) fp:=by
 have et:=mu V.dO;have cZ:=(atU.1 hk).1;have yr:=V.n60;have ju:=V.len;have cl:=Of ce;have ec:=ak.len;have aE:lh s.l=0:=Sl (by omega) ak.lx;obtain⟨aq,fm⟩:=V.lx j o x ap af;have h1:=Bs aq;obtain⟨adA,_⟩:=zy g ar V af;have ad:¬ 60<(ew (iz g j)).l.length:=by rw[fq]; have:=adA.len; omega
 have FZ:=Z6 et hk af ap;have lJ:=akj et hk af ap;have Vj:=Wt ce.h8 hk;have nL:=ar.ids x (at3 af);unfold fQ;rw[if_pos aE,if_pos h1,if_neg ad];by_cases bJ:o.act.kind=2#8
 ·rw[if_pos bJ,fm];have lD:(⟨o.act.key,x⟩:bn)∉s.l:=fun h=>by
   obtain⟨⟨bM,cR,jX,aX,a6,a3,a4,a5⟩,_⟩:=(ak.mem _).1 h;have:x=jX:=congrArg bn.id a5;rw[<-this] at aX;exact Vj aX
  have aD:¬ rc s.l ⟨o.act.key,x⟩=true:=fun h=>lD ((SL ak.lx).1 h)
  refine⟨some (i0 s.l (jh s.l ⟨o.act.key,x⟩) ⟨o.act.key,x⟩),by unfold nj; rw[if_neg aD,if_neg (by omega)],L6 ak.ok nL,adp ak.lx lD (ahL V ap bJ),by rw[c6.yN,L5]; omega,fun t=>?_⟩;rw[c6.yN,ag2,ak.mem t,FZ t,lJ t];have c0:¬ o.act.kind=3#8:=fun h=>by rw[bJ] at h; cases h
  constructor
  ·rintro (h | ⟨aX,a6⟩)
   ·subst h;refine⟨.inr ⟨bJ,rfl⟩,fun aG=>?_⟩;rcases aG with ⟨bM,cR,y,dW,dB,gg,l3,tR,EZ⟩ | aG
    ·obtain⟨i,av⟩:=atZ.1 dW;have c7:=(atU.1 av).1;rw[aue] at c7;rw[aum (by omega)] at av;have az:=((zy g ar V dB).1.mem j x af).1 EZ;have:=aaf ce av dB az x af;exact Vj (aur (by rw[avj,ava (by omega)]; exact this:x∈(out.take k).take i))
    ·exact c0 aG.1
   ·exact⟨.inl aX,fun aG=>aG.elim a6 fun aG=>c0 aG.1⟩
  ·rintro⟨aX | aX,a6⟩
   ·exact .inr ⟨aX,fun aG=>a6 (.inl aG)⟩
   ·exact .inl aX.2
 ·rw[if_neg bJ];have TE:∀ t,BA g (out.take (k+1)) t<->BA g (out.take k) t:=fun t=>by
   rw[FZ t]; exact⟨fun h=>h.elim id fun h=>absurd h.1 bJ,.inl⟩
  by_cases c0:o.act.kind=3#8
  ·rw[if_pos c0];have AB:(N3 (fun l=>l.filter fun t=>!i8 o (ew (iz g j)) t) s).l=s.l.filter fun t=>!i8 o (ew (iz g j)) t:=by cases s<;>rfl
   refine⟨_,rfl,?_,?_,?_,fun t=>?_⟩
   ·rw[AB]; exact fun t aH=>ak.ok t (auS.1 aH).1
   ·rw[AB]; exact ado ak.lx
   ·rw[AB]; have:=avm (fun t=>!i8 o (ew (iz g j)) t) s.l; omega
   ·rw[AB,auS,ak.mem t,TE t,lJ t];have ch:(!i8 o (ew (iz g j)) t)=true<->¬ (t.key=o.act.key/\t.id∈iz g j) :=by
     unfold i8;rw[fq];simp;exact⟨fun h ax=>h.elim (fun h=>absurd ax h) id,fun h=>Classical.or_iff_not_imp_left.2 fun h'=>h (Classical.not_not.1 h')⟩
    rw[ch];constructor
    ·rintro⟨⟨aX,a6⟩,a3⟩;exact⟨aX,fun aG=>aG.elim a6 fun aG=>a3 ⟨aG.2.1.symm,aG.2.2⟩⟩
    ·rintro⟨aX,a6⟩;exact⟨⟨aX,fun aG=>a6 (.inl aG)⟩,fun aG=>a6 (.inr ⟨c0,aG.1.symm,aG.2⟩)⟩
  ·rw[if_neg c0];refine⟨_,rfl,ak.ok,ak.lx,by omega,fun t=>?_⟩;rw[ak.mem t,TE t,lJ t];exact⟨fun ⟨aX,a6⟩=>⟨aX,fun aG=>aG.elim a6 fun aG=>c0 aG.1⟩,fun ⟨aX,a6⟩=>⟨aX,fun aG=>a6 (.inl aG)⟩⟩
theorem Oe {g:bi} {out:List (List B)} (h:jd g out) (al:out.length=g.ids.l.length) {x:List B} (af:x∈g.ids.l) :x∈out:=by
 apply Classical.byContradiction;intro aC;have:=zc (a:=x::out) (b:=g.ids.l) (awb.2 ⟨aC,h.h8⟩) (fun y aA=>by
  rcases auG.1 aA with e | e
  ·rw[e]; exact af
  ·exact h.sub y e)
 simp at this; omega
theorem alw {g:bi} (ar:ft g) (aE:eK g=0) {out:List (List B)} (ce:jd g out) (al:out.length=g.ids.l.length) {s:eU} (ak:vp g out out.length s) :s.l=(qE g).l:=by
 have V:=my aE;have et:=mu V.dO;unfold qE;rw[if_pos aE,Eu];have k3:=ak.mem;rw[aun] at k3;refine Er (lt:=eS) yS (fun a b c h1 ad=>rP h1 ad) ((CF _).1 ak.lx).2 (ale (OT V (atW _))) (fun t=>?_);rw[Yi,k3 t,IR];have lJ:∀ (key:List UInt8) (x:List B),x∈g.ids.l->(EN g out ⟨key,x⟩<->oL g g.ops.l.length ⟨key,x⟩) :=fun key x cC=>by
  obtain⟨i,av⟩:=atZ.1 cC;constructor
  ·rintro⟨j,o,y,aX,a6,a3,a4,a5,xB⟩;exact⟨j,o,(atU.1 a3).1,a3,a4,a5,(zA et av).2 (((zy g ar V a6).1.mem i x av).1 xB)⟩
  ·rintro⟨j,o,aX,a6,a3,a4,a5⟩;obtain⟨y,aA,cm⟩:=bx (l:=g.ids.l) (k:=j) (by rw[V.len]; exact aX);exact⟨j,o,y,Oe ce al cm,aA,a6,a3,a4,((zy g ar V aA).1.mem i x av).2 ((zA et av).1 a5)⟩
 constructor
 ·rintro⟨⟨j,o,x,aX,a6,a3,a4,a5⟩,xB⟩;subst a5;exact⟨j,o,x,(atU.1 a3).1,a3,a6,a4,fun h=>xB ((lJ _ _ (at3 a6)).2 h),rfl⟩
 ·rintro⟨j,o,x,aX,a6,a3,a4,a5,xB⟩;subst xB;have cC:=at3 a3;exact⟨⟨j,o,x,Oe ce al cC,a3,a6,a4,rfl⟩,fun h=>a5 ((lJ _ _ cC).1 h)⟩
def vm (C:bY->Prop) (r:bY) :Prop:=C r/\∀ q,C q->q.key=r.key->jB q r=false
structure vo (C:bY->Prop) (l:List bY) :Prop where
 lx:ly l=true
 mem:∀ r,r∈l<->vm C r
 all:∀ q,C q->∃ r∈l,r.key=q.key
theorem No {C D:bY->Prop} {l:List bY} (h:∀ r,C r<->D r) (al:vo C l) :vo D l:=by
 have:C=D:=funext fun r=>propext (h r)
 rw[<-this]; exact al
theorem akn:vo (fun _=>False) [] :=⟨rfl,fun r=>⟨fun h=>(by cases h),fun h=>h.1.elim⟩,fun q h=>h.elim⟩
theorem ako {C:bY->Prop} {l:List bY} {x:bY} (h:vo C l) (af:i7 x=true) (fm:∀ q,C q->q.id≠x.id) :vo (fun r=>C r\/r=x) (iK l x) :=by
 have kb:=h.lx;have dd:=h.mem;have hQ:=h.all;have gP:=fun r=>X9 kb x r
 have yd:∀ {r},vm C r->x.key≠r.key\/jB x r=false->vm (fun r=>C r\/r=x) r:=fun {r} ⟨h1,aj⟩ h=>⟨.inl h1,fun q aZ hk=>by
  rcases aZ with aZ | rfl
  ·exact aj q aZ hk
  ·exact h.resolve_left fun aC=>aC hk⟩
 have yF:∀ {r},vm (fun r=>C r\/r=x) r->r=x\/vm C r:=fun {r} ⟨h1,aj⟩=>by
  rcases h1 with h1 | h1
  ·exact .inr ⟨h1,fun q aZ hk=>aj q (.inl aZ) hk⟩
  ·exact .inl h1
 have ik:∀ {r},vm (fun r=>C r\/r=x) r->x.key=r.key->jB x r=false:=fun {r} h hk=>h.2 x (.inr rfl) hk
 suffices aG:(∀ r,r∈iK l x<->vm (fun r=>C r\/r=x) r)/\(∀ q,(C q\/q=x)->∃ r∈iK l x,r.key=q.key) from ⟨S9 kb af,aG.1,aG.2⟩
 by_cases qf:∃ y∈l,y.key=x.key
 ·obtain⟨y,aA,jw⟩:=qf;have b8:=(dd y).1 aA;cases al:jB x y with
  | true=>
   refine⟨fun r=>?_,fun q aZ=>?_⟩
   ·rw[(gP r).1 y aA jw al];constructor
    ·rintro (e | ⟨h,hG⟩)
     ·refine⟨.inr e,fun q aZ hk=>?_⟩;rw[e] at hk ⊢;rcases aZ with aZ | aZ
      ·cases eG:jB q x with
       | false=>rfl
       | true=>
        have:=b8.2 q aZ (by rw[hk,jw]);rw[V9 eG al] at this; cases this
      ·rw[aZ]; exact Hk _
     ·exact yd ((dd r).1 h) (.inl fun e=>hG e.symm)
    ·intro h;rcases yF h with e | e
     ·exact .inl e
     ·refine .inr ⟨(dd r).2 e,fun hG=>?_⟩;have h1:=ik h hG.symm;rw[z6 kb ((dd r).2 e) aA (by rw[hG,jw]),al] at h1; cases h1
   ·by_cases e:q.key=x.key
    ·exact⟨x,((gP x).1 y aA jw al).2 (.inl rfl),e.symm⟩
    ·obtain⟨r,az,hG⟩:=hQ q (aZ.resolve_right fun h=>e (by rw[h]));exact⟨r,((gP r).1 y aA jw al).2 (.inr ⟨az,by rw[hG]; exact e⟩),hG⟩
  | false=>
   rw[(gP x).2.1 y aA jw al];refine⟨fun r=>⟨fun h=>yd ((dd r).1 h) ?_,fun h=>?_⟩,fun q aZ=>?_⟩
   ·by_cases hG:r.key=x.key
    ·right;rw[z6 kb h aA (by rw[hG,jw])]; exact al
    ·exact .inl fun e=>hG e.symm
   ·rcases yF h with e | e
    ·exfalso;have aU:=h.2 y (.inl b8.1) (by rw[e]; exact jw);rw[e] at aU;have:=V8 (fm y b8.1) aU;rw[al] at this; cases this
    ·exact (dd r).2 e
   ·rcases aZ with aZ | aZ
    ·exact hQ q aZ
    ·exact⟨y,aA,by rw[aZ]; exact jw⟩
 ·have dH:∀ y∈l,y.key≠x.key:=fun y aA e=>qf ⟨y,aA,e⟩
  refine⟨fun r=>?_,fun q aZ=>?_⟩
  ·rw[(gP r).2.2 dH];constructor
   ·rintro (e | h)
    ·refine⟨.inr e,fun q aZ hk=>?_⟩;rw[e] at hk ⊢;rcases aZ with aZ | aZ
     ·obtain⟨p,ay,Dc⟩:=hQ q aZ;exact absurd (by rw[Dc,hk]) (dH p ay)
     ·rw[aZ]; exact Hk _
    ·exact yd ((dd r).1 h) (.inl fun e=>dH r h e.symm)
   ·intro h;rcases yF h with e | e
    ·exact .inl e
    ·exact .inr ((dd r).2 e)
  ·rcases aZ with aZ | aZ
   ·obtain⟨r,az,hG⟩:=hQ q aZ;exact⟨r,((gP r).2.2 dH).2 (.inr az),hG⟩
   ·exact⟨x,((gP x).2.2 dH).2 (.inl rfl),by rw[aZ]⟩
def BC (g:bi) (D:List (List B)) (r:bY) :Prop:=∃ (j:Nat) (o:bq) (x:List B),x∈D/\g.ids.l[j]? = some x/\g.ops.l[j]? = some o/\o.act.kind=4#8/\r=fV o x
def Iz (g:bi) (D:List (List B)) (x:List B) :Prop:=x∈D/\∀ y∈D,∀ j,g.ids.l[j]? = some y->x∉c4 g.ops.l j
theorem alv {g:bi} {a b:List (List B)} {k:Nat} {s:eU} (h:a.take k=b.take k) (ak:vp g a k s) :vp g b k s:=⟨ak.ok,ak.lx,ak.len,by rw[<-h]; exact ak.mem⟩
structure oK (g:bi) (D:List (List B)) (s:cp) :Prop where
 dS:s.dS=(D.length:Int)
 set:vp g D D.length s.set
 c1:vo (BC g D) s.c1.l
 Nr:hI s.c1.l
 oC:s.c1.l.length<=D.length
 ak:s.cr.l.Pairwise fun a b=>iq a b=true
 hm:∀ x,x∈s.cr.l<->Iz g D x
theorem ac2 (g:bi) :oK g [] e7:=
 ⟨rfl,alx g [],No (fun r=>⟨fun h=>h.elim,fun ⟨j,o,x,h,_⟩=>by simp at h⟩) akn,fun r h=>(by cases h),atW _,List.Pairwise.nil,fun x=>⟨fun h=>(by cases h),fun h=>(by cases h.1)⟩⟩
theorem aih {l:List (List B)} (h:l.Pairwise fun a b=>iq a b=true) :l.Nodup:=h.imp fun {a b} h e=>by subst e; rw[Hi] at h; cases h
theorem oK.aC {g:bi} {D:List (List B)} {s:cp} (h:oK g D s) :s.cr.l.Nodup:=aih h.ak
theorem oK.al {g:bi} {D:List (List B)} {s:cp} (h:oK g D s) :s.cr.l.length<=D.length:=zc h.aC fun x af=>((h.hm x).1 af).1
theorem oK.st {g:bi} (ar:ft g) {D:List (List B)} (ce:jd g D) {s:cp} (h:oK g D s) (jk:D.length<=1000000) :pP s D.length:=by
 have h1:=h.al;have ad:=h.set.len;have aj:=h.oC;exact⟨⟨h.set.ok,h.Nr,fun x af=>ar.ids x (ce.sub x ((h.hm x).1 af).1),by omega,by omega,by omega⟩,h.dS,h1,h.aC,h.oC⟩
theorem al0 {g:bi} {D:List (List B)} {x:List B} (h:jd g (D++[x])) :jd g D:=by
 refine⟨(au1.1 h.h8).1,fun y aA=>h.sub y (av6 _ aA),fun i y j av ai p ay=>?_⟩;have c7:=(atU.1 av).1;have:=h.pre i y j (by rw[atV c7]; exact av) ai p ay
 rwa [auj (by omega)] at this
theorem alZ {g:bi} {D:List (List B)} (h:jd g D) {y:List B} (aA:y∈D) {j:Nat} (ai:g.ids.l[j]? = some y) {p:List B} (ay:p∈c4 g.ops.l j) :p∈D:=by
 obtain⟨i,av⟩:=atZ.1 aA;exact aur (h.pre i y j av ai p ay)
theorem XG {l:List bY} (h:l.length<=60) (ar:ly l=true) :mA l=0:=by
 unfold mA;rw[if_neg (by omega),if_pos ar]
theorem ac4 {g:bi} (ar:ft g) (aE:eK g=0) {D:List (List B)} {x:List B} (ce:jd g (D++[x])) {s:cp} (h:oK g D s) :∃ fp,j6 s g x=(fp,0)/\oK g (D++[x]) fp:=by
 have V:=my aE;have et:=mu V.dO;have wA:(D++[x])[D.length]? = some x:=by simp
 obtain⟨j,af⟩:=atZ.1 (ce.sub x (by simp));have hm:=at3 af;have nL:=ar.ids x hm;obtain⟨o,ap,dD⟩:=bx (l:=g.ops.l) (k:=j) (by rw[<-V.len]; exact (atU.1 af).1);have adZ:=al0 ce;have bl:=Of ce;rw[at4,List.length_singleton] at bl;have yr:=V.n60;have ju:=V.len;have GZ:x∉D:=fun aG=>(au1.1 ce.h8).2.2 x aG x (by simp) rfl
 have Vh:x∉s.cr.l:=fun aG=>GZ ((h.hm x).1 aG).1
 obtain⟨aq,fm⟩:=V.lx j o x ap af;have gO:=Bs aq;have af4:∀ p∈o.bp.l,p∈D:=fun p ay=>by
  have:=ce.pre D.length x j wA af p (by rw[m1 ap]; exact ay)
  rwa [List.take_left] at this
 obtain⟨dE,pi,j9⟩:=aly ar V ce (alv (by rw[List.take_left,aun]) h.set) wA af ap;obtain⟨um,_⟩:=zy g ar V af;have kv:g.ids.l.length<=60:=by omega
 have x7:fQ s.set o (ew (iO g j))=fQ s.set o (ew (iz g j)) :=O5 _ _ (fun p=>by
  rw[fq,fq];constructor
  ·intro h;obtain⟨bM,ai⟩:=atZ.1 (EX h);exact (um.mem bM p ai).2 ((zA et ai).1 h)
  ·intro h;obtain⟨bM,ai⟩:=atZ.1 (um.sub p h);exact (zA et ai).2 ((um.mem bM p ai).1 h)) (by rw[fq]; have:=EW g j; omega) (by rw[fq]; have:=um.len; omega)
 have lK:=h.oC;have kh:eL s.c1.l o x=eL s.c1.l o x:=rfl;have Lv:(eL s.c1.l o x).length<=D.length+1/\hI (eL s.c1.l o x)/\vo (BC g (D++[x])) (eL s.c1.l o x) :=by
  have mN:∀ r,BC g (D++[x]) r<->BC g D r\/(o.act.kind=4#8/\r=fV o x) :=fun r=>by
   constructor
   ·rintro⟨bM,cR,jX,aX,a6,a3,a4,a5⟩;rw[aup,aui] at aX;rcases aX with aX | aX
    ·exact .inl ⟨bM,cR,jX,aX,a6,a3,a4,a5⟩
    ·subst aX;have:=et bM j jX a6 af;subst this;rw[ap] at a3; obtain rfl:=Option.some.inj a3;exact .inr ⟨a4,a5⟩
   ·rintro (⟨bM,cR,jX,aX,a6⟩ | ⟨aX,a6⟩)
    ·exact⟨bM,cR,jX,av6 _ aX,a6⟩
    ·exact⟨j,o,x,by simp,af,ap,aX,a6⟩
  unfold eL;by_cases di:o.act.kind=4#8
  ·rw[if_pos di];have:=NM (x:=fV o x) h.Nr ⟨nL,(ar.ops o dD).val⟩;refine⟨by omega,this.1,No (fun r=>?_) (ako h.c1 (XO V ap af di) fun q ⟨bM,cR,jX,aX,a6,a3,a4,a5⟩ e=>?_)⟩
   ·rw[mN r]; exact⟨fun h=>h.imp id fun h=>⟨di,h⟩,fun h=>h.imp id fun h=>h.2⟩
   ·rw[a5] at e;have bF:jX=x:=e;rw[bF] at aX; exact GZ aX
  ·rw[if_neg di];exact⟨by omega,h.Nr,No (fun r=>by rw[mN r]; exact⟨.inl,fun h=>h.elim id fun h=>absurd h.1 di⟩) h.c1⟩
 have az:ib s.c1 o=(oB s.c1 o,0) :=by
  unfold ib;rw[if_pos (XG (by omega) h.c1.lx),if_pos gO,fm,if_neg (by omega)]
 have wj:(s.cr.l.filter (kJ o)++[x]).Nodup:=by
  refine au1.2 ⟨h.aC.sublist avE,by simp,fun p ay q aZ=>?_⟩;rw[aui.1 aZ];exact fun e=>Vh (by rw[<-e]; exact (auS.1 ay).1)
 have Gm:ut s o x=Bh (s.cr.l.filter (kJ o)++[x]) :=NU wj;refine⟨⟨s.dS+1,dE,oB s.c1 o,some (ut s o x)⟩,?_,?_,?_,?_,?_,?_,?_,?_⟩
 ·unfold j6;have aq:=h.dS;rw[if_pos hm,if_neg Vh,if_neg (by omega),sE V af ap,xI V.dO af];unfold xR;rw[x7,pi,az,if_pos rfl,if_pos rfl]
 ·show s.dS+1=_;rw[h.dS,at4]; rfl
 ·rw[at4]; exact j9
 ·show vo _ (oB s.c1 o).l;rw[w7,fm]; exact Lv.2.2
 ·show hI (oB s.c1 o).l;rw[w7,fm]; exact Lv.2.1
 ·show (oB s.c1 o).l.length<=_;rw[w7,fm,at4]; exact Lv.1
 ·show (ut s o x).Pairwise _;rw[Gm]; exact NR AU Hj wj (atW _)
 ·intro y;show y∈ut s o x<->_;rw[Gm,Ep (atW _),aun,aup,auS,aui,h.hm y,avb,decide_eq_false_iff_not];unfold Iz;constructor
  ·rintro (⟨⟨aX,a6⟩,a3⟩ | rfl)
   ·refine⟨av6 _ aX,fun z aw bM ai=>?_⟩;rw[aup,aui] at aw;rcases aw with aw | aw
    ·exact a6 z aw bM ai
    ·subst aw;rw[et bM j z ai af,m1 ap]; exact a3
   ·refine⟨by simp,fun z aw bM ai ay=>?_⟩;rw[aup,aui] at aw;rcases aw with aw | aw
    ·exact GZ (alZ adZ aw ai ay)
    ·subst aw;rw[et bM j z ai af,m1 ap] at ay;exact GZ (af4 z ay)
  ·rintro⟨aX,a6⟩;rw[aup,aui] at aX;rcases aX with aX | aX
   ·exact .inl ⟨⟨aX,fun z aw=>a6 z (av6 _ aw)⟩,by rw[<-m1 ap]; exact a6 x (by simp) j af⟩
   ·exact .inr aX
theorem YK {g:bi} (aE:eK g=0) {l:List (List B)}:∀ {k:Nat},k<=l.length->(∀ i,i<k->ox g l i=true)->jd g (l.take k)
 | 0,_,_=>YJ g
 | k+1,hk,ap=>by
  have V:=my aE;have aI:=YK aE (k:=k) (by omega) fun i av=>ap i (by omega)
  obtain⟨x,af,cC⟩:=bx (l:=l) (k:=k) (by omega);have h1:=ap k (by omega);unfold ox kr at h1;rw[fK af,atY,atY,avb,decide_eq_true_eq,decide_eq_false_iff_not,decide_eq_true_eq] at h1;obtain⟨ad,aj,aF⟩:=h1;obtain⟨j,ai⟩:=atZ.1 ad;obtain⟨o,yv,_⟩:=bx (l:=g.ops.l) (k:=j) (by rw[<-V.len]; exact (atU.1 ai).1);rw[sE V ai yv] at aF;rw[aud,af];exact YL (mu V.dO) aI ai aj (by rw[m1 yv]; exact aF)
theorem aiU {g:bi} (aE:eK g=0) {l:List (List B)} (ce:jd g l) {k:Nat} (hk:k<l.length) :ox g l k=true:=by
 have V:=my aE;obtain⟨x,af,cC⟩:=bx hk;have hm:=ce.sub x cC;obtain⟨j,ai⟩:=atZ.1 hm;obtain⟨o,yv,_⟩:=bx (l:=g.ops.l) (k:=j) (by rw[<-V.len]; exact (atU.1 ai).1);unfold ox kr;rw[fK af,atY,atY,avb,decide_eq_true_eq,decide_eq_false_iff_not,decide_eq_true_eq,sE V ai yv];exact⟨hm,Wt ce.h8 af,fun p ay=>ce.pre k x j af ai p (by rw[m1 yv]; exact ay)⟩
theorem XR {g:bi} (ar:ft g) (aE:eK g=0) {l:List (List B)}:∀ {k:Nat},k<=l.length->(∀ i,i<k->ox g l i=true)->∃ s,gp g l k=(s,0)/\oK g (l.take k) s
 | 0,_,_=>⟨e7,rfl,ac2 g⟩
 | k+1,hk,ap=>by
  obtain⟨s,h1,ad⟩:=XR ar aE (k:=k) (by omega) fun i av=>ap i (by omega)
  obtain⟨x,af,cC⟩:=bx (l:=l) (k:=k) (by omega);have ce:=YK aE hk ap;have e:l.take (k+1)=l.take k++[x] :=by rw[aud,af]; rfl
  rw[e] at ce ⊢;obtain⟨fp,aj,aF⟩:=ac4 ar aE ce ad;refine⟨fp,?_,aF⟩;show (if (gp g l k).2=0 then (if ox g l k=true then j6 (gp g l k).1 g (b2 l k) else (e7,32)) else gp g l k)=_;rw[h1,if_pos rfl,if_pos (ap k (by omega)),fK af]; exact aj
theorem acV {g:bi} (ar:ft g) :tJ (oc g) :=by
 unfold oc;by_cases aE:eK g=0
 ·have V:=my aE;have h1:=aiR ar;have ad:=D6 ar V (atW _);have aC:=V.n60;have al:=V.len;have aQ:(mY g).l=g8 g g.ops.l.length:=by unfold mY; rw[if_pos aE,fq]
  have bF:(m8 g).l=Ag g:=by unfold m8; rw[if_pos aE,fq]
  rw[if_pos aE];refine⟨h1.1,by show hI (mY g).l; rw[aQ]; exact ad.2.1,fun z aw=>ar.ids z ?_,by have:=h1.2; show (qE g).l.length<=_; omega,by show (mY g).l.length<=_; rw[aQ]; have:=ad.2.2; omega,?_⟩
  ·have wB:z∈(m8 g).l:=aw;rw[bF] at wB; exact (auS.1 wB).1
  ·show (m8 g).l.length<=_;rw[bF];have:=avm (Ak g) g.ids.l;unfold Ag; omega
 ·rw[if_neg aE]; exact Wy
structure anC (g:bi) (out:List (List B)) (T:eU) (k:Nat) (ae:a8) (l:ao) :Prop where
 aT:ae 2=.ptr 0 0 2
 bh:ae 5=.bool true
 cd:ae 6=.ptr 1 0 1
 dC:ae 7=.int .i64 0
 dw:ae 8=aR (ew out)
 gL:ae 9=.ptr 2 0 1
 fS:ae 10=.int .i64 k
 ex:∃ s m,l=.cells 2 [aR g.ids,bZ g.ops] ::.cells 1 [dg T] ::.cells 1 [dg s] ::m/\vp g out k s
theorem akr {l:List (List B)} (h:dO l=true) :l.Pairwise fun a b=>iq a b=true:=
 auO.2 fun i j av ai hi=>(wO _ _).2 (y7 h hi (atX av) (atX ai))
theorem aja {l:List (List B)} (h:l.Pairwise fun a b=>iq a b=true) :dO l=true:=Np fun k hk h1=>by
 have ad:=atX hk;have aj:=atX (l:=l) (i:=k - 1) (by omega);rw[fK ad,fK aj];exact (wO _ _).1 ((auO.1 h) (k - 1) k (by omega) hk (by omega))
theorem JQ {g:bi} (ar:ft g) (aE:eK g=0) {D:List (List B)} (ce:jd g D) (al:D.length=g.ids.l.length) {s:cp} (h:oK g D s) :mB s (oc g)=true:=by
 have V:=my aE;have ju:=V.len;have eH:∀ x,x∈g.ids.l->x∈D:=fun x af=>Oe ce al af
 unfold oc;rw[if_pos aE];refine (u9 _ _).2 ⟨?_,alw ar aE ce al h.set,?_,?_⟩
 ·show s.dS=(g.ops.l.length:Int); rw[h.dS]; omega
 ·show s.c1.l=(mY g).l;have e:(mY g).l=g8 g g.ops.l.length:=by unfold mY; rw[if_pos aE,fq]
  rw[e];have ah:∀ q,BC g D q<->∃ j,j<g.ops.l.length/\xe g j/\q=nR g j:=fun q=>by
   unfold xe nR;constructor
   ·rintro⟨j,o,x,aX,a6,a3,a4,a5⟩;exact⟨j,(atU.1 a3).1,by rw[te a3]; exact a4,by rw[te a3,fK a6]; exact a5⟩
   ·rintro⟨j,aX,a6,a3⟩;obtain⟨o,ap,_⟩:=bx aX;obtain⟨x,af,cC⟩:=bx (l:=g.ids.l) (k:=j) (by omega);rw[te ap] at a6;rw[te ap,fK af] at a3;exact⟨j,o,x,eH x cC,af,ap,a6,a3⟩
  refine Er (lt:=k9) (fun a=>u7 a.key) V7 ((CD _).1 h.c1.lx).2 ((CD _).1 (D6 ar V (atW _)).1).2 fun r=>?_
  rw[h.c1.mem,(Xd ar V (atW _)).1];unfold vm xv;rw[ah r];constructor
  ·rintro⟨⟨j,aX,a6,a3⟩,a4⟩;exact⟨j,aX,a6,a3,fun m hm ak hk=>a4 _ ((ah _).2 ⟨m,hm,ak,rfl⟩) hk⟩
  ·rintro⟨j,aX,a6,a3,a4⟩;refine⟨⟨j,aX,a6,a3⟩,fun q aZ hk=>?_⟩;obtain⟨m,hm,ak,rfl⟩:=(ah q).1 aZ;exact a4 m hm ak hk
 ·show s.cr.l=(m8 g).l;have e:(m8 g).l=Ag g:=by unfold m8; rw[if_pos aE,fq]
  rw[e];unfold Ag;refine Er (lt:=iq) Hi AU h.ak ((akr V.dO).sublist avE) fun x=>?_
  rw[h.hm,auS];unfold Iz Ak xT;rw[decide_eq_true_eq];constructor
  ·rintro⟨aX,a6⟩;refine⟨ce.sub x aX,fun j ai ay=>?_⟩;obtain⟨o,ap,_⟩:=bx ai;obtain⟨y,aA,cm⟩:=bx (l:=g.ids.l) (k:=j) (by omega);rw[te ap] at ay;exact a6 y (eH y cm) j aA (by rw[m1 ap]; exact ay)
  ·rintro⟨aX,a6⟩;refine⟨eH x aX,fun y aA j ai ay=>?_⟩;obtain⟨o,ap,_⟩:=bx (l:=g.ops.l) (k:=j) (by have:=(atU.1 ai).1; omega);have:=a6 j (atU.1 ap).1;rw[te ap] at this;rw[m1 ap] at ay;exact this ay
theorem alu {s t:cp} (h:mB s t=true) :xg s=xg t:=by
 obtain⟨h1,ad,aj,aF⟩:=(u9 s t).1 h;unfold xg CE z7;rw[h1,ad,aj,aF]
theorem ac3 {g:bi} {D:List (List B)} (ce:jd g D) (jk:D.length<=60) {s:cp} (h:oK g D s) :xg s=0:=by
 have h1:=h.al;have ad:=h.set.len;have aj:=h.oC;have aq:=h.dS;have bz:s.cr.l.length=0->D.length=0:=fun e=>by
  cases bH:D.getLast? with
  | none=>rw[List.getLast?_eq_none_iff] at bH; rw[bH]; rfl
  | some x=>
   obtain⟨E,eQ⟩:=List.getLast?_eq_some_iff.1 bH;have af:x∈s.cr.l:=(h.hm x).2 ⟨by rw[eQ]; simp,fun y aA j ai ay=>by
    obtain⟨i,av⟩:=atZ.1 aA;have aF:=ce.pre i y j av ai x ay;have c7:=(atU.1 av).1;rw[eQ,at4,List.length_singleton] at c7;rw[eQ,auj (by omega)] at aF;have qm:=ce.h8;rw[eQ] at qm;exact (au1.1 qm).2.2 x (aur aF) x (by simp) rfl⟩
   rw[auE.1 e] at af; cases af
 have kb:CE s=true:=by
  unfold CE z7;rw[Sl (by omega) h.set.lx,XG (by omega) h.c1.lx,aja h.ak];rw[decide_eq_true (by omega:0<=s.dS),decide_eq_true (by omega:s.dS<=60),decide_eq_true (by omega:(s.cr.l.length:Int)<=s.dS)];by_cases e:s.cr.l.length=0
  ·have:=bz e;rw[decide_eq_false (by omega:¬ 0<s.dS)]; simp
  ·rw[decide_eq_false e]; simp
 unfold xg; rw[kb]; rfl
theorem NA {g:bi} (ar:ft g) (aE:eK g=0) {D:List (List B)} (ce:jd g D) (al:D.length=g.ids.l.length) :∃ s,sy g D=(s,0)/\oK g D s:=by
 obtain⟨s,h1,ad⟩:=XR ar aE (atW D.length) fun i av=>aiU aE ce av
 rw[aun] at ad;refine⟨s,?_,ad⟩;unfold sy;rw[if_pos aE,if_pos al,h1]
theorem acW {g:bi} (ar:ft g) (aE:eK g=0) :xg (oc g)=0:=by
 have V:=my aE;obtain⟨D,ce,al,_⟩:=MQ g ar V none;obtain⟨s,_,ad⟩:=NA ar aE ce al;rw[<-alu (JQ ar aE ce al ad)];exact ac3 ce (by have:=V.n60; have:=V.len; omega) ad
theorem YS {ts:List TypeId} {cs:List U} (h:mE Tryz.prog (84::ts) cs) :∃ (s:c6 Int) (cs' : List U),cs=q9 s::cs'/\mE Tryz.prog ts cs':=by
 obtain⟨c,cs',rfl,h1,ad⟩:=YR h;obtain⟨s,xK,ak,_,_,aj⟩:=Oh (e:=3) (z:=1) (enc:=Cj) (Q:=fun _=>True) (by kernel_rfl) (by kernel_rfl) (fun r az=>by
  obtain⟨x,cs',rfl,_,_,aj⟩:=Bq (k:=.i64) (by kernel_rfl) az;rw[Ig aj];exact⟨x,rfl,trivial⟩) (ame (by kernel_rfl) h1)
 cases ak;exact⟨s,cs',rfl,ad⟩
theorem akK {s t u:cp} (h:mB s t=true) (ad:mB t u=true) :mB s u=true:=by
 obtain⟨aX,a6,a3,a4⟩:=(u9 s t).1 h;obtain⟨dW,dB,gg,l3⟩:=(u9 t u).1 ad;exact (u9 s u).2 ⟨aX.trans dW,a6.trans dB,a3.trans gg,a4.trans l3⟩
set_option maxHeartbeats 16000000 in
theorem acX (gG:bw Tryz.prog GS 9 [] (.bool true)) (g:bi) (alW:II g) (p q:c6 Int) :
  cY Tryz.prog GS 8 [cS g,q9 p,q9 q] [] (c:=⟨fun r _=>r=.bool true⟩) :=by
 apply bm Tryz.func8 [[[0],[1],[2],[8],[3,8,0],[4,8],[5],[6],[7]],[[0],[1],[2],[8],[3,8,0],[4,8],[5],[6],[7]]];have dx:=e5 g.ids;have cD:=lu g.ops;have jN:=RK p;have Gd:=RK q;have xV:=ajE g;unfold cS ds at xV;simp[cS,ds];refine a1 gG rfl ?_;simp;refine a1 xV (by simp[bg,U.closed,dx,cD]) ?_;cases aj:v6 g with
 | true=>simp
 | false=>
  have mZ:=aiT alW aj;have dh:=ajD g mZ;unfold cS ds at dh;simp;refine a1 dh (by simp[bg,U.closed,dx,cD]) ?_;by_cases aE:eK g=0
  ·have V:=my aE;have yr:=V.n60;have ju:=V.len;obtain⟨D,ce,al,jk⟩:=MQ g mZ V p;obtain⟨E,wd,g0,eQ⟩:=MQ g mZ V q;obtain⟨s,pi,uC⟩:=NA mZ aE ce al;obtain⟨t,agD,U9⟩:=NA mZ aE wd g0;have cL:=amL g mZ;have og:=Zb g mZ (ew D) (fun z aw=>mZ.ids z (ce.sub z (by rw[fq] at aw; exact aw))) (by rw[fq]; omega);have j8:=Zb g mZ (ew E) (fun z aw=>mZ.ids z (wd.sub z (by rw[fq] at aw; exact aw))) (by rw[fq]; omega);rw[fq,pi] at og;rw[fq,agD] at j8;rw[aE] at cL;have MH:=acV mZ;have MI:=(uC.st mZ ce (by omega)).ok;have aiO:=(U9.st mZ wd (by omega)).ok;have aQ:=JQ mZ aE ce al uC;have bF:=JQ mZ aE wd g0 U9;have dn:=akK aQ (X5 bF);have b6:=amW s (oc g) MI MH;have bJ:=Xs s (oc g) MI MH;have c0:=Xs s t MI aiO;have di:=ajV (oc g) MH;rw[aQ] at b6 bJ;rw[dn] at c0;rw[acW mZ aE] at di;have aeu:=e5 (ew D);have aev:=e5 (ew E);obtain⟨A,wb⟩:∃ A,A=fR (oc g) :=⟨_,rfl⟩
   obtain⟨X,CJ⟩:∃ X,X=fR s:=⟨_,rfl⟩
   obtain⟨C,FQ⟩:∃ C,C=fR t:=⟨_,rfl⟩
   have iV:A.length=4:=by rw[wb]; rfl
   have FP:X.length=4:=by rw[CJ]; rfl
   have nx:C.length=4:=by rw[FQ]; rfl
   have oZ:bg A=true:=by rw[wb]; exact Ca _
   have Ke:bg X=true:=by rw[CJ]; exact Ca _
   have Kg:bg C=true:=by rw[FQ]; exact Ca _
   rw[<-wb] at cL;simp only[<-CJ] at og;simp only[<-FQ] at j8;rw[<-CJ,<-wb] at b6 bJ;rw[<-CJ,<-FQ] at c0;rw[<-wb] at di;unfold cS ds at cL og j8 jk eQ;have js:∀ Z:List U,Z.length=4->bu [U.int .i64 0,.aW,.aW,.aW] 0 Z=Z:=fun Z aw=>fi (by rw[aw]; rfl)
   simp[aE];refine a1 cL (by simp[bg,U.closed,dx,cD]) ?_;simp[iV,js];refine a1 jk (by simp[bg,U.closed,dx,cD,jN]) ?_;simp;refine a1 og (by simp[bg,U.closed,dx,cD,aeu]) ?_;simp[FP,js];refine a1 eQ (by simp[bg,U.closed,dx,cD,Gd]) ?_;simp;refine a1 j8 (by simp[bg,U.closed,dx,cD,aev]) ?_;simp[nx,js,FP,iV,atT];refine a1 b6 (by simp[bg,U.closed,oZ,Ke]) ?_;simp[FP,iV,atT];refine a1 bJ (by simp[bg,U.closed,oZ,Ke]) ?_;simp[FP,nx,atT];refine a1 c0 (by simp[bg,U.closed,Ke,Kg]) ?_;simp[iV,atT];refine a1 di (by simp[bg,U.closed,oZ]) ?_;simp
  ·simp[aE]
end Op

end Go.cb

namespace Go.cb
open Go Go.Proofs
set_option maxRecDepth 1000000
set_option maxHeartbeats 8000000
abbrev VF:List U:=[]
abbrev VL:U:=.bR 11 [[.int .u32 (1024)]++[.bR 32 []]++[.int .u64 (0)]++[.int .u8 2]++[.str [107]]++[.int .u8 0]++[mV (0)]++[.int .u64 (0)]++[.str []]++[.int .u32 (129255048)]++[.int .u32 (399478955)],[.int .u32 (1024)]++[.bR 32 []]++[.int .u64 (0)]++[.int .u8 4]++[.str [107]]++[.int .u8 1]++[mV (7)]++[.int .u64 (0)]++[.str []]++[.int .u32 (245198832)]++[.int .u32 (480132016)],[.int .u32 (1024)]++[.bR 32 [de [139,155,127,40,157,97,234,61,221,237,220,81,93,150,154,229,203,104,132,176,229,187,23,160,167,158,35,130,160,158,225,157],de [198,167,169,49,131,208,119,134,47,60,235,0,68,166,241,20,47,240,141,206,85,173,27,225,253,102,77,118,55,125,153,21]]]++[.int .u64 (0)]++[.int .u8 3]++[.str [107]]++[.int .u8 0]++[mV (0)]++[.int .u64 (0)]++[.str []]++[.int .u32 (182053779)]++[.int .u32 (1858103)]]
theorem ahA:jI Tryz.prog GS 31 VF VL:=
 A9 (P:=Tryz.prog) Tryz.checked.mixed bB (wW (n1.mem (n3 Ee (xC)))) ze (orc:=tf [Be]) (fuel:=100000) (k:=60) (by kernel_rfl)
abbrev VG:List U:=[.aJ ([.int .u32 (1024)]++[.bR 32 []]++[.int .u64 (0)]++[.int .u8 2]++[.str [107]]++[.int .u8 0]++[mV (0)]++[.int .u64 (0)]++[.str []]++[.int .u32 (129255048)]++[.int .u32 (399478955)])]
abbrev VM:U:=mV (0)
theorem ahB:jI Tryz.prog GS 39 VG VM:=
 A9 (P:=Tryz.prog) Tryz.checked.mixed bB (wW (n1.mem (n3 Ee (xC)))) ze (orc:=tf [Be]) (fuel:=100000) (k:=60) (by kernel_rfl)
abbrev VH:List U:=[.aJ ([.int .u32 (1024)]++[.bR 32 []]++[.int .u64 (0)]++[.int .u8 4]++[.str [107]]++[.int .u8 1]++[mV (7)]++[.int .u64 (0)]++[.str []]++[.int .u32 (245198832)]++[.int .u32 (480132016)])]
abbrev VN:U:=mV (0)
theorem ahC:jI Tryz.prog GS 39 VH VN:=
 A9 (P:=Tryz.prog) Tryz.checked.mixed bB (wW (n1.mem (n3 Ee (xC)))) ze (orc:=tf [Be]) (fuel:=100000) (k:=60) (by kernel_rfl)
abbrev VI:List U:=[.aJ ([.int .u32 (1024)]++[.bR 32 [de [139,155,127,40,157,97,234,61,221,237,220,81,93,150,154,229,203,104,132,176,229,187,23,160,167,158,35,130,160,158,225,157],de [198,167,169,49,131,208,119,134,47,60,235,0,68,166,241,20,47,240,141,206,85,173,27,225,253,102,77,118,55,125,153,21]]]++[.int .u64 (0)]++[.int .u8 3]++[.str [107]]++[.int .u8 0]++[mV (0)]++[.int .u64 (0)]++[.str []]++[.int .u32 (182053779)]++[.int .u32 (1858103)])]
abbrev VO:U:=mV (0)
theorem ahD:jI Tryz.prog GS 39 VI VO:=
 A9 (P:=Tryz.prog) Tryz.checked.mixed bB (wW (n1.mem (n3 Ee (xC)))) ze (orc:=tf [Be]) (fuel:=100000) (k:=60) (by kernel_rfl)
abbrev VJ:List U:=[.aJ ([.bR 32 [de [139,155,127,40,157,97,234,61,221,237,220,81,93,150,154,229,203,104,132,176,229,187,23,160,167,158,35,130,160,158,225,157],de [198,167,169,49,131,208,119,134,47,60,235,0,68,166,241,20,47,240,141,206,85,173,27,225,253,102,77,118,55,125,153,21]]]++[.bR 11 [[.int .u32 (1024)]++[.bR 32 []]++[.int .u64 (0)]++[.int .u8 2]++[.str [107]]++[.int .u8 0]++[mV (0)]++[.int .u64 (0)]++[.str []]++[.int .u32 (129255048)]++[.int .u32 (399478955)],[.int .u32 (1024)]++[.bR 32 []]++[.int .u64 (0)]++[.int .u8 4]++[.str [107]]++[.int .u8 1]++[mV (7)]++[.int .u64 (0)]++[.str []]++[.int .u32 (245198832)]++[.int .u32 (480132016)]]])]
abbrev VP:U:=mV (0)
theorem ahE:jI Tryz.prog GS 52 VJ VP:=
 A9 (P:=Tryz.prog) Tryz.checked.mixed bB (wW (n1.mem (n3 WT (n3 Yx (n3 W6 (xC)))))) ze (orc:=tf [MY,lg,M3]) (fuel:=100000) (k:=60) (by kernel_rfl)
abbrev VK:List U:=[.aJ ([.bR 32 [de [19,192,83,140,11,154,95,228,143,182,229,182,185,39,203,208,159,174,42,110,68,131,221,11,111,210,177,169,5,229,204,24],de [139,155,127,40,157,97,234,61,221,237,220,81,93,150,154,229,203,104,132,176,229,187,23,160,167,158,35,130,160,158,225,157],de [198,167,169,49,131,208,119,134,47,60,235,0,68,166,241,20,47,240,141,206,85,173,27,225,253,102,77,118,55,125,153,21]]]++[.bR 11 [[.int .u32 (1024)]++[.bR 32 [de [139,155,127,40,157,97,234,61,221,237,220,81,93,150,154,229,203,104,132,176,229,187,23,160,167,158,35,130,160,158,225,157],de [198,167,169,49,131,208,119,134,47,60,235,0,68,166,241,20,47,240,141,206,85,173,27,225,253,102,77,118,55,125,153,21]]]++[.int .u64 (0)]++[.int .u8 3]++[.str [107]]++[.int .u8 0]++[mV (0)]++[.int .u64 (0)]++[.str []]++[.int .u32 (182053779)]++[.int .u32 (1858103)],[.int .u32 (1024)]++[.bR 32 []]++[.int .u64 (0)]++[.int .u8 2]++[.str [107]]++[.int .u8 0]++[mV (0)]++[.int .u64 (0)]++[.str []]++[.int .u32 (129255048)]++[.int .u32 (399478955)],[.int .u32 (1024)]++[.bR 32 []]++[.int .u64 (0)]++[.int .u8 4]++[.str [107]]++[.int .u8 1]++[mV (7)]++[.int .u64 (0)]++[.str []]++[.int .u32 (245198832)]++[.int .u32 (480132016)]]])]
abbrev VQ:U:=mV (0)
theorem ahF:jI Tryz.prog GS 52 VK VQ:=
 A9 (P:=Tryz.prog) Tryz.checked.mixed bB (wW (n1.mem (n3 WT (n3 Yx (n3 W6 (xC)))))) ze (orc:=tf [MY,lg,M3]) (fuel:=100000) (k:=60) (by kernel_rfl)
theorem ahG:cY Tryz.prog GS 9 [] [] (c:=⟨fun r _=>r=.bool true⟩) :=
 aa2 (wW (n1.mem (n3 Ee (n3 (HH (zz ahE (zz ahF (IV)))) (n3 (HH (zz ahB (zz ahC (zz ahD (IV))))) (n3 (HH (zz ahA (IV))) (xC))))))) ze (orc:=tf [Be,(52,true,A6 [(VJ,VP),(VK,VQ)]),(39,true,A6 [(VG,VM),(VH,VN),(VI,VO)]),(31,true,A6 [(VF,VL)])]) (fuel:=100000) (k:=60) (by kernel_rfl)
theorem Z9:bw Tryz.prog GS 9 [] (.bool true) :=
 bK Tryz.checked.mixed bB (by
  obtain⟨r,l,h1,ad,aj⟩:=ahG;exact⟨r,l,h1,ad,aK aj rfl⟩)
end Go.cb

/-
  The canonical machine, part N: a region that draws its order.
-/
import Derived.Test.YtdjbnhgdhambnaaGreatDoorDc
import Derived.ProofKit
set_option linter.unusedVariables false
set_option linter.unusedSimpArgs false
set_option linter.unnecessarySimpa false
namespace Go.CM
open Go
section
variable {P : Program} {G : Nat → CV}
theorem writer_some {ops : Array Oper} {t i : Nat} (h : writer ops t = some i) : ∃ o, ops[i]? = some o ∧ o.dst = some t := by
 unfold writer at h
 have := List.find?_some h
 cases ho : ops[i]? with
 | none => simp [ho] at this
 | some o => exact ⟨o, rfl, by simpa [ho] using this⟩
def slotsAt (ops : Array Oper) (val σ : Nat → CV) (listed : Array Bool) : Nat → CV := fun t =>
 match writer ops t with
 | some i => if listed.getD i false then val i else σ t
 | none => σ t
theorem down_chain {ops : Array Oper} {pre : Nat → Nat → Bool} (txt : DrawText ops pre) {listed : Array Bool}
  (down : ∀ (i : Nat) (o : Oper) (e : Edge), ops[i]? = some o → listed.getD i false = true → e ∈ o.after → Region.binds .any e = true → listed.getD e.on false = true)
  (hin : ∀ i, listed.getD i false = true → ∃ o, ops[i]? = some o) : ∀ (i : Nat), listed.getD i false = true → ∀ j, pre i j = true → listed.getD j false = true := by
 intro i
 induction i using Nat.strongRecOn with
 | _ i ih =>
  intro hi j hj
  obtain ⟨o, ho⟩ := hin i hi
  obtain ⟨e, he, hb, hej⟩ := txt.chain i o j ho hj
  have hle := down i o e ho hi he hb
  rcases hej with rfl | hej
  ·exact hle
  ·exact ih e.on (txt.edge i o e ho he hb) hle j hej
theorem getD_set (listed : Array Bool) (i j : Nat) (hi : i < listed.size) : (listed.setIfInBounds i true).getD j false = if j = i then true else listed.getD j false := by
 rw [Array.getD_eq_getD_getElem?, Array.getElem?_setIfInBounds]
 by_cases h : i = j
 ·subst h; simp [hi]
 ·rw [if_neg h, if_neg (Ne.symm h), Array.getD_eq_getD_getElem?]
theorem slots_put {ops : Array Oper} {pre : Nat → Nat → Bool} (txt : DrawText ops pre) {val σ : Nat → CV} {listed : Array Bool} {i : Nat} {o : Oper} (ho : ops[i]? = some o) (hi : i < listed.size) :
  slotsAt ops val σ (listed.setIfInBounds i true) = putC (slotsAt ops val σ listed) o.dst (val i) := by
 funext t
 unfold slotsAt putC
 cases hd : o.dst with
 | none =>
  simp only
  cases hw : writer ops t with
  | none => rfl
  | some j =>
   have hne : j ≠ i := fun hh => by
    obtain ⟨o', ho', hd'⟩ := writer_some hw
    rw [hh, ho] at ho'; cases ho'
    rw [hd] at hd'; cases hd'
   simp only [getD_set _ _ _ hi, if_neg hne]
 | some d =>
  simp only
  by_cases ht : t = d
  ·subst ht
   rw [txt.one i o t ho hd]
   simp [getD_set _ _ _ hi]
  ·rw [fupd_ne _ _ _ _ ht]
   cases hw : writer ops t with
   | none => rfl
   | some j =>
    have hne : j ≠ i := fun hh => by
     obtain ⟨o', ho', hd'⟩ := writer_some hw
     rw [hh, ho] at ho'; cases ho'
     rw [hd] at hd'; cases hd'
     exact ht rfl
    simp only [getD_set _ _ _ hi, if_neg hne]
structure Inv (P : Program) (ops : Array Oper) (val σ : Nat → CV) (W : Nat → Bool) (cls : Nat → Cls) (m : Nat) (hs : Nat → Nat) (Hk : Nat → Hp) (bid : Nat → Nat) (N : Nat)
  (R : Nat → Prop) (B : Nat) (w0 : World) (h : Hp) (μ0 : Mu) (listed : Array Bool) (k : Nat) (a : Act) (w : World) (μ : Mu) : Prop where
 size : listed.size = ops.size
 down : ∀ (i : Nat) (o : Oper) (e : Edge), ops[i]? = some o → listed.getD i false = true → e ∈ o.after → Region.binds .any e = true → listed.getD e.on false = true
 km : k ≤ m
 done : ∀ q, q < m → (listed.getD (hs q) false = true ↔ q < k)
 ext : Ext0 w0 h μ0 w (Hk k) μ
 unm : ∀ b, b < h.n → μ0 b = none → μ b = none
 rel : Rel R B w (Hk k) μ
 slots : SR N w R (Hk k) μ (slotsAt ops val σ listed) a
 phantom : ∀ (i : Nat) (o : Oper), ops[i]? = some o → W i = true → cls i = .new → listed.getD i false = false → μ (bid i) = none
theorem listed_in {ops : Array Oper} {listed : Array Bool} (hsz : listed.size = ops.size) (i : Nat) (hi : listed.getD i false = true) : ∃ o, ops[i]? = some o := by
 have : i < ops.size := by
  rcases Nat.lt_or_ge i listed.size with h1 | h1
  ·omega
  ·simp [Array.getD_eq_getD_getElem?, Array.getElem?_eq_none h1] at hi
 exact ⟨ops[i], by simp [this]⟩
theorem all_listed {ops : Array Oper} {pre : Nat → Nat → Bool} (txt : DrawText ops pre) {listed : Array Bool} (hsz : listed.size = ops.size) (hr : Region.ready .any ops listed = []) : ∀ i, i < ops.size → listed.getD i false = true := by
 intro i
 induction i using Nat.strongRecOn with
 | _ i ih =>
  intro hi
  cases hl : listed.getD i false with
  | true => rfl
  | false =>
   exfalso
   have hmem : i ∈ Region.ready .any ops listed := by
    refine mem_ready.2 ⟨?_, ops[i], by simp [hi], fun e he hb => ih e.on (txt.edge i ops[i] e (by simp [hi]) he hb) (by
     have := txt.edge i ops[i] e (by simp [hi]) he hb
     omega)⟩
    have hlt : i < listed.size := by omega
    simpa [Array.getD_eq_getD_getElem?, hlt] using hl
   rw [hr] at hmem
   cases hmem
theorem draw_sound (hmix : P.follows .mixedOrders = true) (hG : ∀ g, (G g).closed = true) : DrawSound P G := by
 intro id ops N σ h σ' h' pre val W cls m hs Hk H1 bid cells txt hdst h0 hm hσ heff heff' hord hinj hwant hskip hpure hnew hbid hbid' hgrow hcall
 refine ⟨0, fun R B w0 μ0 a0 Q rel0 g0 s0 kk => wp_region_any hmix ?_⟩
 obtain ⟨e0, rel1⟩ := rel_below rel0 ⟨(RowKit.Below.refl w0.heap.size w0).drew, Nat.le_succ _⟩
 obtain ⟨e1, rel2⟩ := h0.rel rel1
 have e01 := e0.trans e1
 -- the end
 have fin : ∀ (listed : Array Bool) (k : Nat) (a : Act) (w : World) (μ : Mu), Inv P ops val σ W cls m hs Hk bid N R B w0 h μ0 listed k a w μ → (∀ i, i < ops.size → listed.getD i false = true) → Q .normal a w := by
  intro listed k a w μ inv hall
  have hk : k = m := by
   rcases Nat.lt_or_ge k m with hlt | hge
   ·obtain ⟨o, ho, _⟩ := heff' k hlt
    have hl := hall (hs k) ((Array.getElem?_eq_some_iff.1 ho).1)
    have := (inv.done k hlt).1 hl
    omega
   ·have := inv.km; omega
  subst hk
  have hslots : slotsAt ops val σ listed = σ' := by
   rw [hσ]
   funext t
   unfold slotsAt
   cases hw : writer ops t with
   | none => rfl
   | some i =>
    obtain ⟨o, ho, _⟩ := writer_some hw
    simp only [hall i ((Array.getElem?_eq_some_iff.1 ho).1), if_true]
  subst hm
  have hsl := inv.slots
  rw [hslots] at hsl
  exact kk a w μ ⟨inv.ext, inv.unm⟩ inv.rel hsl
 have key : ∀ (fuel : Nat) (listed : Array Bool) (k : Nat) (a : Act) (w : World) (μ : Mu), Inv P ops val σ W cls m hs Hk bid N R B w0 h μ0 listed k a w μ → listed.toList.count false = fuel → wpAny P .any ops Q fuel listed a w := by
  intro fuel
  induction fuel with
  | zero =>
   intro listed k a w μ inv hcount
   have hall : ∀ i, i < ops.size → listed.getD i false = true := by
    intro i hi
    have hlt : i < listed.size := by rw [inv.size]; exact hi
    cases hl : listed[i] with
    | true => simp [Array.getD_eq_getD_getElem?, hlt, hl]
    | false =>
     exfalso
     have hmem : false ∈ listed.toList := by rw [← hl]; simp
     have := List.count_pos_iff.2 hmem
     omega
   refine ⟨?_, fin listed k a w μ inv hall⟩
   cases hr : Region.ready .any ops listed with
   | nil => rfl
   | cons i l =>
    exfalso
    have hmem : i ∈ Region.ready .any ops listed := by rw [hr]; simp
    obtain ⟨h1, o, ho, _⟩ := mem_ready.1 hmem
    have hi := (Array.getElem?_eq_some_iff.1 ho).1
    have h2 := hall i hi
    have hlt : i < listed.size := by rw [inv.size]; exact hi
    simp [Array.getD_eq_getD_getElem?, hlt] at h1 h2
    rw [h1] at h2; cases h2
  | succ fuel ih =>
   intro listed k a w μ inv hcount
   refine ⟨fun hr => fin listed k a w μ inv (all_listed txt inv.size hr), fun i hi => ?_⟩
   obtain ⟨h1, o, ho, hedges⟩ := mem_ready.1 hi
   have hlt : i < listed.size := by rw [inv.size]; exact (Array.getElem?_eq_some_iff.1 ho).1
   have hnl : listed.getD i false = false := by simpa [Array.getD_eq_getD_getElem?, hlt] using h1
   have hD := down_chain txt inv.down (listed_in inv.size)
   -- what comes before i is done
   have hprei : ∀ j, pre i j = true → listed.getD j false = true := by
    intro j hj
    obtain ⟨e, he, hb, hej⟩ := txt.chain i o j ho hj
    have hle := hedges e he hb
    rcases hej with rfl | hej
    ·exact hle
    ·exact hD e.on hle j hej
   have hpost : ∀ j, listed.getD j false = true → pre j i = true → False := fun j hj hp => by
    have := hD j hj i hp
    rw [hnl] at this; cases this
   have hfeas : feas pre m hs i k := ⟨inv.km, fun q hq hp => (inv.done q hq).1 (hprei _ hp), fun q hq hp => by
    rcases Nat.lt_or_ge q k with hlt' | hge
    ·exact (hpost _ ((inv.done q hq).2 hlt') hp).elim
    ·exact hge⟩
   -- what i sees
   have henv : ∀ t, VR w R (Hk k) μ (envOf ops pre val σ i o t) (a.tmps.getD t undef) := by
    intro t
    unfold envOf
    split
    ·rename_i ht
     have ht' : t ∈ o.looksAt ops := by simpa using ht
     have hv := inv.slots.val t
     unfold slotsAt at hv
     cases hw : writer ops t with
     | none => rw [hw] at hv; exact hv
     | some j =>
      rw [hw] at hv
      simp only at hv ⊢
      by_cases hp : pre i j = true
      ·rw [if_pos hp]
       rw [if_pos (hprei j hp)] at hv
       exact hv
      ·rw [if_neg hp]
       have hnj : listed.getD j false = false := by
        rcases txt.acc i o t j ho ht' hw with hh | hh | rfl
        ·exact absurd hh hp
        ·cases hlj : listed.getD j false with
         | false => rfl
         | true => exact (hpost j hlj hh).elim
        ·exact hnl
       rw [hnj] at hv
       exact hv
    ·exact .bad _
   have hgok : Gok G w R (Hk k) μ := fun g => ⟨hG g, (g0 g).2.ext0 inv.ext⟩
   have hρ : ∀ x, VR w R (Hk k) μ (ev G (envOf ops pre val σ i o) x) (a.eval x) := by
    intro x
    cases x with
    | tmp t => exact henv t
    | const v => exact VR.ofV v
    | global g => exact (hgok g).2
    | func f => exact .fn f [] [] #[] #[] rfl rfl (fun _ _ _ hh => by simp at hh) (fun _ _ _ hh => by simp at hh)
   have hwanted := wanted_ok (w := w) (R := R) (h := Hk k) (μ := μ) (tmps := a.tmps) (hwant i o ho) (fun d _ => henv d)
   have hcount' : (listed.setIfInBounds i true).toList.count false = fuel := by
    have hb : listed.toList[i]'(by simpa using hlt) = false := by
     have : listed[i] = false := by simpa [Array.getD_eq_getD_getElem?, hlt] using h1
     simpa using this
    rw [Array.toList_setIfInBounds, List.count_set (by simpa using hlt)]
    simp [hb, hcount]
   have hsize' : (listed.setIfInBounds i true).size = ops.size := by simp [inv.size]
   have hdown' : ∀ (j : Nat) (o' : Oper) (e : Edge), ops[j]? = some o' → (listed.setIfInBounds i true).getD j false = true → e ∈ o'.after → Region.binds .any e = true → (listed.setIfInBounds i true).getD e.on false = true := by
    intro j o' e ho' hj he hb
    rw [getD_set _ _ _ hlt] at hj ⊢
    by_cases hji : j = i
    ·subst hji
     rw [ho] at ho'; cases ho'
     rw [hedges e he hb]; split <;> rfl
    ·rw [if_neg hji] at hj
     rw [inv.down j o' e ho' hj he hb]; split <;> rfl
   -- the next state, when no block of others' is turned
   have hsame : (W i = true → cls i ≠ .eff) → ∀ q, q < m → ((listed.setIfInBounds i true).getD (hs q) false = true ↔ q < k) := by
    intro hne q hq
    obtain ⟨o', ho', hW, hc⟩ := heff' q hq
    have : hs q ≠ i := fun hh => by
     rw [hh] at hW hc
     exact hne hW hc
    rw [getD_set _ _ _ hlt, if_neg this]
    exact inv.done q hq
   have hph : ∀ (j : Nat), (listed.setIfInBounds i true).getD j false = false → j ≠ i ∧ listed.getD j false = false := by
    intro j hj
    rw [getD_set _ _ _ hlt] at hj
    by_cases hji : j = i
    ·rw [if_pos hji] at hj; cases hj
    ·rw [if_neg hji] at hj; exact ⟨hji, hj⟩
   unfold wpOp
   simp only [ho]
   cases hW : W i with
   | false =>
    rw [hwanted, hW]
    simp only [Bool.false_eq_true, if_false]
    refine ih _ k _ w μ ⟨hsize', hdown', inv.km, hsame (fun hh => by rw [hW] at hh; cases hh), inv.ext, inv.unm, inv.rel, ?_, fun j o' ho' hWj hcj hj => inv.phantom j o' ho' hWj hcj (hph j hj).2⟩ hcount'
    rw [slots_put txt ho hlt]
    exact inv.slots.put (hdst i o ho) (by rw [hskip i o ho hW]; exact undef_ok)
   | true =>
    rw [hwanted, hW]
    simp only [if_true]
    left
    cases hc : cls i with
    | pure =>
     have hst := hpure i o ho hW hc k hfeas
     obtain ⟨v, w', μ', hr, e, r, hv⟩ := step_ok (P := P) inv.rel hρ o hst
     have hnext : wpAny P .any ops Q fuel (listed.setIfInBounds i true) (a.put o.dst v) w' := by
      refine ih _ k _ w' μ' ⟨hsize', hdown', inv.km, hsame (fun _ hh => by rw [hc] at hh; cases hh), inv.ext.trans e.toExt0, fun b hb hm0 => e.unm b (Nat.lt_of_lt_of_le hb inv.ext.n) (inv.unm b hb hm0), r, ?_, fun j o' ho' hWj hcj hj => ?_⟩ hcount'
      ·rw [slots_put txt ho hlt]
       exact (inv.slots.ext e).put (hdst i o ho) hv
      ·have hn := inv.phantom j o' ho' hWj hcj (hph j hj).2
       rcases Nat.lt_or_ge (bid j) (Hk k).n with hb | hb
       ·exact e.unm _ hb hn
       ·exact r.mu _ hb
     unfold Oper.wp
     rcases hr with hr | ⟨hr, rfl⟩
     ·rw [hr]; exact hnext
     ·rw [hr]; exact hnext
    | new =>
     obtain ⟨mk, hn, hval, hbn, hblk⟩ := hnew i o ho hW hc
     obtain ⟨v, arr, t, hr, hrow, hmk⟩ := new_ok (P := P) hρ o hn
     have hbk := hblk k hfeas
     have hbnone := inv.phantom i o ho hW hc hnl
     have hblt : bid i < (Hk k).n := by
      rcases Nat.lt_or_ge (bid i) (Hk k).n with hb | hb
      ·exact hb
      ·rw [inv.rel.fresh _ hb] at hbk; cases hbk
     have hother : ∀ b mm, μ b = some mm → b ≠ bid i := fun b mm hb hh => by rw [hh, hbnone] at hb; cases hb
     have e : Ext0 w (Hk k) μ (w.alloc (.cells arr t)) (Hk k) (fupd μ (bid i) (some ⟨w.heap.size, 0, arr.size⟩)) := by
      refine ⟨rfl, rfl, rfl, by simp, fun x hx _ => ?_, ?_, fun b sz cs mm hb hm => .inl ⟨cs, hb, by rw [fupd_ne _ _ _ _ (hother b mm hm)]; exact hm⟩, fun _ _ hg => hg, fun b k mm hb hm => ⟨hb, by rw [fupd_ne _ _ _ _ (hother b mm hm)]; exact hm⟩, Nat.le_refl _, Nat.le_refl _⟩
      ·exact RowKit.Below.heap_alloc w _ x hx
      ·rintro x ⟨b, mm, hl, hm, rfl⟩
       by_cases hb : b = bid i
       ·subst hb; simp at hm; subst hm; exact .inr (Nat.le_refl _)
       ·rw [fupd_ne _ _ _ _ hb] at hm
        exact .inl ⟨b, mm, hl, hm, rfl⟩
     have r : Rel R B (w.alloc (.cells arr t)) (Hk k) (fupd μ (bid i) (some ⟨w.heap.size, 0, arr.size⟩)) := by
      refine inv.rel.upd e (bid i) (fun b hb hl => ⟨rfl, fupd_ne _ _ _ _ hb, fun mm hm => RowKit.Below.heap_alloc w _ _ (inv.rel.lt hl hm)⟩) (fun mm hm => ?_) (fun b mm mm' hb hl _ hm hm' => ?_) (fun mm _ hm => ?_) inv.rel.fresh (fun b hb => ?_)
      ·simp at hm; subst hm
       rw [hbk]
       refine ⟨rfl, by simp [hrow.1], arr, t, (0, 0), heap_alloc_new w _, rfl, .inl rfl, fun j c hj => ?_⟩
       obtain ⟨u, a1, a2, a3⟩ := hrow.2 j c hj
       exact ⟨u, by simpa using a1, a2, a3.ext0 e⟩
      ·simp at hm'; subst hm'
       have := inv.rel.lt hl hm
       simp only [ne_eq]; omega
      ·simp at hm; subst hm
       exact inv.rel.size
      ·rw [fupd_ne _ _ _ _ (by omega)]
       exact inv.rel.mu b hb
     have hv : VR (w.alloc (.cells arr t)) R (Hk k) (fupd μ (bid i) (some ⟨w.heap.size, 0, arr.size⟩)) (val i) v := by
      rw [hval]
      exact hmk _ _ _ _ _ hbk (by simp)
     unfold Oper.wp
     rw [hr]
     refine ih _ k _ _ _ ⟨hsize', hdown', inv.km, hsame (fun _ hh => by rw [hc] at hh; cases hh), inv.ext.trans e, fun b hb hm0 => by rw [fupd_ne _ _ _ _ (by omega)]; exact inv.unm b hb hm0, r, ?_, fun j o' ho' hWj hcj hj => ?_⟩ hcount'
     ·rw [slots_put txt ho hlt]
      have hs0 : SR N (w.alloc (.cells arr t)) R (Hk k) (fupd μ (bid i) (some ⟨w.heap.size, 0, arr.size⟩)) (slotsAt ops val σ listed) a := ⟨inv.slots.size, inv.slots.defers, fun t' => (inv.slots.val t').ext0 e⟩
      exact hs0.put (hdst i o ho) hv
     ·obtain ⟨hji, hlj⟩ := hph j hj
      rw [fupd_ne _ _ _ _ (fun hh => hji (hbid j i o' o ho' ho hWj hW hcj hc hh))]
      exact inv.phantom j o' ho' hWj hcj hlj
    | eff =>
     obtain ⟨q, hq, rfl⟩ := heff i o ho hW hc
     have hqk : q = k := by
      have h2 : ¬ q < k := fun hh => by
       have := (inv.done q hq).2 hh
       rw [hnl] at this; cases this
      rcases Nat.lt_or_ge k q with hlt' | hge
      ·have hkm : k < m := by omega
       have := hprei (hs k) (hord k q hkm hq hlt')
       have := (inv.done k hkm).1 this
       omega
      ·omega
     subst hqk
     refine hcall q o hq ho R B w μ a o _ Q rfl inv.rel hgok hρ fun v w' μ' e r hv => ?_
     obtain ⟨e2, r2⟩ := (hgrow q hq).rel r
     have e3 := e.trans e2
     refine ih _ (q + 1) _ w' μ' ⟨hsize', hdown', by omega, fun q' hq' => ?_, inv.ext.trans e3.toExt0, fun b hb hm0 => e3.unm b (Nat.lt_of_lt_of_le hb inv.ext.n) (inv.unm b hb hm0), r2, ?_, fun j o' ho' hWj hcj hj => ?_⟩ hcount'
     ·rw [getD_set _ _ _ hlt]
      by_cases hqq : q' = q
      ·subst hqq; simp
      ·rw [if_neg (fun hh => hqq (hinj q' q hq' hq hh)), inv.done q' hq']
       omega
     ·rw [slots_put txt ho hlt]
      exact (inv.slots.ext e3).put (hdst _ o ho) (hv.ext e2)
     ·have hn := inv.phantom j o' ho' hWj hcj (hph j hj).2
      rcases hbid' j o' q ho' hWj hcj hq with hb | hb
      ·exact e.unm _ hb hn
      ·exact r.mu _ hb
 have hinit : Inv P ops val σ W cls m hs Hk bid N R B w0 h μ0 (Array.replicate ops.size false) 0 a0 w0.drew μ0 := by
  have hf : ∀ i, (Array.replicate ops.size false).getD i false = false := by
   intro i
   rw [Array.getD_eq_getD_getElem?, Array.getElem?_replicate]
   split <;> rfl
  refine ⟨by simp, (fun i o e _ hi _ _ => by rw [hf] at hi; cases hi), Nat.zero_le _, (fun q hq => by rw [hf]; simp), e01.toExt0, fun b hb hm0 => hm0, rel2, ?_, fun i o ho hW hc _ => ?_⟩
  ·have hsl : slotsAt ops val σ (Array.replicate ops.size false) = σ := by
    funext t
    unfold slotsAt
    cases hw : writer ops t with
    | none => rfl
    | some i => simp only [hf]; simp
   rw [hsl]
   exact s0.ext e01
  ·obtain ⟨mk, hn, hval, hbn, hblk⟩ := hnew i o ho hW hc
   exact rel0.mu _ hbn
 exact key _ _ 0 a0 w0.drew μ0 hinit (by simp)
theorem sound (hmix : P.follows .mixedOrders = true) (hG : ∀ g, (G g).closed = true) {j : J} (hj : Ev P G j) : Sound P G j := sound_of (draw_sound hmix hG) hj
end
section
variable {P : Program} {G : Nat → CV}
theorem partsC_congr {ρ ρ' : Operand → CV} (ps : Array (Nat × Operand)) (h : ∀ x ∈ (ps.toList.map (·.2)), ρ x = ρ' x) : (ps.toList.map fun p => (p.1, ρ p.2)) = (ps.toList.map fun p => (p.1, ρ' p.2)) :=
 List.map_congr_left fun p hp => by rw [h p.2 (List.mem_map.2 ⟨p, hp, rfl⟩)]
theorem mapC_congr {ρ ρ' : Operand → CV} (xs : Array Operand) (h : ∀ x ∈ xs, ρ x = ρ' x) : xs.toList.map ρ = xs.toList.map ρ' :=
 List.map_congr_left fun x hx => h x (by simpa using hx)
theorem optC_congr {ρ ρ' : Operand → CV} (o : Option Operand) (h : ∀ x ∈ o.toArray, ρ x = ρ' x) : o.map ρ = o.map ρ' := by
 cases o with
 | none => rfl
 | some x => simp [h x (by simp)]
theorem stepC_congr {ρ ρ' : Operand → CV} (h : Hp) (op : Op) (hx : ∀ x ∈ op.operands, ρ x = ρ' x) : stepC P h ρ op = stepC P h ρ' op := by
 cases op <;> simp only [Op.operands] at hx <;> try rfl
 case build t ps => simp only [stepC]; rw [partsC_congr ps (fun x hm => hx x (by simpa using hm))]
 case buildSlice t n ps => simp only [stepC]; rw [partsC_congr ps (fun x hm => hx x (by simpa using hm))]
 case makeFunc fn first captured =>
  cases fn <;> simp only [stepC]
  rw [mapC_congr first (fun x hm => hx x (by simp [hm])), mapC_congr captured (fun x hm => hx x (by simp [hm]))]
 case slice t x lo hi mx =>
  simp only [stepC]
  rw [hx x (by simp), optC_congr lo (fun y hm => hx y (by simp at hm ⊢; simp [hm])), optC_congr hi (fun y hm => hx y (by simp at hm ⊢; simp [hm])), optC_congr mx (fun y hm => hx y (by simp at hm ⊢; simp [hm]))]
 case call c =>
  have ha : c.args.toList.map ρ = c.args.toList.map ρ' := mapC_congr c.args (fun x hm => hx x (by simp [Call.operands, hm]))
  simp only [stepC, callC, ha]
  cases hc : c.callee with
  | value f => dsimp only; rw [hx f (by simp [Call.operands, hc])]
  | invoke x name => dsimp only; rw [hx x (by simp [Call.operands, hc])]
  | _ => rfl
 case makeMap t r =>
  cases r with
  | none => rfl
  | some x => simp only [stepC]; rw [hx x (by simp)]
 case next it b =>
  cases b with
  | false => rfl
  | true => simp only [stepC]; rw [hx it (by simp)]
 all_goals (simp only [stepC]; simp_all)
theorem newC_congr {ρ ρ' : Operand → CV} (op : Op) (hx : ∀ x ∈ op.operands, ρ x = ρ' x) : newC P ρ op = newC P ρ' op := by
 cases op <;> simp only [Op.operands] at hx <;> try rfl
 case box t x => simp only [newC]; rw [hx x (by simp)]
 case buildSlice t n ps => simp only [newC]; rw [partsC_congr ps (fun x hm => hx x (by simpa using hm))]
 case makeSlice t l c => simp only [newC]; rw [hx l (by simp), hx c (by simp)]
theorem evOp_congr {σ σ' : Nat → CV} {h h' : Hp} {v : CV} {op : Op} (hx : ∀ x ∈ op.operands, ev G σ x = ev G σ' x) (he : Ev P G (.op op σ h v h')) : Ev P G (.op op σ' h v h') := by
 generalize hj : J.op op σ h v h' = j at he
 induction he generalizing v h' <;> cases hj
 case opVal hs => exact .opVal (by rw [← stepC_congr h op hx]; exact hs)
 case opCall => exact .opCall (by rw [← stepC_congr h op hx]; assumption) (by assumption)
 case wkOp => exact .wkOp (by first | (rename_i ih; exact ih rfl) | (rename_i ih _; exact ih rfl) | (rename_i ih _ _; exact ih rfl)) (by assumption) (by assumption)
inductive TS where
 | skip (i : Nat)
 | pure (i : Nat) (v : CV)
 | new (i : Nat) (v : CV) (cs : List CV)
 | eff (i : Nat) (v : CV) (h1 : Hp)
def TS.idx : TS → Nat
 | .skip i | .pure i _ | .new i _ _ | .eff i _ _ => i
def TS.val : TS → CV
 | .skip _ => undefC
 | .pure _ v | .new _ v _ | .eff _ v _ => v
def TS.isEff : TS → Bool
 | .eff .. => true
 | _ => false
def TS.isSkip : TS → Bool
 | .skip _ => true
 | _ => false
def TS.cls : TS → Cls
 | .skip _ | .pure .. => .pure
 | .new .. => .new
 | .eff .. => .eff
def TS.cs : TS → List CV
 | .new _ _ cs => cs
 | _ => []
structure S2 where
 σ : Nat → CV
 h : Hp
def dstOf (ops : Array Oper) (i : Nat) : Option Tmp := (ops[i]?).bind (·.dst)
def nextH (h : Hp) : TS → Hp
 | .skip _ | .pure .. => h
 | .new _ _ cs => h.push (.cells cs.length cs)
 | .eff _ _ h1 => h1
def nextS (ops : Array Oper) (s : S2) (t : TS) : S2 := ⟨putC s.σ (dstOf ops t.idx) t.val, nextH s.h t⟩
def stAt (ops : Array Oper) (s0 : S2) (tr : List TS) (p : Nat) : S2 := (tr.take p).foldl (nextS ops) s0
theorem stAt_succ {ops : Array Oper} {s0 : S2} {tr : List TS} {p : Nat} {t : TS} (h : tr[p]? = some t) : stAt ops s0 tr (p + 1) = nextS ops (stAt ops s0 tr p) t := by
 unfold stAt
 have hlt : p < tr.length := (List.getElem?_eq_some_iff.1 h).1
 rw [List.take_succ_eq_append_getElem hlt, List.foldl_append]
 have : tr[p] = t := (List.getElem?_eq_some_iff.1 h).2
 simp [this]
def StepOkC (P : Program) (G : Nat → CV) (ops : Array Oper) (s : S2) : TS → Prop
 | .skip i => ∃ o, ops[i]? = some o ∧ wantedC ops s.σ o = some false
 | .pure i v => ∃ o, ops[i]? = some o ∧ wantedC ops s.σ o = some true
 | .new i v cs => ∃ o mk, ops[i]? = some o ∧ wantedC ops s.σ o = some true ∧ newC P (ev G s.σ) o.op = some (cs, mk) ∧ v = mk s.h.n
 | .eff i v h1 => ∃ o, ops[i]? = some o ∧ wantedC ops s.σ o = some true ∧ Ev P G (.op o.op s.σ s.h v h1) ∧ s.h.n ≤ h1.n
def StillOk (P : Program) (G : Nat → CV) (ops : Array Oper) (s : S2) (h : Hp) : TS → Prop
 | .pure i v => ∀ o, ops[i]? = some o → stepC P h (ev G s.σ) o.op = some (.val v h)
 | .new _ _ cs => h.f s.h.n = .cells cs.length cs
 | _ => True
structure OrdText (ops : Array Oper) (pre : Nat → Nat → Bool) (tr : List TS) : Prop where
 txt : DrawText ops pre
 all : ∀ i, i < ops.size → ∃ (p : Nat) (t : TS), tr[p]? = some t ∧ t.idx = i
 inj : ∀ (p p' : Nat) (t t' : TS), tr[p]? = some t → tr[p']? = some t' → t.idx = t'.idx → p = p'
 rng : ∀ (p : Nat) (t : TS), tr[p]? = some t → t.idx < ops.size
 topo : ∀ (p p' : Nat) (t t' : TS), tr[p]? = some t → tr[p']? = some t' → p < p' → pre t.idx t'.idx = false
 eager : ∀ (p p' : Nat) (t t' : TS), tr[p]? = some t → tr[p']? = some t' → p < p' → t.isEff = true → pre t'.idx t.idx = true
structure TrOk (P : Program) (G : Nat → CV) (ops : Array Oper) (pre : Nat → Nat → Bool) (s0 : S2) (tr : List TS) : Prop where
 step : ∀ (p : Nat) (t : TS), tr[p]? = some t → StepOkC P G ops (stAt ops s0 tr p) t
 still : ∀ (q : Nat), (q = tr.length ∨ ∃ t : TS, tr[q]? = some t ∧ t.isEff = true) → ∀ (p : Nat) (t : TS), p < q → tr[p]? = some t →
  (∀ (p' : Nat) (t' : TS), p' < q → tr[p']? = some t' → t'.isEff = true → pre t'.idx t.idx = false) → StillOk P G ops (stAt ops s0 tr p) (stAt ops s0 tr q).h t
def posOf (tr : List TS) (i : Nat) : Nat := tr.findIdx fun t => t.idx == i
theorem posOf_spec {ops : Array Oper} {pre : Nat → Nat → Bool} {tr : List TS} (ot : OrdText ops pre tr) {i : Nat} (hi : i < ops.size) : ∃ t, tr[posOf tr i]? = some t ∧ t.idx = i := by
 obtain ⟨p, t, hp, ht⟩ := ot.all i hi
 have hlt : p < tr.length := (List.getElem?_eq_some_iff.1 hp).1
 have hmem : ∃ x ∈ tr, (x.idx == i) = true := ⟨t, List.mem_of_getElem? hp, by simpa using ht⟩
 have hfi : posOf tr i < tr.length := List.findIdx_lt_length_of_exists hmem
 have := List.findIdx_getElem (w := hfi)
 exact ⟨tr[posOf tr i], by simp [hfi], by unfold posOf; simpa using this⟩
theorem posOf_eq {ops : Array Oper} {pre : Nat → Nat → Bool} {tr : List TS} (ot : OrdText ops pre tr) {p : Nat} {t : TS} (hp : tr[p]? = some t) : posOf tr t.idx = p := by
 obtain ⟨t', h1, h2⟩ := posOf_spec ot (ot.rng p t hp)
 exact ot.inj _ _ _ _ h1 hp h2
theorem slots_at {ops : Array Oper} {pre : Nat → Nat → Bool} {tr : List TS} (ot : OrdText ops pre tr) (s0 : S2) : ∀ p, p ≤ tr.length → ∀ t,
  (stAt ops s0 tr p).σ t = match writer ops t with | some j => (if posOf tr j < p then ((tr[posOf tr j]?).map TS.val).getD .bad else s0.σ t) | none => s0.σ t := by
 intro p
 induction p with
 | zero =>
  intro _ t
  simp only [stAt, List.take_zero, List.foldl_nil]
  cases writer ops t <;> simp
 | succ p ih =>
  intro hp t
  have hlt : p < tr.length := by omega
  have hget : tr[p]? = some tr[p] := List.getElem?_eq_getElem hlt
  rw [stAt_succ hget]
  simp only [nextS]
  have hold := ih (by omega) t
  have hpos := posOf_eq ot hget
  have hrng := ot.rng p _ hget
  have hop : ops[tr[p].idx]? = some ops[tr[p].idx] := by simp [hrng]
  cases hd : dstOf ops tr[p].idx with
  | none =>
   simp only [putC, hold]
   cases hw : writer ops t with
   | none => rfl
   | some j =>
    simp only
    obtain ⟨o, ho, hod⟩ := writer_some hw
    have hne : posOf tr j ≠ p := by
     intro hh
     obtain ⟨tj, h1, h2⟩ := posOf_spec ot ((Array.getElem?_eq_some_iff.1 ho).1)
     rw [hh, hget] at h1
     cases h1
     rw [← h2] at ho
     simp only [dstOf, ho, Option.bind_some] at hd
     rw [hod] at hd; cases hd
    by_cases hlt' : posOf tr j < p
    ·rw [if_pos hlt', if_pos (by omega)]
    ·rw [if_neg hlt', if_neg (by omega)]
  | some d =>
   simp only [putC]
   by_cases ht : t = d
   ·subst ht
    have hdst : ops[tr[p].idx].dst = some t := by simpa [dstOf, hop] using hd
    rw [fupd_same, ot.txt.one _ _ t hop hdst]
    simp [hpos, hget]
   ·rw [fupd_ne _ _ _ _ ht, hold]
    cases hw : writer ops t with
    | none => rfl
    | some j =>
     simp only
     obtain ⟨o, ho, hod⟩ := writer_some hw
     have hne : posOf tr j ≠ p := by
      intro hh
      obtain ⟨tj, h1, h2⟩ := posOf_spec ot ((Array.getElem?_eq_some_iff.1 ho).1)
      rw [hh, hget] at h1
      cases h1
      rw [← h2] at ho
      simp only [dstOf, ho, Option.bind_some] at hd
      rw [hod] at hd; cases hd
      exact ht rfl
     by_cases hlt' : posOf tr j < p
     ·rw [if_pos hlt', if_pos (by omega)]
     ·rw [if_neg hlt', if_neg (by omega)]
theorem pre_lt {ops : Array Oper} {pre : Nat → Nat → Bool} (txt : DrawText ops pre) (hin : ∀ (i : Nat) (o : Oper) (e : Edge), ops[i]? = some o → e ∈ o.after → Region.binds .any e = true → ∃ o', ops[e.on]? = some o') : ∀ (i : Nat) (o : Oper), ops[i]? = some o → ∀ j, pre i j = true → j < i := by
 intro i
 induction i using Nat.strongRecOn with
 | _ i ih =>
  intro o ho j hj
  obtain ⟨e, he, hb, hej⟩ := txt.chain i o j ho hj
  have hlt := txt.edge i o e ho he hb
  rcases hej with rfl | hej
  ·exact hlt
  ·obtain ⟨o', ho'⟩ := hin i o e ho he hb
   have := ih e.on hlt o' ho' j hej
   omega
theorem no_self {ops : Array Oper} {pre : Nat → Nat → Bool} (txt : DrawText ops pre) (i : Nat) (o : Oper) (ho : ops[i]? = some o) (hp : pre i i = true) : False := by
 have := pre_lt txt (fun i o e ho he hb => by
  have h1 := txt.edge i o e ho he hb
  have h2 := (Array.getElem?_eq_some_iff.1 ho).1
  exact ⟨ops[e.on]'(by omega), by simp⟩) i o ho i hp
 omega
theorem env_at {ops : Array Oper} {pre : Nat → Nat → Bool} {tr : List TS} (ot : OrdText ops pre tr) (s0 : S2) {i : Nat} {o : Oper} (ho : ops[i]? = some o) {t : Nat} (ht : t ∈ o.looksAt ops) :
  envOf ops pre (fun j => ((tr[posOf tr j]?).map TS.val).getD .bad) s0.σ i o t = (stAt ops s0 tr (posOf tr i)).σ t := by
 have hi : i < ops.size := (Array.getElem?_eq_some_iff.1 ho).1
 obtain ⟨ti, h1, h2⟩ := posOf_spec ot hi
 have hle : posOf tr i ≤ tr.length := Nat.le_of_lt (List.getElem?_eq_some_iff.1 h1).1
 rw [slots_at ot s0 _ hle]
 unfold envOf
 rw [if_pos (by simpa using ht)]
 cases hw : writer ops t with
 | none => rfl
 | some j =>
  simp only
  obtain ⟨oj, hoj, _⟩ := writer_some hw
  obtain ⟨tj, h3, h4⟩ := posOf_spec ot ((Array.getElem?_eq_some_iff.1 hoj).1)
  have key : pre i j = true ↔ posOf tr j < posOf tr i := by
   constructor
   ·intro hp
    rcases Nat.lt_trichotomy (posOf tr j) (posOf tr i) with h | h | h
    ·exact h
    ·exfalso
     rw [h, h1] at h3
     cases h3
     have hij : i = j := by rw [← h2, ← h4]
     subst hij
     exact no_self ot.txt i o ho hp
    ·have := ot.topo _ _ _ _ h1 h3 h
     rw [h2, h4] at this
     rw [this] at hp; cases hp
   ·intro hlt
    rcases ot.txt.acc i o t j ho ht hw with hh | hh | rfl
    ·exact hh
    ·have := ot.topo _ _ _ _ h3 h1 hlt
     rw [h2, h4] at this
     rw [this] at hh; cases hh
    ·omega
  by_cases hp : pre i j = true
  ·rw [if_pos hp, if_pos (key.1 hp)]
  ·rw [if_neg hp, if_neg (fun hh => hp (key.2 hh))]
def effsOf (tr : List TS) : List Nat := (List.range tr.length).filter fun p => ((tr[p]?).map TS.isEff).getD false
theorem mem_effs {tr : List TS} {p : Nat} : p ∈ effsOf tr ↔ ∃ t, tr[p]? = some t ∧ t.isEff = true := by
 unfold effsOf
 rw [List.mem_filter, List.mem_range]
 constructor
 ·rintro ⟨h1, h2⟩
  refine ⟨tr[p], by simp [h1], ?_⟩
  simpa [h1] using h2
 ·rintro ⟨t, h1, h2⟩
  exact ⟨(List.getElem?_eq_some_iff.1 h1).1, by simp [h1, h2]⟩
theorem effs_lt {tr : List TS} {q q' : Nat} (hq : q < q') (hq' : q' < (effsOf tr).length) : (effsOf tr).getD q 0 < (effsOf tr).getD q' 0 := by
 have hp : (effsOf tr).Pairwise (· < ·) := List.Pairwise.filter _ List.pairwise_lt_range
 have := List.pairwise_iff_getElem.1 hp q q' (by omega) hq' hq
 simpa [List.getD, hq', show q < (effsOf tr).length by omega] using this
theorem effs_get {tr : List TS} {q : Nat} (hq : q < (effsOf tr).length) : ∃ t, tr[(effsOf tr).getD q 0]? = some t ∧ t.isEff = true := by
 apply mem_effs.1
 simp [List.getD, hq]
theorem effs_find {tr : List TS} {p : Nat} (hp : p ∈ effsOf tr) : ∃ q, q < (effsOf tr).length ∧ (effsOf tr).getD q 0 = p := by
 obtain ⟨q, hq, rfl⟩ := List.getElem_of_mem hp
 exact ⟨q, hq, by simp [List.getD, hq]⟩
theorem n_mono {ops : Array Oper} {pre : Nat → Nat → Bool} {s0 : S2} {tr : List TS} (tk : TrOk P G ops pre s0 tr) : ∀ (k p : Nat), p + k ≤ tr.length → (stAt ops s0 tr p).h.n ≤ (stAt ops s0 tr (p + k)).h.n
 | 0, p, _ => Nat.le_refl _
 | k + 1, p, hp => by
  have ih := n_mono tk k p (by omega)
  have hlt : p + k < tr.length := by omega
  have hget : tr[p + k]? = some tr[p + k] := List.getElem?_eq_getElem hlt
  have hs := tk.step _ _ hget
  rw [show p + (k + 1) = (p + k) + 1 from rfl, stAt_succ hget]
  refine Nat.le_trans ih ?_
  cases ht : tr[p + k] with
  | skip i => simp [nextS, nextH]
  | pure i v => simp [nextS, nextH]
  | new i v cs => simp [nextS, nextH, push_n]
  | eff i v h1 =>
   rw [ht] at hs
   obtain ⟨o, _, _, _, hn⟩ := hs
   simpa [nextS, nextH] using hn
theorem grow_between {ops : Array Oper} {s0 : S2} {tr : List TS} : ∀ (k p : Nat), p + k ≤ tr.length → (∀ r, p ≤ r → r < p + k → r ∉ effsOf tr) → Grows (stAt ops s0 tr p).h (stAt ops s0 tr (p + k)).h
 | 0, p, _, _ => ⟨[], rfl⟩
 | k + 1, p, hp, hno => by
  obtain ⟨l, hl⟩ := grow_between (ops := ops) (s0 := s0) (tr := tr) k p (by omega) (fun r h1 h2 => hno r h1 (by omega))
  have hlt : p + k < tr.length := by omega
  have hget : tr[p + k]? = some tr[p + k] := List.getElem?_eq_getElem hlt
  have hne : tr[p + k].isEff ≠ true := fun hh => hno (p + k) (by omega) (by omega) (mem_effs.2 ⟨_, hget, hh⟩)
  rw [show p + (k + 1) = (p + k) + 1 from rfl, stAt_succ hget]
  cases ht : tr[p + k] with
  | skip i => exact ⟨l, by simp [nextS, nextH, hl]⟩
  | pure i v => exact ⟨l, by simp [nextS, nextH, hl]⟩
  | new i v cs => exact ⟨l ++ [cs], by simp [nextS, nextH, hl, pushes]⟩
  | eff i v h1 => rw [ht] at hne; exact absurd rfl hne
theorem Ev.drawSeq {id : Nat} {ops : Array Oper} {pre : Nat → Nat → Bool} {N : Nat} {s0 : S2} {tr : List TS} (ot : OrdText ops pre tr) (hd : ∀ (i : Nat) (o : Oper), ops[i]? = some o → dstOk N o.dst = true) (tk : TrOk P G ops pre s0 tr) :
  Ev P G (.code (.region id ops true) N s0.σ s0.h .normal (stAt ops s0 tr tr.length).σ (stAt ops s0 tr tr.length).h) := by
 -- the step that carries out operation i
 have stp : ∀ (i : Nat) (o : Oper), ops[i]? = some o → ∃ t, tr[posOf tr i]? = some t ∧ t.idx = i ∧ StepOkC P G ops (stAt ops s0 tr (posOf tr i)) t := fun i o ho => by
  obtain ⟨t, h1, h2⟩ := posOf_spec ot ((Array.getElem?_eq_some_iff.1 ho).1)
  exact ⟨t, h1, h2, tk.step _ _ h1⟩
 have wcong : ∀ (i : Nat) (o : Oper), ops[i]? = some o → wantedC ops (envOf ops pre (fun j => ((tr[posOf tr j]?).map TS.val).getD .bad) s0.σ i o) o = wantedC ops (stAt ops s0 tr (posOf tr i)).σ o := fun i o ho => by
  unfold wantedC
  cases hg : o.guard with
  | none => rfl
  | some jw =>
   obtain ⟨j, want⟩ := jw
   simp only
   cases hdj : (ops[j]?).bind (·.dst) with
   | none => rfl
   | some d =>
    simp only
    rw [env_at ot s0 ho (t := d) (by simp [Oper.looksAt, hg, hdj])]
 have ocong : ∀ (i : Nat) (o : Oper), ops[i]? = some o → ∀ x ∈ o.op.operands, ev G (stAt ops s0 tr (posOf tr i)).σ x = ev G (envOf ops pre (fun j => ((tr[posOf tr j]?).map TS.val).getD .bad) s0.σ i o) x := fun i o ho x hx => by
  cases x with
  | tmp t =>
   refine (env_at ot s0 ho (t := t) ?_).symm
   simp only [Oper.looksAt, List.mem_append, List.mem_filterMap]
   exact .inl ⟨.tmp t, by simpa using hx, rfl⟩
  | _ => rfl
 -- the moment ahead of effect k, or the end
 have tlast : ∀ k, k ≤ (effsOf tr).length → ∃ T, T ≤ tr.length ∧ (T = tr.length ∨ ∃ t, tr[T]? = some t ∧ t.isEff = true) ∧ (T = if k < (effsOf tr).length then (effsOf tr).getD k 0 else tr.length) := fun k hk => by
  by_cases hlt : k < (effsOf tr).length
  ·obtain ⟨t, h1, h2⟩ := effs_get hlt
   exact ⟨_, Nat.le_of_lt (List.getElem?_eq_some_iff.1 h1).1, .inr ⟨t, h1, h2⟩, by rw [if_pos hlt]⟩
  ·exact ⟨_, Nat.le_refl _, .inl rfl, by rw [if_neg hlt]⟩
 have hsk : ∀ q, q < (effsOf tr).length → ∃ t, tr[(effsOf tr).getD q 0]? = some t ∧ t.isEff = true ∧ ((tr[(effsOf tr).getD q 0]?).map TS.idx).getD 0 = t.idx := fun q hq => by
  obtain ⟨t, h1, h2⟩ := effs_get hq
  exact ⟨t, h1, h2, by rw [h1]; rfl⟩
 have stillAt : ∀ (i : Nat) (o : Oper) (t : TS), ops[i]? = some o → tr[posOf tr i]? = some t → t.idx = i → t.isEff = false → ∀ k, feas pre (effsOf tr).length (fun q => ((tr[(effsOf tr).getD q 0]?).map TS.idx).getD 0) i k →
   StillOk P G ops (stAt ops s0 tr (posOf tr i)) (stAt ops s0 tr (if k < (effsOf tr).length then (effsOf tr).getD k 0 else tr.length)).h t := by
  intro i o t ho ht hti hne k hf
  obtain ⟨hkm, hf1, hf2⟩ := hf
  obtain ⟨T, hT1, hT2, hT3⟩ := tlast k hkm
  rw [← hT3]
  have hplen : posOf tr i < tr.length := (List.getElem?_eq_some_iff.1 ht).1
  have hpT : posOf tr i < T := by
   by_cases hlt : k < (effsOf tr).length
   ·rw [if_pos hlt] at hT3
    obtain ⟨tk', h1, h2, h3⟩ := hsk k hlt
    rw [← hT3] at h1
    rcases Nat.lt_trichotomy (posOf tr i) T with h | h | h
    ·exact h
    ·rw [h, h1] at ht
     cases ht
     rw [hne] at h2; cases h2
    ·have he := ot.eager T (posOf tr i) tk' t h1 ht h h2
     have := hf1 k hlt (by (try simp only); rw [h3, ← hti]; exact he)
     omega
   ·rw [if_neg hlt] at hT3
    omega
  refine tk.still T hT2 _ t hpT ht (fun p' t' hp' ht' he' => ?_)
  obtain ⟨q, hq, hqe⟩ := effs_find (mem_effs.2 ⟨t', ht', he'⟩)
  obtain ⟨t'', h1, h2, h3⟩ := hsk q hq
  rw [hqe, ht'] at h1
  cases h1
  have hqk : q < k := by
   by_cases hlt : k < (effsOf tr).length
   ·rw [if_pos hlt] at hT3
    rcases Nat.lt_or_ge q k with h | h
    ·exact h
    ·rcases Nat.eq_or_lt_of_le h with h | h
     ·subst h; omega
     ·have := effs_lt (tr := tr) h hq
      omega
   ·omega
  cases hp : pre t'.idx t.idx with
  | false => rfl
  | true =>
   have := hf2 q hq (by (try simp only); rw [h3, ← hti]; exact hp)
   omega
 refine Ev.draw pre (fun j => ((tr[posOf tr j]?).map TS.val).getD .bad) (fun j => ((tr[posOf tr j]?).map fun t => !t.isSkip).getD false) (fun j => ((tr[posOf tr j]?).map TS.cls).getD .pure) (effsOf tr).length
  (fun q => ((tr[(effsOf tr).getD q 0]?).map TS.idx).getD 0) (fun k => (stAt ops s0 tr (if k < (effsOf tr).length then (effsOf tr).getD k 0 else tr.length)).h) (fun q => (stAt ops s0 tr ((effsOf tr).getD q 0 + 1)).h)
  (fun j => (stAt ops s0 tr (posOf tr j)).h.n) (fun j => ((tr[posOf tr j]?).map TS.cs).getD []) ot.txt hd ?_ ?_ ?_ ?_ ?_ ?_ ?_ ?_ ?_ ?_ ?_ ?_ ?_ ?_ ?_
 ·-- h0
  obtain ⟨T, hT1, hT2, hT3⟩ := tlast 0 (Nat.zero_le _)
  try simp only
  rw [← hT3]
  have := grow_between (ops := ops) (s0 := s0) (tr := tr) T 0 (by omega) (fun r _ hr hmem => by
   obtain ⟨q, hq, hqe⟩ := effs_find hmem
   rw [if_pos (by omega)] at hT3
   rcases Nat.eq_or_lt_of_le (Nat.zero_le q) with h | h
   ·subst h; omega
   ·have := effs_lt (tr := tr) h hq
    omega)
  simpa [stAt] using this
 ·simp
 ·-- hσ
  funext t
  rw [slots_at ot s0 _ (Nat.le_refl _)]
  cases hw : writer ops t with
  | none => rfl
  | some j =>
   obtain ⟨o, ho, _⟩ := writer_some hw
   obtain ⟨tj, h1, _⟩ := posOf_spec ot ((Array.getElem?_eq_some_iff.1 ho).1)
   simp only
   rw [if_pos ((List.getElem?_eq_some_iff.1 h1).1)]
 ·-- heff
  intro i o ho hW hc
  obtain ⟨t, h1, h2, _⟩ := stp i o ho
  simp only [h1, Option.map_some, Option.getD_some] at hc
  have he : t.isEff = true := by cases t <;> simp_all [TS.cls, TS.isEff]
  obtain ⟨q, hq, hqe⟩ := effs_find (mem_effs.2 ⟨t, h1, he⟩)
  exact ⟨q, hq, by rw [hqe, h1]; exact h2⟩
 ·-- heff'
  intro q hq
  obtain ⟨t, h1, h2, h3⟩ := hsk q hq
  refine ⟨ops[t.idx]'(ot.rng _ _ h1), by rw [h3]; simp [ot.rng _ _ h1], ?_, ?_⟩
  ·simp only [h3, posOf_eq ot h1, h1, Option.map_some, Option.getD_some]
   cases t <;> simp_all [TS.isSkip, TS.isEff]
  ·simp only [h3, posOf_eq ot h1, h1, Option.map_some, Option.getD_some]
   cases t <;> simp_all [TS.cls, TS.isEff]
 ·-- hord
  intro q q' hq hq' hlt
  obtain ⟨t, h1, h2, h3⟩ := hsk q hq
  obtain ⟨t', h1', h2', h3'⟩ := hsk q' hq'
  simp only [h3, h3']
  exact ot.eager _ _ t t' h1 h1' (effs_lt hlt hq') h2
 ·-- hinj
  intro q q' hq hq' he
  obtain ⟨t, h1, h2, h3⟩ := hsk q hq
  obtain ⟨t', h1', h2', h3'⟩ := hsk q' hq'
  simp only [h3, h3'] at he
  have := ot.inj _ _ t t' h1 h1' he
  rcases Nat.lt_trichotomy q q' with h | h | h
  ·have := effs_lt (tr := tr) h hq'; omega
  ·exact h
  ·have := effs_lt (tr := tr) h hq; omega
 ·-- hwant
  intro i o ho
  rw [wcong i o ho]
  obtain ⟨t, h1, h2, h3⟩ := stp i o ho
  simp only [h1, Option.map_some, Option.getD_some]
  cases t with
  | skip j => obtain ⟨o', ho', hw⟩ := h3; simp only [TS.idx] at h2; subst h2; rw [ho] at ho'; cases ho'; exact hw
  | pure j v => obtain ⟨o', ho', hw⟩ := h3; simp only [TS.idx] at h2; subst h2; rw [ho] at ho'; cases ho'; exact hw
  | new j v cs => obtain ⟨o', mk, ho', hw, _⟩ := h3; simp only [TS.idx] at h2; subst h2; rw [ho] at ho'; cases ho'; exact hw
  | eff j v h1' => obtain ⟨o', ho', hw, _⟩ := h3; simp only [TS.idx] at h2; subst h2; rw [ho] at ho'; cases ho'; exact hw
 ·-- hskip
  intro i o ho hW
  obtain ⟨t, h1, h2, h3⟩ := stp i o ho
  simp only [h1, Option.map_some, Option.getD_some] at hW ⊢
  cases t <;> simp_all [TS.isSkip, TS.val]
 ·-- hpure
  intro i o ho hW hc k hf
  obtain ⟨t, h1, h2, h3⟩ := stp i o ho
  simp only [h1, Option.map_some, Option.getD_some] at hW hc
  have hst := stillAt i o t ho h1 h2 (by cases t <;> simp_all [TS.cls, TS.isEff]) k hf
  cases t with
  | pure j v =>
   simp only [TS.idx] at h2
   subst h2
   have := hst o ho
   rw [stepC_congr _ _ (ocong j o ho)] at this
   simpa [h1, TS.val] using this
  | skip j => simp [TS.isSkip] at hW
  | new j v cs => simp [TS.cls] at hc
  | eff j v h1' => simp [TS.cls] at hc
 ·-- hnew
  intro i o ho hW hc
  obtain ⟨t, h1, h2, h3⟩ := stp i o ho
  simp only [h1, Option.map_some, Option.getD_some] at hW hc
  cases t with
  | new j v cs =>
   obtain ⟨o', mk, ho', _, hn, hv⟩ := h3
   simp only [TS.idx] at h2
   subst h2
   rw [ho] at ho'; cases ho'
   rw [newC_congr _ (ocong j o ho)] at hn
   refine ⟨mk, by simpa [h1, TS.cs] using hn, by simpa [h1, TS.val] using hv, ?_, fun k hf => ?_⟩
   ·have hle : posOf tr j ≤ tr.length := Nat.le_of_lt (List.getElem?_eq_some_iff.1 h1).1
    have := n_mono tk (posOf tr j) 0 (by omega)
    simpa [stAt] using this
   ·have hst := stillAt j o _ ho h1 rfl rfl k hf
    simpa [StillOk, h1, TS.cs] using hst
  | skip j => simp [TS.isSkip] at hW
  | pure j v => simp [TS.cls] at hc
  | eff j v h1' => simp [TS.cls] at hc
 ·-- hbid
  intro i j o o' ho ho' hWi hWj hci hcj hb
  have grow1 : ∀ (i : Nat) (o : Oper), ops[i]? = some o → ((tr[posOf tr i]?).map TS.cls).getD .pure = .new → ∀ p, posOf tr i < p → p ≤ tr.length → (stAt ops s0 tr (posOf tr i)).h.n < (stAt ops s0 tr p).h.n := by
   intro i o ho hc p hp hpl
   obtain ⟨t, h1, h2, _⟩ := stp i o ho
   simp only [h1, Option.map_some, Option.getD_some] at hc
   have h4 := n_mono tk (p - (posOf tr i + 1)) (posOf tr i + 1) (by omega)
   rw [show posOf tr i + 1 + (p - (posOf tr i + 1)) = p by omega, stAt_succ h1] at h4
   cases t with
   | new j v cs => simp only [nextS, nextH, push_n] at h4; omega
   | skip j => simp [TS.cls] at hc
   | pure j v => simp [TS.cls] at hc
   | eff j v h1' => simp [TS.cls] at hc
  obtain ⟨t, h1, h2, _⟩ := stp i o ho
  obtain ⟨t', h1', h2', _⟩ := stp j o' ho'
  have hl := (List.getElem?_eq_some_iff.1 h1).1
  have hl' := (List.getElem?_eq_some_iff.1 h1').1
  rcases Nat.lt_trichotomy (posOf tr i) (posOf tr j) with h | h | h
  ·have := grow1 i o ho hci _ h (Nat.le_of_lt hl'); (try simp only at hb); omega
  ·rw [h, h1'] at h1; cases h1; rw [← h2, ← h2']
  ·have := grow1 j o' ho' hcj _ h (Nat.le_of_lt hl); (try simp only at hb); omega
 ·-- hbid'
  intro i o q ho hW hc hq
  obtain ⟨t, h1, h2, _⟩ := stp i o ho
  obtain ⟨te, g1, g2, g3⟩ := hsk q hq
  simp only [h1, Option.map_some, Option.getD_some] at hc
  have hl := (List.getElem?_eq_some_iff.1 h1).1
  have hl' := (List.getElem?_eq_some_iff.1 g1).1
  simp only [if_pos hq]
  rcases Nat.lt_trichotomy (posOf tr i) ((effsOf tr).getD q 0) with h | h | h
  ·left
   have h4 := n_mono tk ((effsOf tr).getD q 0 - (posOf tr i + 1)) (posOf tr i + 1) (by omega)
   rw [show posOf tr i + 1 + ((effsOf tr).getD q 0 - (posOf tr i + 1)) = (effsOf tr).getD q 0 by omega, stAt_succ h1] at h4
   cases t with
   | new j v cs => simp only [nextS, nextH, push_n] at h4; omega
   | skip j => simp [TS.cls] at hc
   | pure j v => simp [TS.cls] at hc
   | eff j v h1' => simp [TS.cls] at hc
  ·rw [h, g1] at h1; cases h1
   cases t <;> simp_all [TS.cls, TS.isEff]
  ·right
   have h4 := n_mono tk (posOf tr i - ((effsOf tr).getD q 0 + 1)) ((effsOf tr).getD q 0 + 1) (by omega)
   rwa [show (effsOf tr).getD q 0 + 1 + (posOf tr i - ((effsOf tr).getD q 0 + 1)) = posOf tr i by omega] at h4
 ·-- hgrow
  intro q hq
  obtain ⟨te, g1, g2, g3⟩ := hsk q hq
  have hl' := (List.getElem?_eq_some_iff.1 g1).1
  obtain ⟨T, hT1, hT2, hT3⟩ := tlast (q + 1) (by omega)
  try simp only
  rw [← hT3]
  have hlt : (effsOf tr).getD q 0 < T := by
   by_cases h : q + 1 < (effsOf tr).length
   ·rw [if_pos h] at hT3
    have := effs_lt (tr := tr) (show q < q + 1 by omega) h
    omega
   ·rw [if_neg h] at hT3; omega
  have := grow_between (ops := ops) (s0 := s0) (tr := tr) (T - ((effsOf tr).getD q 0 + 1)) ((effsOf tr).getD q 0 + 1) (by omega) (fun r hr1 hr2 hmem => by
   obtain ⟨q', hq', hqe⟩ := effs_find hmem
   have hqq : q < q' := by
    rcases Nat.lt_trichotomy q q' with h | h | h
    ·exact h
    ·subst h; omega
    ·have := effs_lt (tr := tr) h hq; omega
   by_cases h : q + 1 < (effsOf tr).length
   ·rw [if_pos h] at hT3
    rcases Nat.eq_or_lt_of_le (show q + 1 ≤ q' from hqq) with h' | h'
    ·subst h'; omega
    ·have := effs_lt (tr := tr) h' hq'; omega
   ·omega)
  rwa [show (effsOf tr).getD q 0 + 1 + (T - ((effsOf tr).getD q 0 + 1)) = T by omega] at this
 ·-- hcall
  intro q o hq ho
  obtain ⟨te, g1, g2, g3⟩ := hsk q hq
  have hpos := posOf_eq ot g1
  simp only [g3] at ho ⊢
  have hs := tk.step _ _ g1
  cases te with
  | eff j v h1 =>
   obtain ⟨o', ho', _, he, _⟩ := hs
   simp only [TS.idx] at ho hpos ⊢
   rw [ho] at ho'; cases ho'
   have hcg := ocong j o ho
   rw [hpos] at hcg
   have := evOp_congr hcg he
   simp only [hpos, g1, if_pos hq, Option.map_some, Option.getD_some, TS.val]
   rw [stAt_succ g1]
   exact this
  | skip j => simp [TS.isEff] at g2
  | pure j v => simp [TS.isEff] at g2
  | new j v cs => simp [TS.isEff] at g2
end
abbrev Sl := Tr CV
def look (s : Sl) (t : Nat) : CV := match s.get t with | some v => v | none => undefC
theorem look_set (s : Sl) (t : Nat) (v : CV) : look (s.set t v) = fupd (look s) t v := by
 funext u
 simp only [look, Tr.get_set, fupd]
 by_cases h : u = t
 ·simp [h]
 ·simp [h]
def putT (s : Sl) (dst : Option Tmp) (v : CV) : Sl := match dst with | some d => s.set d v | none => s
theorem look_put (s : Sl) (dst : Option Tmp) (v : CV) : look (putT s dst v) = putC (look s) dst v := by
 cases dst with
 | none => rfl
 | some d => exact look_set s d v
def ofArgs : Nat → Sl → List CV → Sl
 | _, s, [] => s
 | k, s, v :: vs => ofArgs (k + 1) (s.set k v) vs
theorem look_ofArgs : ∀ (vs : List CV) (k : Nat) (s : Sl), look (ofArgs k s vs) = fun t => if k ≤ t ∧ t < k + vs.length then vs.getD (t - k) undefC else look s t
 | [], k, s => by funext t; simp only [ofArgs, List.length_nil]; rw [if_neg (by omega)]
 | v :: vs, k, s => by
  funext t
  rw [ofArgs, look_ofArgs vs (k + 1), look_set]
  simp only [List.length_cons, fupd]
  by_cases h1 : k + 1 ≤ t ∧ t < k + 1 + vs.length
  ·rw [if_pos h1, if_pos (by omega), show t - k = (t - (k + 1)) + 1 by omega]
   simp
  ·rw [if_neg h1]
   by_cases h2 : t = k
   ·subst h2; rw [if_pos rfl, if_pos (by omega)]; simp
   ·rw [if_neg h2, if_neg (by omega)]
def tb (m i : Nat) : Bool := Nat.testBit m i
def edgeMask (ms : List Nat) : List Edge → Nat
 | [] => 0
 | e :: es => match Region.binds .any e with
  | true => Nat.lor (Nat.lor (2 ^ e.on) (ms.getD e.on 0)) (edgeMask ms es)
  | false => edgeMask ms es
def masksGo (ms : List Nat) : List Oper → List Nat
 | [] => ms
 | o :: os => masksGo (ms ++ [edgeMask ms o.after.toList]) os
def masksOf (ops : Array Oper) : List Nat := masksGo [] ops.toList
def preOf (ms : List Nat) (i j : Nat) : Bool := tb (ms.getD i 0) j
def isEffOp : Op → Bool
 | .move _ | .assign _ | .pick .. | .alloc _ | .box .. | .build .. | .buildSlice .. | .load .. | .nilCheck _ | .binOp .. | .unOp .. | .convert .. | .makeInterface .. | .makeFunc .. | .makeSlice .. | .slice .. | .fieldAddr .. | .field .. | .indexAddr .. | .index .. | .extract .. => false
 | .call c => match c.callee with
  | .builtin .len | .builtin .cap | .builtin .min | .builtin .max => false
  | _ => true
 | _ => true
def isPureOp : Op → Bool
 | .move _ | .assign _ | .pick .. | .build .. | .load .. | .nilCheck _ | .binOp .. | .unOp .. | .convert .. | .makeInterface .. | .makeFunc .. | .slice .. | .fieldAddr .. | .field .. | .indexAddr .. | .index .. | .extract .. => true
 | .call c => match c.callee with
  | .builtin .len | .builtin .cap | .builtin .min | .builtin .max => true
  | _ => false
 | _ => false
def pickOne (done : Nat) (eff : Bool) : Nat → List Nat → List Oper → Option Nat
 | i, m :: ms, o :: os => match !tb done i && Nat.beq (Nat.land m done) m && (isEffOp o.op == eff) with
  | true => some i
  | false => pickOne done eff (i + 1) ms os
 | _, _, _ => none
def schedGo (ms : List Nat) (os : List Oper) : Nat → Nat → List Nat
 | 0, _ => []
 | k + 1, done => match pickOne done false 0 ms os with
  | some i => i :: schedGo ms os k (Nat.lor done (2 ^ i))
  | none => match pickOne done true 0 ms os with
   | some i => i :: schedGo ms os k (Nat.lor done (2 ^ i))
   | none => []
def sched (ms : List Nat) (ops : Array Oper) : List Nat := schedGo ms ops.toList ops.size 0
def allI (p : Nat → Oper → Bool) : Nat → List Oper → Bool
 | _, [] => true
 | i, o :: os => p i o && allI p (i + 1) os
theorem allI_spec {p : Nat → Oper → Bool} : ∀ (l : List Oper) (i : Nat), allI p i l = true → ∀ (j : Nat) (o : Oper), l[j]? = some o → p (i + j) o = true
 | [], i, _, j, o, h => by simp at h
 | x :: l, i, h, j, o, hj => by
  simp only [allI, Bool.and_eq_true] at h
  cases j with
  | zero => simp only [List.getElem?_cons_zero, Option.some.injEq] at hj; subst hj; exact h.1
  | succ j =>
   simp only [List.getElem?_cons_succ] at hj
   have := allI_spec l (i + 1) h.2 j o hj
   rwa [show i + 1 + j = i + (j + 1) by omega] at this
def dstIs (t : Nat) (o : Oper) : Bool := match o.dst with | some d => Nat.beq d t | none => false
def writerL (t : Nat) : Nat → List Oper → Option Nat
 | _, [] => none
 | i, o :: os => match dstIs t o with
  | true => some i
  | false => writerL t (i + 1) os
def drawTextB (ms : List Nat) (ops : Array Oper) : Bool :=
 allI (fun i o =>
  Nat.beq (ms.getD i 0) (edgeMask ms o.after.toList) &&
  (o.after.toList.all fun e => !Region.binds .any e || Nat.blt e.on i) &&
  (match o.dst with | some d => (match writerL d 0 ops.toList with | some j => Nat.beq j i | none => false) | none => true) &&
  ((o.looksAt ops).all fun t => match writerL t 0 ops.toList with | some j => preOf ms i j || preOf ms j i || Nat.beq j i | none => true)) 0 ops.toList &&
 Region.noSelect ops
def ordB (ms : List Nat) : List Nat → Bool
 | [] => true
 | i :: r => (r.all fun j => !Nat.beq i j && !preOf ms i j) && ordB ms r
def orderB (ms : List Nat) (ops : Array Oper) (ord : List Nat) : Bool :=
 drawTextB ms ops && ordB ms ord && Nat.beq ord.length ops.size && (ord.all fun i => Nat.blt i ops.size) && (List.range ops.size).all fun i => ord.contains i
structure En where
 t : TS
 s : Sl
 h : Hp
section
variable (P : Program) (G : Nat → CV)
end
theorem edgeMask_bit (ms : List Nat) (j : Nat) : ∀ (es : List Edge), tb (edgeMask ms es) j = true → ∃ e ∈ es, Region.binds .any e = true ∧ (e.on = j ∨ preOf ms e.on j = true)
 | [], h => by simp [edgeMask, tb] at h
 | e :: es, h => by
  unfold edgeMask at h
  cases hb : Region.binds .any e with
  | false =>
   rw [hb] at h
   obtain ⟨e', h1, h2⟩ := edgeMask_bit ms j es h
   exact ⟨e', List.mem_cons_of_mem _ h1, h2⟩
  | true =>
   rw [hb] at h
   simp only [tb] at h
   have h' : Nat.testBit ((2 ^ e.on ||| ms.getD e.on 0) ||| edgeMask ms es) j = true := h
   rw [Nat.testBit_or, Nat.testBit_or, Bool.or_eq_true, Bool.or_eq_true, Nat.testBit_two_pow] at h'
   rcases h' with (h' | h') | h'
   ·exact ⟨e, List.mem_cons_self, hb, .inl (by simpa using h')⟩
   ·exact ⟨e, List.mem_cons_self, hb, .inr h'⟩
   ·obtain ⟨e', h1, h2⟩ := edgeMask_bit ms j es h'
    exact ⟨e', List.mem_cons_of_mem _ h1, h2⟩
theorem writerL_spec (t : Nat) : ∀ (l : List Oper) (i : Nat), writerL t i l = ((List.range l.length).find? fun j => match l[j]? with | some o => o.dst == some t | none => false).map (· + i)
 | [], i => by simp [writerL]
 | o :: l, i => by
  unfold writerL
  have hdec : dstIs t o = (o.dst == some t) := by
   unfold dstIs
   cases o.dst with
   | none => rfl
   | some d =>
    by_cases h : d = t
    ·subst h; simp
    ·have : Nat.beq d t = false := nbeq_false h
     simp [this, h]
  rw [hdec, List.length_cons, List.range_succ_eq_map, List.find?_cons]
  simp only [List.getElem?_cons_zero]
  cases hb : (o.dst == some t) with
  | true => simp
  | false =>
   simp only [List.find?_map]
   rw [writerL_spec t l (i + 1)]
   have : ((fun j => match (o :: l)[j]? with | some o => o.dst == some t | none => false) ∘ Nat.succ) = fun j => match l[j]? with | some o => o.dst == some t | none => false := by
    funext j; simp
   rw [this]
   cases (List.range l.length).find? (fun j => match l[j]? with | some o => o.dst == some t | none => false) with
   | none => rfl
   | some j => simp; omega
theorem writerL_eq (ops : Array Oper) (t : Nat) : writerL t 0 ops.toList = writer ops t := by
 rw [writerL_spec]
 unfold writer
 simp only [Array.getElem?_toList, Array.length_toList, Nat.add_zero, Option.map_id_fun', id_eq]
 congr 1
theorem drawTextB_spec {ms : List Nat} {ops : Array Oper} (h : drawTextB ms ops = true) : DrawText ops (preOf ms) := by
 unfold drawTextB at h
 rw [Bool.and_eq_true] at h
 obtain ⟨h, hs⟩ := h
 have key : ∀ (i : Nat) (o : Oper), ops[i]? = some o → _ := fun i o ho => allI_spec _ 0 h i o (by simpa using ho)
 simp only [Nat.zero_add, Bool.and_eq_true] at key
 refine ⟨fun i o e ho he hb => ?_, fun i o j ho hp => ?_, fun i o t ho hd => ?_, fun i o t j ho ht hw => ?_, hs⟩
 ·have := (key i o ho).1.1.2
  rw [List.all_eq_true] at this
  have := this e (by simpa using he)
  rw [hb] at this
  simp only [Bool.not_true, Bool.false_or] at this
  simpa [Nat.blt_eq] using this
 ·have := nbeq_eq (key i o ho).1.1.1
  have hp' : tb (ms.getD i 0) j = true := hp
  rw [this] at hp'
  obtain ⟨e, h1, h2⟩ := edgeMask_bit ms j _ hp'
  exact ⟨e, by simpa using h1, h2⟩
 ·have := (key i o ho).1.2
  rw [hd] at this
  simp only at this
  rw [writerL_eq] at this
  cases hw : writer ops t with
  | none => rw [hw] at this; cases this
  | some j => rw [hw] at this; simp only at this; rw [nbeq_eq this]
 ·have := (key i o ho).2
  rw [List.all_eq_true] at this
  have := this t ht
  rw [writerL_eq, hw] at this
  simp only [Bool.or_eq_true] at this
  rcases this with (h1 | h1) | h1
  ·exact .inl h1
  ·exact .inr (.inl h1)
  ·exact .inr (.inr (nbeq_eq h1))
theorem ordB_spec {ms : List Nat} : ∀ {l : List Nat}, ordB ms l = true → ∀ (p p' : Nat) (i j : Nat), l[p]? = some i → l[p']? = some j → p < p' → i ≠ j ∧ preOf ms i j = false
 | [], _, p, p', i, j, hi, _, _ => by simp at hi
 | x :: l, h, p, p', i, j, hi, hj, hlt => by
  simp only [ordB, Bool.and_eq_true, List.all_eq_true] at h
  cases p' with
  | zero => omega
  | succ p' =>
   simp only [List.getElem?_cons_succ] at hj
   cases p with
   | zero =>
    simp only [List.getElem?_cons_zero, Option.some.injEq] at hi
    subst hi
    have := h.1 j (List.mem_of_getElem? hj)
    simp only [Bool.not_eq_true'] at this
    refine ⟨fun he => ?_, this.2⟩
    subst he
    rw [nbeq_true rfl] at this
    cases this.1
   | succ p =>
    simp only [List.getElem?_cons_succ] at hi
    exact ordB_spec h.2 p p' i j hi hj (by omega)
section
variable {P : Program} {G : Nat → CV}
structure StepRun (P : Program) (G : Nat → CV) (ops : Array Oper) (e : En) : Prop where
 step : StepOkC P G ops ⟨look e.s, e.h⟩ e.t
 pure : ∀ i v, e.t = .pure i v → ∃ o, ops[i]? = some o ∧ isPureOp o.op = true ∧ stepC P e.h (ev G (look e.s)) o.op = some (.val v e.h)
theorem stAt_cons {ops : Array Oper} {s0 : S2} {t : TS} {tr : List TS} (p : Nat) : stAt ops s0 (t :: tr) (p + 1) = stAt ops (nextS ops s0 t) tr p := by
 simp [stAt]
end
section
variable {P : Program} {G : Nat → CV}
theorem rel_empty (w : World) (R : Nat → Prop) (hR : ∀ k, w.heap.size ≤ k → R k) : Rel R w.heap.size w Hp.empty (fun _ => none) where
 blk := fun b m hm => by cases hm
 inj := fun b b' m m' hl => by rw [empty_f] at hl; cases hl
 base := fun b m hl => by rw [empty_f] at hl; cases hl
 fresh := fun b _ => empty_f b
 up := hR
 size := Nat.le_refl _
 mu := fun b _ => rfl
theorem not_own_empty (μ : Mu) (k : Nat) : ¬ Own Hp.empty μ k := by
 rintro ⟨b, m, hl, _⟩
 rw [empty_f] at hl; cases hl
theorem top_call (hmix : P.follows .mixedOrders = true) (hG : ∀ g, (G g).closed = true) {f : FuncId} {args : List CV} {r : CV} {h' : Hp} (he : Ev P G (.call f args Hp.empty r h'))
  {w : World} {A : Nat → Prop} {vs : Array Value} (hg : ∀ g, VR0 w A (G g) (.pointer (some ⟨g, 0, none⟩))) (hl : vs.size = args.length)
  (hv : ∀ (j : Nat) (c : CV) (v : Value), args[j]? = some c → vs[j]? = some v → VR0 w A c v) :
  Calls P f vs w fun e w' => ∃ v μ', e = .returned v ∧ Blw w w' ∧ Rel (fun k => A k ∨ w.heap.size ≤ k) w.heap.size w' h' μ' ∧ VR w' (fun k => A k ∨ w.heap.size ≤ k) h' μ' r v := by
 have up : ∀ {c : CV} {v : Value}, VR0 w A c v → VR w (fun k => A k ∨ w.heap.size ≤ k) Hp.empty (fun _ => none) c v := fun hc => hc.up (fun k _ hk => ⟨.inl hk, not_own_empty _ k⟩)
 refine (sound hmix hG he (fun k => A k ∨ w.heap.size ≤ k) w.heap.size w (fun _ => none) vs (rel_empty w _ fun k hk => .inr hk) (fun g => ⟨hG g, up (hg g)⟩) hl (fun j c v hj hjv => up (hv j c v hj hjv))).mono ?_
 rintro e w' ⟨v, μ', rfl, ex, rel, hr⟩
 exact ⟨v, μ', rfl, ⟨⟨ex.os, ex.tape, ex.output, ex.size, fun k hk => ex.keep k hk (not_own_empty _ k)⟩, ex.drawn⟩, rel, hr⟩
theorem top_true (hmix : P.follows .mixedOrders = true) (hG : ∀ g, (G g).closed = true) {f : FuncId} {args : List CV} {h' : Hp} (he : Ev P G (.call f args Hp.empty (.bool true) h'))
  {w : World} {A : Nat → Prop} {vs : Array Value} (hg : ∀ g, VR0 w A (G g) (.pointer (some ⟨g, 0, none⟩))) (hl : vs.size = args.length)
  (hv : ∀ (j : Nat) (c : CV) (v : Value), args[j]? = some c → vs[j]? = some v → VR0 w A c v) :
  Calls P f vs w fun e w' => e = .returned (.bool true) ∧ RowKit.Below w.heap.size w w' := by
 refine (top_call hmix hG he hg hl hv).mono ?_
 rintro e w' ⟨v, μ', rfl, hb, _, hr⟩
 cases hr
 exact ⟨rfl, hb.toBelow⟩
end
section
variable {α : Type}
theorem setF_fuel : ∀ (k k' : Nat) (t : Tr α) (n : Nat) (x : α), n < k → n < k' → t.setF k n x = t.setF k' n x
 | 0, _, _, _, _, h, _ => by omega
 | _ + 1, 0, _, _, _, _, h => by omega
 | k + 1, k' + 1, t, n, x, h, h' => by
  by_cases h0 : n = 0
  ·subst h0
   cases t <;> rfl
  ·have hb : Nat.beq n 0 = false := nbeq_false h0
   cases t with
   | nil =>
    unfold Tr.setF
    simp only [hb]
    rw [setF_fuel k k' .nil (n / 2) x (by omega) (by omega), setF_fuel k k' .nil (n / 2 - 1) x (by omega) (by omega)]
   | node l v r =>
    unfold Tr.setF
    simp only [hb]
    rw [setF_fuel k k' l (n / 2) x (by omega) (by omega), setF_fuel k k' r (n / 2 - 1) x (by omega) (by omega)]
def Tr.lt : Tr α → Tr α | .nil => .nil | .node l _ _ => l
def Tr.rt : Tr α → Tr α | .nil => .nil | .node _ _ r => r
def Tr.mid : Tr α → Option α | .nil => none | .node _ v _ => v
theorem set_zero (t : Tr α) (x : α) : t.set 0 x = .node t.lt (some x) t.rt := by cases t <;> rfl
theorem set_odd (t : Tr α) (m : Nat) (x : α) : t.set (2 * m + 1) x = .node (t.lt.set m x) t.mid t.rt := by
 have h1 : Nat.beq (2 * m + 1) 0 = false := nbeq_false (by omega)
 have h2 : Nat.beq ((2 * m + 1) % 2) 1 = true := nbeq_true (by omega)
 have h3 : (2 * m + 1) / 2 = m := by omega
 cases t with
 | nil => show Tr.setF (2 * m + 1 + 1) .nil (2 * m + 1) x = _; unfold Tr.setF; simp only [h1, h2, h3]; rw [setF_fuel _ (m + 1) _ _ _ (by omega) (by omega)]; rfl
 | node l v r => show Tr.setF (2 * m + 1 + 1) (.node l v r) (2 * m + 1) x = _; unfold Tr.setF; simp only [h1, h2, h3]; rw [setF_fuel _ (m + 1) _ _ _ (by omega) (by omega)]; rfl
theorem set_even (t : Tr α) (m : Nat) (x : α) : t.set (2 * m + 2) x = .node t.lt t.mid (t.rt.set m x) := by
 have h1 : Nat.beq (2 * m + 2) 0 = false := nbeq_false (by omega)
 have h2 : Nat.beq ((2 * m + 2) % 2) 1 = false := nbeq_false (by omega)
 have h3 : (2 * m + 2) / 2 - 1 = m := by omega
 cases t with
 | nil => show Tr.setF (2 * m + 2 + 1) .nil (2 * m + 2) x = _; unfold Tr.setF; simp only [h1, h2, h3]; rw [setF_fuel _ (m + 1) _ _ _ (by omega) (by omega)]; rfl
 | node l v r => show Tr.setF (2 * m + 2 + 1) (.node l v r) (2 * m + 2) x = _; unfold Tr.setF; simp only [h1, h2, h3]; rw [setF_fuel _ (m + 1) _ _ _ (by omega) (by omega)]; rfl
theorem nat3 (n : Nat) : n = 0 ∨ (∃ m, m < n ∧ n = 2 * m + 1) ∨ ∃ m, m < n ∧ n = 2 * m + 2 := by
 rcases Nat.eq_zero_or_pos n with h | h
 ·exact .inl h
 ·rcases Nat.mod_two_eq_zero_or_one n with h2 | h2
  ·exact .inr (.inr ⟨n / 2 - 1, by omega, by omega⟩)
  ·exact .inr (.inl ⟨n / 2, by omega, by omega⟩)
theorem set_same (n : Nat) : ∀ (t : Tr α) (x y : α), (t.set n x).set n y = t.set n y := by
 induction n using Nat.strongRecOn with
 | _ n ih =>
  intro t x y
  rcases nat3 n with rfl | ⟨m, hm, rfl⟩ | ⟨m, hm, rfl⟩
  ·rw [set_zero t x, set_zero t y, set_zero]; rfl
  ·rw [set_odd t, set_odd t, set_odd]; simp only [Tr.lt, Tr.mid, Tr.rt, ih m hm]
  ·rw [set_even t, set_even t, set_even]; simp only [Tr.lt, Tr.mid, Tr.rt, ih m hm]
theorem set_comm (n : Nat) : ∀ (t : Tr α) (k : Nat) (x y : α), n ≠ k → (t.set n x).set k y = (t.set k y).set n x := by
 induction n using Nat.strongRecOn with
 | _ n ih =>
  intro t k x y hne
  rcases nat3 n with rfl | ⟨m, hm, rfl⟩ | ⟨m, hm, rfl⟩ <;> rcases nat3 k with rfl | ⟨j, hj, rfl⟩ | ⟨j, hj, rfl⟩
  ·exact absurd rfl hne
  ·rw [set_zero t, set_odd, set_odd t, set_zero]; rfl
  ·rw [set_zero t, set_even, set_even t, set_zero]; rfl
  ·rw [set_odd t, set_zero, set_zero t, set_odd]; rfl
  ·rw [set_odd t, set_odd, set_odd t, set_odd]; simp only [Tr.lt, Tr.mid, Tr.rt]; rw [ih m hm _ j _ _ (by omega)]
  ·rw [set_odd t, set_even, set_even t, set_odd]; rfl
  ·rw [set_even t, set_zero, set_zero t, set_even]; rfl
  ·rw [set_even t, set_odd, set_odd t, set_even]; rfl
  ·rw [set_even t, set_even, set_even t, set_even]; simp only [Tr.lt, Tr.mid, Tr.rt]; rw [ih m hm _ j _ _ (by omega)]
end
abbrev Hl := List CB
def hlT : Nat → Tr CB → Hl → Tr CB
 | _, t, [] => t
 | i, t, c :: cs => hlT (i + 1) (t.set i c) cs
def HL (l : Hl) : Hp := ⟨l.length, hlT 0 .nil l⟩
@[simp] theorem HL_n (l : Hl) : (HL l).n = l.length := rfl
theorem hlT_app : ∀ (l : Hl) (i : Nat) (t : Tr CB) (c : CB), hlT i t (l ++ [c]) = (hlT i t l).set (i + l.length) c
 | [], i, t, c => rfl
 | x :: l, i, t, c => by
  simp only [List.cons_append, hlT, List.length_cons]
  rw [hlT_app l, show i + 1 + l.length = i + (l.length + 1) by omega]
theorem HL_push (l : Hl) (c : CB) : (HL l).push c = HL (l ++ [c]) := by
 unfold HL Hp.push
 rw [hlT_app]
 simp
theorem hlT_set : ∀ (l : Hl) (i j : Nat) (t : Tr CB) (c : CB), i < j → (hlT j t l).set i c = hlT j (t.set i c) l
 | [], _, _, _, _, _ => rfl
 | x :: l, i, j, t, c, h => by
  simp only [hlT]
  rw [hlT_set l i (j + 1) _ c (by omega), set_comm j t i x c (by omega)]
theorem hlT_mid : ∀ (l : Hl) (i b : Nat) (t : Tr CB) (c : CB), b < l.length → (hlT i t l).set (i + b) c = hlT i t (l.set b c)
 | [], _, _, _, _, h => by simp at h
 | x :: l, i, 0, t, c, _ => by
  simp only [hlT, List.set_cons_zero, Nat.add_zero]
  rw [hlT_set l i (i + 1) _ c (by omega), set_same]
 | x :: l, i, b + 1, t, c, h => by
  simp only [hlT, List.set_cons_succ]
  rw [← hlT_mid l (i + 1) b _ c (by simpa using h), show i + (b + 1) = i + 1 + b by omega]
theorem HL_set {l : Hl} {b : Nat} (c : CB) (h : b < l.length) : (HL l).set b c = HL (l.set b c) := by
 unfold HL Hp.set
 have := hlT_mid l 0 b .nil c h
 rw [Nat.zero_add] at this
 simp only [this, List.length_set]
theorem hlT_get : ∀ (l : Hl) (i : Nat) (t : Tr CB) (b : Nat), (hlT i t l).get b = if i ≤ b ∧ b < i + l.length then l[b - i]? else t.get b
 | [], i, t, b => by simp only [hlT, List.length_nil]; rw [if_neg (by omega)]
 | x :: l, i, t, b => by
  simp only [hlT, List.length_cons]
  rw [hlT_get l, Tr.get_set]
  by_cases h1 : i + 1 ≤ b ∧ b < i + 1 + l.length
  ·rw [if_pos h1, if_pos (by omega), show b - i = (b - (i + 1)) + 1 by omega, List.getElem?_cons_succ]
  ·rw [if_neg h1]
   by_cases h2 : b = i
   ·subst h2; rw [if_pos rfl, if_pos (by omega)]; simp
   ·rw [if_neg h2, if_neg (by omega)]
theorem HL_f (l : Hl) (b : Nat) : (HL l).f b = match l[b]? with | some c => c | none => .none := by
 unfold HL Hp.f
 simp only [hlT_get, Nat.zero_le, true_and, Nat.zero_add, Nat.sub_zero]
 by_cases h : b < l.length
 ·rw [if_pos h]; cases l[b]? <;> rfl
 ·rw [if_neg h, List.getElem?_eq_none (by omega)]; rfl
theorem HL_cells {l : Hl} {b n : Nat} {cs : List CV} : (HL l).f b = .cells n cs ↔ l[b]? = some (.cells n cs) := by
 rw [HL_f]
 cases h : l[b]? with
 | none => simp
 | some c => simp
theorem get_lt {l : Hl} {b : Nat} {c : CB} (h : l[b]? = some c) : b < l.length := (List.getElem?_eq_some_iff.1 h).1
def reachL (l : Hl) : CV → Option (List CV × Nat)
 | .ptr b off sz => match l[b]? with
  | some (.cells n cs) => if n = sz then some (cs, off) else none
  | _ => none
 | .rptr cs off => some (cs, off)
 | _ => none
def partA (n : Nat) (cs : List CV) (off : Nat) : Option CV := if off + n ≤ cs.length then some (.ag ((cs.drop off).take n)) else none
def storeL (n : Nat) (l : Hl) (p v : CV) : Option Hl :=
 match p, v.cells with
 | .ptr b off sz, some vs => match l[b]? with
  | some (.cells m cs) => if m = sz ∧ vs.length = n ∧ off + n ≤ m then some (l.set b (.cells m (splice cs off vs))) else none
  | _ => none
 | _, _ => none
def contentsL (l : Hl) (z : Nat) : CV → Option (List CV × Nat)
 | .nilS => some ([], 0)
 | .rsl z' es => if z = z' then some (es.flatten, es.length) else none
 | .sl z' b off len _ sz => match l[b]? with
  | some (.cells n cs) => if n = sz ∧ z = z' then some ((cs.drop off).take (len * z), len) else none
  | _ => none
 | .str s => if z = 1 then some (s.map byteC, s.length) else none
 | _ => none
def appendL (l : Hl) (z by_ : Nat) (s : CV) (xs : List CV) (n : Nat) : Option (CV × Hl) :=
 if n = 0 then (match s with | .nilS | .rsl .. | .sl .. => some (s, l) | _ => none)
 else if z = 0 ∨ by_ = 0 then none else match s with
  | .nilS => if n * by_ ≤ roomMax then some (.sl z l.length 0 n n (n * z), l ++ [.cells (n * z) xs]) else none
  | .sl z' b off len cap sz => match l[b]? with
   | some (.cells m cs) =>
    if m = sz ∧ z = z' ∧ (len + n) * by_ ≤ roomMax then
     if len + n ≤ cap then some (.sl z b off (len + n) cap sz, l.set b (.cells m (splice cs (off + len * z) xs)))
     else if off + cap * z < sz then some (.sl z l.length 0 (len + n) (len + n) ((len + n) * z), l ++ [.cells ((len + n) * z) ((cs.drop off).take (len * z) ++ xs)])
     else if off = 0 then some (.sl z b 0 (len + n) (len + n) ((len + n) * z), l.set b (.cells ((len + n) * z) (cs.take (len * z) ++ xs)))
     else some (.sl z l.length 0 (len + n) (len + n) ((len + n) * z), l.set b .dead ++ [.cells ((len + n) * z) ((cs.drop off).take (len * z) ++ xs)])
    else none
   | _ => none
  | _ => none
def copyL (z : Nat) (l : Hl) (d x : CV) : Option (CV × Hl) :=
 match contentsL l z x with
 | none => none
 | some (xs, n) => match d with
  | .nilS => some (.int .i64 0, l)
  | .sl z' b off len _ sz => match l[b]? with
   | some (.cells m cs) => if m = sz ∧ z = z' then some (.int .i64 ((min n len : Nat) : Int), l.set b (.cells m (splice cs off (xs.take (min n len * z))))) else none
   | _ => none
  | _ => none
def mapOfL (l : Hl) : CV → Option (List (CV × CV × Nat))
 | .nilM => some []
 | .mp b => match l[b]? with | some (.map es _) => some es | _ => none
 | _ => none
def bytesOfL (l : Hl) (x : CV) : Option (List UInt8) := match x with
 | .str s => some s
 | x => match contentsL l 1 x with
  | some (cs, _) => bytesOfC cs
  | none => none
def cmpL (l : Hl) (x y : CV) : Option CV := match bytesOfL l x, bytesOfL l y with
 | some a, some b => some (.int .i64 (cmpBytes a b))
 | _, _ => none
def nextL (l : Hl) (x : CV) : Option (CV × Hl) := match x with
 | .it b => match l[b]? with
  | some (.iter s pos) => match Nat.blt pos s.length with
   | true => some (.tu [.bool true, .int .i64 pos, .int .i32 (Utf8.decode ⟨s.toArray⟩ pos).1], l.set b (.iter s (pos + (Utf8.decode ⟨s.toArray⟩ pos).2)))
   | false => some (.tu [.bool false], l)
  | _ => none
 | _ => none
def rangeL (l : Hl) (x : CV) : Option (CV × Hl) := match x with
 | .str s => some (.it l.length, l ++ [.iter s 0])
 | _ => none
def lenMapL (l : Hl) (x : CV) : Option CV := match x with
 | .nilM => some (.int .i64 0)
 | .mp b => match l[b]? with | some (.map es _) => some (.int .i64 es.length) | _ => none
 | _ => none
def clearL (zero : List CV) (l : Hl) : CV → Option Hl
 | .nilS => some l
 | .rsl _ [] => some l
 | .sl z b off len _ sz => if len = 0 then some l else match l[b]? with
  | some (.cells m cs) => if m = sz ∧ zero.length = z then some (l.set b (.cells m (splice cs off (repeatC zero len)))) else none
  | _ => none
 | _ => none
theorem reach_HL (l : Hl) (p : CV) : reach (HL l) p = reachL l p := by
 cases p <;> try rfl
 rename_i b off sz
 simp only [reach, reachL, HL_f]
 cases l[b]? with
 | none => rfl
 | some c => cases c <;> rfl
theorem contents_HL (l : Hl) (z : Nat) (x : CV) : contents (HL l) z x = contentsL l z x := by
 cases x <;> try rfl
 rename_i z' b off len cap sz
 simp only [contents, contentsL, HL_f]
 cases l[b]? with
 | none => rfl
 | some c => cases c <;> rfl
section
variable (P : Program)
inductive TI where
 | arr (n z : Nat)
 | sl (z : Nat)
 | str
 deriving DecidableEq
def tiOf (t : TypeId) : Option TI := match P.underlying t with
 | some (.array n e) => (sizeT P e).map fun z => .arr n z
 | some (.slice e) => (sizeT P e).map fun z => .sl z
 | some .string => some .str
 | _ => none
inductive Mo where
 | mv (x : Operand)
 | pick (c a b : Operand)
 | alloc (zero : List CV)
 | box (x : Operand)
 | bld (zero : List CV) (ps : List (Nat × Nat × Operand))
 | bsl (z : Nat) (zero : List CV) (len : Nat) (ps : List (Nat × Operand))
 | ld1 (a : Operand)
 | ldA (n : Nat) (a : Operand)
 | st (n : Nat) (a x : Operand)
 | nilc (x : Operand)
 | bin (o : BinOp) (t : TypeId) (x y : Operand)
 | un (o : UnOp) (x : Operand)
 | cint (k : IntKind) (x : Operand)
 | cstr (x : Operand)
 | cbs (x : Operand)
 | csb (x : Operand)
 | mkI (t : TypeId) (x : Operand)
 | tas (t : TypeId) (z : CV) (ok : Bool) (x : Operand)
 | mkF (f : FuncId) (first captured : List Operand)
 | mks (z by_ : Nat) (zero : List CV) (l c : Operand)
 | slice (ti : TI) (x : Operand) (lo hi mx : Option Operand)
 | fa (off : Nat) (x : Operand)
 | fld1 (off : Nat) (x : Operand)
 | fldA (n off : Nat) (x : Operand)
 | ia (ti : TI) (x i : Operand)
 | ix1 (n z : Nat) (x i : Operand)
 | ixA (n z : Nat) (x i : Operand)
 | ixT (x i : Operand)
 | ext (x : Operand) (i : Nat)
 | len (ti : TI) (x : Operand)
 | cap (ti : TI) (x : Operand)
 | app (z by_ : Nat) (s x : Operand)
 | appZ (z by_ : Nat) (zero : List CV) (s x : Operand)
 | cpy (z : Nat) (d x : Operand)
 | clr (zero : List CV) (x : Operand)
 | min (x y : Operand)
 | max (x y : Operand)
 | mkM (x : Option Operand)
 | lkp (kt : TypeId) (zero : CV) (ok : Bool) (m k : Operand)
 | mup (kt : TypeId) (m k x : Operand)
 | lenMp (x : Operand)
 | rngS (x : Operand)
 | nxtS (x : Operand)
 | cmpB (f : FuncId) (fo x y : Operand)
 | stop
def lookupL (l : Hl) (kt : TypeId) (zero : CV) (ok : Bool) (m k : CV) : Option CV :=
 match mapOfL l m with
 | some es => match keyFits P kt k with
  | false => none
  | true => match findC P kt k es 0 with
   | some (some (_, v)) => some (if ok then .tu [v, .bool true] else v)
   | some none => some (if ok then .tu [zero, .bool false] else zero)
   | none => none
 | none => none
def mapUpdL (l : Hl) (kt : TypeId) (m k v : CV) : Option Hl :=
 match m with
 | .mp b => match l[b]? with
  | some (.map es ck) => match keyFits P kt k with
   | false => none
   | true => match findC P kt k es 0 with
    | some (some (i, _)) => some (l.set b (.map (es.modify i fun e => (k, v, e.2.2)) ck))
    | some none => some (l.set b (.map (es ++ [(k, v, ck)]) (ck + 1)))
    | none => none
  | _ => none
 | _ => none
def isFn (f : FuncId) : CV → Bool | .fn g [] [] => Nat.beq g f | _ => false
def pickC (c a b : CV) : Option CV := match c with | .bool t => some (if t then a else b) | _ => none
def nilcC (x : CV) : Option CV := match x with | .ptr b o s => some (.ptr b o s) | .rptr c o => some (.rptr c o) | .fn f a b => some (.fn f a b) | _ => none
def bldC (zero : List CV) : List (Nat × Nat × CV) → Option (List CV)
 | [] => some zero
 | (off, size, v) :: r => match v.cells with
  | some vs => if vs.length = size ∧ off + size ≤ zero.length then bldC (splice zero off vs) r else none
  | none => none
def cintC (k : IntKind) : CV → Option CV | .int _ n => some (.int k (k.wrap n)) | _ => none
def cstrC : CV → Option CV | .str s => some (.str s) | _ => none
def cbsC (l : Hl) (x : CV) : Option CV := match x with
 | .nilS => some (.str [])
 | .str _ => none
 | x => match contentsL l 1 x with | some (cs, _) => (bytesOfC cs).map .str | none => none
def csbC : CV → Option CV | .str s => some (.rsl 1 (s.map fun b => [byteC b])) | _ => none
def mksC (z by_ : Nat) (zero : List CV) (hl : Hl) (l c : CV) : Option (CV × Hl) := match l, c with
 | .int _ l, .int _ c => if 0 ≤ l ∧ l ≤ c ∧ c < 9223372036854775808 ∧ by_ * c ≤ roomMax then
   some (.sl z hl.length 0 l.toNat c.toNat (c.toNat * z), hl ++ [.cells (c.toNat * z) (repeatC zero c.toNat)]) else none
 | _, _ => none
def sliceM (ti : TI) (x : CV) (lo hi mx : Option CV) : Option CV :=
 match ti with
 | .arr n z => match boundsC n n lo hi mx with
  | some (l, hh, m) => match x with
   | .ptr b off sz => if off + m * z ≤ sz then (if m = l then some (.rsl z []) else some (.sl z b (off + l * z) (hh - l) (m - l) sz)) else none
   | .rptr cs off => if off + n * z ≤ cs.length then some (.rsl z (chunks z (hh - l) (cs.drop (off + l * z)))) else none
   | _ => none
  | none => none
 | .sl z => match x with
  | .sl z' b off len cap sz => if z = z' then (boundsC len cap lo hi mx).map fun (l, hh, m) => if m = l then .sl z b (off + l * z) 0 0 sz else .sl z b (off + l * z) (hh - l) (m - l) sz else none
  | .rsl z' es => if z = z' then (boundsC es.length es.length lo hi mx).map fun (l, hh, _) => .rsl z ((es.drop l).take (hh - l)) else none
  | .nilS => (boundsC 0 0 lo hi mx).map fun _ => .nilS
  | _ => none
 | .str => match x, mx with
  | .str s, none => (boundsC s.length s.length lo hi none).map fun (l, hh, _) => .str ((s.drop l).take (hh - l))
  | _, _ => none
def fldC1 (off : Nat) : CV → Option CV | .ag cs => cs[off]? | _ => none
def fldCA (n off : Nat) : CV → Option CV | .ag cs => partA n cs off | _ => none
def iaC (ti : TI) (x ix : CV) : Option CV :=
 match ix with
 | .int _ i => match ti with
  | .arr n z => if 0 ≤ i ∧ i < n then cellAt x (i.toNat * z) else none
  | .sl z => match x with
   | .sl z' b off len _ sz => if z = z' ∧ 0 ≤ i ∧ i < len then some (.ptr b (off + i.toNat * z) sz) else none
   | .rsl z' es => if z = z' ∧ 0 ≤ i then (es[i.toNat]?).map fun cs => .rptr cs 0 else none
   | _ => none
  | .str => none
 | _ => none
def ixC1 (n z : Nat) (x ix : CV) : Option CV := match x, ix with
 | .ag cs, .int _ i => if 0 ≤ i ∧ i < n then cs[i.toNat * z]? else none
 | _, _ => none
def ixCA (n z : Nat) (x ix : CV) : Option CV := match x, ix with
 | .ag cs, .int _ i => if 0 ≤ i ∧ i < n then partA z cs (i.toNat * z) else none
 | _, _ => none
def ixCT (x ix : CV) : Option CV := match x, ix with
 | .str s, .int _ i => if 0 ≤ i then (s[i.toNat]?).map byteC else none
 | _, _ => none
def extC (x : CV) (i : Nat) : Option CV := match x with | .tu vs => vs[i]? | _ => none
def lenM (ti : TI) (x : CV) : Option CV := match ti with
 | .arr n _ => some (.int .i64 n)
 | .sl _ => match x with
  | .nilS => some (.int .i64 0)
  | .sl _ _ _ len _ _ => some (.int .i64 len)
  | .rsl _ es => some (.int .i64 es.length)
  | _ => none
 | .str => match x with | .str s => some (.int .i64 s.length) | _ => none
def capM (ti : TI) (x : CV) : Option CV := match ti with
 | .arr n _ => some (.int .i64 n)
 | .sl _ => match x with | .nilS => some (.int .i64 0) | _ => none
 | .str => none
def appM (l : Hl) (z by_ : Nat) (s x : CV) : Option (CV × Hl) := match contentsL l z x with
 | none => none
 | some (xs, n) => appendL l z by_ s xs n
def appZM (l : Hl) (z by_ : Nat) (zero : List CV) (s x : CV) : Option (CV × Hl) := match x with
 | .int _ n => if 0 ≤ n ∧ n < 9223372036854775808 ∧ n.toNat * by_ ≤ roomMax then appendL l z by_ s (repeatC zero n.toNat) n.toNat else none
 | _ => none
def pu (l : Hl) (x : Option CV) : Option (CV × Hl) := x.map fun v => (v, l)
def mstep (ρ : Operand → CV) (l : Hl) : Mo → Option (CV × Hl)
 | .mv x => some (ρ x, l)
 | .pick c a b => pu l (pickC (ρ c) (ρ a) (ρ b))
 | .alloc zero => some (.ptr l.length 0 zero.length, l ++ [.cells zero.length zero])
 | .box x => (ρ x).cells.map fun cs => (.ptr l.length 0 cs.length, l ++ [.cells cs.length cs])
 | .bld zero ps => pu l ((bldC zero (ps.map fun p => (p.1, p.2.1, ρ p.2.2))).map .ag)
 | .bsl z zero len ps => (fillC (fun i => some (i * z, z)) (repeatC zero len) (ps.map fun p => (p.1, ρ p.2))).map fun cs => (.sl z l.length 0 len len (len * z), l ++ [.cells (len * z) cs])
 | .ld1 a => pu l ((reachL l (ρ a)).bind fun x => x.1[x.2]?)
 | .ldA n a => pu l ((reachL l (ρ a)).bind fun x => partA n x.1 x.2)
 | .st n a x => (storeL n l (ρ a) (ρ x)).map fun l' => (undefC, l')
 | .nilc x => pu l (nilcC (ρ x))
 | .bin o t x y => pu l (binC P o t (ρ x) (ρ y))
 | .un o x => pu l (unC o (ρ x))
 | .cint k x => pu l (cintC k (ρ x))
 | .cstr x => pu l (cstrC (ρ x))
 | .cbs x => pu l (cbsC l (ρ x))
 | .csb x => pu l (csbC (ρ x))
 | .mkI t x => some (.ifc t (ρ x), l)
 | .tas t z ok x => pu l (tasC t z ok (ρ x))
 | .mkF f a b => some (.fn f (a.map ρ) (b.map ρ), l)
 | .mks z by_ zero a c => mksC z by_ zero l (ρ a) (ρ c)
 | .slice ti x lo hi mx => pu l (sliceM ti (ρ x) (lo.map ρ) (hi.map ρ) (mx.map ρ))
 | .fa off x => pu l (cellAt (ρ x) off)
 | .fld1 off x => pu l (fldC1 off (ρ x))
 | .fldA n off x => pu l (fldCA n off (ρ x))
 | .ia ti x i => pu l (iaC ti (ρ x) (ρ i))
 | .ix1 n z x i => pu l (ixC1 n z (ρ x) (ρ i))
 | .ixA n z x i => pu l (ixCA n z (ρ x) (ρ i))
 | .ixT x i => pu l (ixCT (ρ x) (ρ i))
 | .ext x i => pu l (extC (ρ x) i)
 | .len ti x => pu l (lenM ti (ρ x))
 | .cap ti x => pu l (capM ti (ρ x))
 | .app z by_ s x => appM l z by_ (ρ s) (ρ x)
 | .appZ z by_ zero s x => appZM l z by_ zero (ρ s) (ρ x)
 | .cpy z d x => copyL z l (ρ d) (ρ x)
 | .clr zero x => (clearL zero l (ρ x)).map fun l' => (.tu [], l')
 | .min x y => pu l (min2C (ρ x) (ρ y))
 | .max x y => pu l (max2C (ρ x) (ρ y))
 | .mkM x => match x with
  | none => some (.mp l.length, l ++ [.map [] 0])
  | some o => match asInt (ρ o) with | some _ => some (.mp l.length, l ++ [.map [] 0]) | none => none
 | .lkp kt zero ok m k => pu l (lookupL P l kt zero ok (ρ m) (ρ k))
 | .mup kt m k x => (mapUpdL P l kt (ρ m) (ρ k) (ρ x)).map fun l' => (undefC, l')
 | .lenMp x => pu l (lenMapL l (ρ x))
 | .rngS x => rangeL l (ρ x)
 | .nxtS x => nextL l (ρ x)
 | .cmpB f fo x y => match isFn f (ρ fo) with | true => pu l (cmpL l (ρ x) (ρ y)) | false => none
 | .stop => none
def bldPs (t : TypeId) (ps : List (Nat × Operand)) : Option (List (Nat × Nat × Operand)) :=
 match P.underlying t with
 | some (.struct fs) => if fs.toList.all fun f => (sizeT P f.type).isSome then ps.mapM fun p => (placeS P fs p.1).map fun q => (q.1, q.2, p.2) else none
 | some (.array _ e) => (sizeT P e).map fun n => ps.map fun p => (p.1 * n, n, p.2)
 | _ => none
def compBuiltin (b : Builtin) (ts : List TypeId) (args : List Operand) : Option Mo :=
 match b, ts, args with
 | .len, [t], [x] => match P.underlying t with
  | some (.map _ _) => some (.lenMp x)
  | _ => (tiOf P t).map fun ti => .len ti x
 | .cap, [t], [x] => (tiOf P t).map fun ti => .cap ti x
 | .append, [t, u], [s, x] => match P.underlying u with
  | some (.int _) => (elemT P t).bind fun e => (sizeT P e).bind fun z => (bytesT P e).bind fun by_ => (zeroT P e).bind fun zero =>
    if zero.length = z ∧ zeroLen P e = some z then some (.appZ z by_ zero s x) else none
  | none => none
  | _ => (elemT P t).bind fun e => (sizeT P e).bind fun z => (bytesT P e).bind fun by_ => if zeroLen P e = some z then some (.app z by_ s x) else none
 | .copy, [t, _], [d, x] => (elemT P t).bind fun e => (sizeT P e).map fun z => .cpy z d x
 | .clear, [t], [x] => match P.underlying t with
  | some (.slice e) => (zeroT P e).map fun zero => .clr zero x
  | _ => none
 | .min, _, [x, y] => some (.min x y)
 | .max, _, [x, y] => some (.max x y)
 | _, _, _ => none
def compOp : Op → Option Mo
 | .move x | .assign x => some (.mv x)
 | .pick c a b => some (.pick c a b)
 | .alloc t => (zeroT P t).map .alloc
 | .box _ x => some (.box x)
 | .build t ps => (zeroT P t).bind fun zero => (bldPs P t ps.toList).map fun q => .bld zero q
 | .buildSlice t len ps => (elemT P t).bind fun e => (sizeT P e).bind fun z => (zeroT P e).bind fun zero =>
   if zero.length = z ∧ len * z ≤ 16777216 then some (.bsl z zero len ps.toList) else none
 | .load t a => match aggT P t, sizeT P t with
  | some true, some n => some (.ldA n a)
  | some false, _ => some (.ld1 a)
  | _, _ => none
 | .store t a x => (sizeT P t).map fun n => .st n a x
 | .nilCheck x => some (.nilc x)
 | .binOp o t x y _ => some (.bin o t x y)
 | .unOp o _ x => some (.un o x)
 | .convert s d x => match P.underlying s, P.underlying d with
  | some _, some (.int k) => some (.cint k x)
  | some (.slice e), some .string => match P.underlying e with
   | some (.int .u8) => some (.cbs x)
   | _ => none
  | some .string, some .string => some (.cstr x)
  | some .string, some (.slice e) => match P.underlying e with
   | some (.int .u8) => some (.csb x)
   | _ => none
  | _, _ => none
 | .makeInterface t x => match P.underlying t with
  | some (.interface _) | none => none
  | _ => some (.mkI t x)
 | .makeFunc (.func f) a b => some (.mkF f a.toList b.toList)
 | .makeSlice t l c => (elemT P t).bind fun e => (sizeT P e).bind fun z => (bytesT P e).bind fun by_ => (zeroT P e).bind fun zero =>
   if zero.length = z then some (.mks z by_ zero l c) else none
 | .slice t x lo hi mx => (tiOf P t).map fun ti => .slice ti x lo hi mx
 | .fieldAddr s x f => (fieldOf P s f).bind fun fd => match sizeT P fd.type with
  | some (_ + 1) => some (.fa fd.offset x)
  | _ => none
 | .field t x f => (fieldOf P t f).bind fun fd => match aggT P fd.type, sizeT P fd.type with
  | some true, some n => some (.fldA n fd.offset x)
  | some false, _ => some (.fld1 fd.offset x)
  | _, _ => none
 | .indexAddr t x i => match tiOf P t with
  | some (.arr n z) => some (.ia (.arr n z) x i)
  | some (.sl z) => some (.ia (.sl z) x i)
  | _ => none
 | .index t x i => match P.underlying t with
  | some (.array n e) => match sizeT P e, aggT P e with
   | some z, some true => some (.ixA n z x i)
   | some z, some false => some (.ix1 n z x i)
   | _, _ => none
  | some .string => some (.ixT x i)
  | _ => none
 | .extract x i => some (.ext x i)
 | .call c => match c.callee with
  | .builtin b => compBuiltin P b c.argTypes.toList c.args.toList
  | .value (.func f) => match P.funcs[f]?, c.args.toList with
   | some fn, [x, y] => if isCmp fn then some (.cmpB f (.func f) x y) else none
   | _, _ => none
  | _ => none
 | .makeMap t r => match P.underlying t with | some (.map _ _) => some (.mkM r) | _ => none
 | .lookup t m k ok => match P.underlying t with | some (.map kt et) => (zeroV P et).map fun z => .lkp kt z ok m k | _ => none
 | .mapUpdate t m k x | .insert t m k x => match P.underlying t with | some (.map kt _) => some (.mup kt m k x) | _ => none
 | .range t x => match P.underlying t with | some .string => some (.rngS x) | _ => none
 | .next it true => some (.nxtS it)
 | .panic _ => some .stop
 | .typeAssert x _ t ok => (tasT P t).map fun z => .tas t z ok x
 | _ => none
end
section
variable {P : Program}
theorem bind_some {α β : Type} {x : Option α} {f : α → Option β} {y : β} : x.bind f = some y ↔ ∃ a, x = some a ∧ f a = some y := by cases x <;> simp
theorem map_some {α β : Type} {x : Option α} {f : α → β} {y : β} : x.map f = some y ↔ ∃ a, x = some a ∧ f a = y := by cases x <;> simp
theorem pu_some {l l' : Hl} {x : Option CV} {v : CV} : pu l x = some (v, l') ↔ x = some v ∧ l' = l := by cases x <;> simp [pu, eq_comm]
theorem ite_some {α : Type} {p : Prop} [Decidable p] {x y : α} : (if p then some x else none) = some y ↔ p ∧ x = y := by by_cases p <;> simp_all
theorem appendL_ok {l l' : Hl} {e z by_ n : Nat} {s v : CV} {xs : List CV} (hz : zeroLen P e = some z) (h : appendL l z by_ s xs n = some (v, l')) : appendW P (HL l) e z by_ s xs n = some (v, HL l') := by
 unfold appendL at h
 unfold appendW
 by_cases hn : n = 0
 ·rw [if_pos hn] at h ⊢
  cases s <;> simp at h ⊢ <;> simp [h]
 ·rw [if_neg hn] at h ⊢
  by_cases h0 : z = 0 ∨ by_ = 0
  ·rw [if_pos h0] at h; cases h
  ·rw [if_neg h0] at h
   rw [if_neg (by simp only [hz]; simpa using h0)]
   cases s <;> simp only at h ⊢ <;> try (cases h; done)
   case nilS =>
    by_cases hr : n * by_ ≤ roomMax
    ·rw [if_pos hr] at h ⊢; cases h; rw [HL_push]; rfl
    ·rw [if_neg hr] at h; cases h
   case sl z' b off len cap sz =>
    cases hb : l[b]? with
    | none => rw [hb] at h; cases h
    | some c =>
     cases c <;> rw [hb] at h <;> (try simp only at h) <;> try (cases h; done)
     rename_i m cs
     rw [HL_cells.2 hb]
     simp only
     by_cases h1 : m = sz ∧ z = z' ∧ (len + n) * by_ ≤ roomMax
     ·rw [if_pos h1] at h ⊢
      by_cases h2 : len + n ≤ cap
      ·rw [if_pos h2] at h ⊢; cases h; rw [HL_set _ (get_lt hb)]
      ·rw [if_neg h2] at h ⊢
       by_cases h3 : off + cap * z < sz
       ·rw [if_pos h3] at h ⊢; cases h; rw [HL_push]; rfl
       ·rw [if_neg h3] at h ⊢
        by_cases h4 : off = 0
        ·rw [if_pos h4] at h ⊢; cases h; rw [HL_set _ (get_lt hb)]
        ·rw [if_neg h4] at h ⊢; cases h
         rw [HL_set _ (get_lt hb), HL_push]; rfl
     ·rw [if_neg h1] at h; cases h
theorem bldPsL_ok {t : TypeId} {ps : List (Nat × Operand)} {q : List (Nat × Nat × Operand)} (hq : bldPs P t ps = some q) (ρ : Operand → CV) (zero : List CV) (hz : zeroT P t = some zero) {cs : List CV}
  (hb : bldC zero (q.map fun p => (p.1, p.2.1, ρ p.2.2)) = some cs) : buildC P t (ps.map fun p => (p.1, ρ p.2)) = some (.ag cs) := by
 have fill : ∀ (place : Nat → Option (Nat × Nat)) (ps : List (Nat × Operand)) (q : List (Nat × Nat × Operand)) (zero : List CV),
   (ps.mapM fun p => (place p.1).map fun q => (q.1, q.2, p.2)) = some q → bldC zero (q.map fun p => (p.1, p.2.1, ρ p.2.2)) = some cs → fillC place zero (ps.map fun p => (p.1, ρ p.2)) = some cs := by
  intro place ps
  induction ps with
  | nil => intro q zero h1 h2; simp at h1; subst h1; simpa [bldC, fillC] using h2
  | cons p ps ih =>
   intro q zero h1 h2
   rw [List.mapM_cons] at h1
   simp only [Option.bind_eq_bind, bind_some, map_some, Option.pure_def, Option.some.injEq] at h1
   obtain ⟨a, ⟨a', h3, rfl⟩, q', h4, rfl⟩ := h1
   simp only [List.map_cons, bldC, fillC, h3] at h2 ⊢
   split at h2
   ·rename_i vs hv
    simp only [hv]
    split at h2
    ·rename_i h5
     rw [if_pos h5]
     exact ih _ _ h4 h2
    ·cases h2
   ·cases h2
 unfold bldPs at hq
 unfold buildC
 split at hq
 ·rename_i fs hu
  rw [hz, hu]
  simp only
  split at hq
  ·rename_i hall
   rw [if_neg (by simp [hall])]
   rw [fill _ _ _ _ hq hb]; rfl
  ·cases hq
 ·rename_i n e hu
  rw [map_some] at hq
  obtain ⟨n', h1, rfl⟩ := hq
  rw [hz, hu]
  simp only [h1]
  rw [fill (fun i => some (i * n', n')) ps _ zero ?_ hb]; rfl
  clear hb
  induction ps with
  | nil => rfl
  | cons p ps ih => rw [List.mapM_cons, ih]; rfl
 ·cases hq
theorem sliceL_ok {t : TypeId} {ti : TI} (ht : tiOf P t = some ti) (x : CV) (lo hi mx : Option CV) : sliceM ti x lo hi mx = sliceC P t x lo hi mx := by
 unfold tiOf at ht
 unfold sliceC
 split at ht
 ·rename_i n e hu
  rw [map_some] at ht
  obtain ⟨z, h1, rfl⟩ := ht
  rw [hu]; simp only [h1, sliceM]
  cases boundsC n n lo hi mx <;> rfl
 ·rename_i e hu
  rw [map_some] at ht
  obtain ⟨z, h1, rfl⟩ := ht
  rw [hu]; simp only [h1, sliceM]
  cases x <;> rfl
 ·rename_i hu
  cases ht
  rw [hu]; simp only [sliceM]
  cases x <;> cases mx <;> rfl
 ·cases ht
theorem lenL_ok {t : TypeId} {ti : TI} (ht : tiOf P t = some ti) {x v : CV} (h : lenM ti x = some v) : lenC P t x = some v := by
 unfold tiOf at ht
 unfold lenC
 split at ht
 ·rename_i n e hu
  rw [map_some] at ht
  obtain ⟨z, h1, rfl⟩ := ht
  rw [hu]; simpa [lenM] using h
 ·rename_i e hu
  rw [map_some] at ht
  obtain ⟨z, h1, rfl⟩ := ht
  rw [hu]; unfold lenM at h; cases x <;> simp_all
 ·rename_i hu
  cases ht
  rw [hu]; unfold lenM at h; cases x <;> simp_all
 ·cases ht
theorem capL_ok {t : TypeId} {ti : TI} (ht : tiOf P t = some ti) {x v : CV} (h : capM ti x = some v) : capC P t x = some v := by
 unfold tiOf at ht
 unfold capC
 split at ht
 ·rename_i n e hu
  rw [map_some] at ht
  obtain ⟨z, h1, rfl⟩ := ht
  rw [hu]; simpa [capM] using h
 ·rename_i e hu
  rw [map_some] at ht
  obtain ⟨z, h1, rfl⟩ := ht
  rw [hu]; unfold capM at h; cases x <;> simp_all
 ·rename_i hu
  cases ht
  rw [hu]; unfold capM at h; cases x <;> simp_all
 ·cases ht
theorem iaL_ok {t : TypeId} {ti : TI} (ht : tiOf P t = some ti) {x i v : CV} (h : iaC ti x i = some v) : indexAddrC P t x i = some v := by
 unfold tiOf at ht
 unfold indexAddrC
 unfold iaC at h
 cases i <;> (try simp only at h) <;> try (cases h; done)
 rename_i k i
 split at ht
 ·rename_i n e hu
  rw [map_some] at ht
  obtain ⟨z, h1, rfl⟩ := ht
  rw [hu]; simpa [asInt, h1] using h
 ·rename_i e hu
  rw [map_some] at ht
  obtain ⟨z, h1, rfl⟩ := ht
  rw [hu]; simp only [asInt, h1]; simp only at h
  cases x <;> simp only at h ⊢ <;> first | exact h | cases h
 ·rename_i hu
  cases ht
  simp only at h
  cases h
 ·cases ht
theorem storeL_ok {t : TypeId} {n : Nat} (hs : sizeT P t = some n) {l l' : Hl} {p v : CV} (h : storeL n l p v = some l') : storeC P (HL l) t p v = some (HL l') := by
 unfold storeL at h
 unfold storeC
 cases p <;> (try simp only at h) <;> try (cases h; done)
 rename_i b off sz
 cases hv : v.cells with
 | none => rw [hv] at h; cases h
 | some vs =>
  rw [hv] at h
  simp only [hs] at h ⊢
  cases hb : l[b]? with
  | none => rw [hb] at h; cases h
  | some c =>
   cases c <;> rw [hb] at h <;> (try simp only at h) <;> try (cases h; done)
   rename_i m cs
   rw [HL_cells.2 hb]
   simp only
   rw [ite_some] at h
   obtain ⟨h1, rfl⟩ := h
   rw [if_pos h1, HL_set _ (get_lt hb)]
theorem copyL_ok {t e : TypeId} {z : Nat} (he : elemT P t = some e) (hs : sizeT P e = some z) {l l' : Hl} {d x v : CV} (h : copyL z l d x = some (v, l')) : copyC P (HL l) t d x = some (v, HL l') := by
 unfold copyL at h
 unfold copyC
 rw [he]; simp only [hs, contents_HL]
 cases hc : contentsL l z x with
 | none => rw [hc] at h; cases h
 | some p =>
  obtain ⟨xs, n⟩ := p
  rw [hc] at h
  simp only at h ⊢
  cases d <;> simp only at h ⊢ <;> try (cases h; done)
  case nilS => cases h; rfl
  case sl z' b off len cap sz =>
   cases hb : l[b]? with
   | none => rw [hb] at h; cases h
   | some c =>
    cases c <;> rw [hb] at h <;> (try simp only at h) <;> try (cases h; done)
    rename_i m cs
    rw [HL_cells.2 hb]
    simp only
    rw [ite_some] at h
    obtain ⟨h1, h2⟩ := h
    cases h2
    rw [if_pos h1, HL_set _ (get_lt hb)]
theorem clearL_ok {t e : TypeId} {zero : List CV} (hu : P.underlying t = some (.slice e)) (hz : zeroT P e = some zero) {l l' : Hl} {x : CV} (h : clearL zero l x = some l') : clearC P (HL l) t x = some (HL l') := by
 unfold clearL at h
 unfold clearC
 rw [hu]
 cases x <;> (try simp only at h) <;> try (cases h; done)
 case nilS => cases h; rfl
 case rsl z es => cases es <;> simp only at h <;> cases h; rfl
 case sl z b off len cap sz =>
  simp only
  by_cases h0 : len = 0
  ·rw [if_pos h0] at h ⊢; cases h; rfl
  ·rw [if_neg h0] at h ⊢
   rw [hz]
   cases hb : l[b]? with
   | none => rw [hb] at h; cases h
   | some c =>
    cases c <;> rw [hb] at h <;> (try simp only at h) <;> try (cases h; done)
    rename_i m cs
    rw [HL_cells.2 hb]
    simp only
    rw [ite_some] at h
    obtain ⟨h1, rfl⟩ := h
    rw [if_pos h1, HL_set _ (get_lt hb)]
theorem mapUpdL_ok {t kt et : TypeId} (hu : P.underlying t = some (.map kt et)) {l l' : Hl} {m k x : CV} (h : mapUpdL P l kt m k x = some l') : mapUpdC P (HL l) t m k x = some (HL l') := by
 unfold mapUpdL at h
 unfold mapUpdC
 rw [hu]
 cases m <;> (try simp only at h) <;> try (cases h; done)
 rename_i b
 simp only [HL_f]
 cases hb : l[b]? with
 | none => rw [hb] at h; cases h
 | some c =>
  cases c <;> rw [hb] at h <;> simp only at h <;> try (cases h; done)
  rename_i es ck
  simp only
  cases hk : keyFits P kt k with
  | false => rw [hk] at h; cases h
  | true =>
   rw [hk] at h
   simp only at h ⊢
   cases hf : findC P kt k es 0 with
   | none => rw [hf] at h; cases h
   | some r =>
    rw [hf] at h
    cases r with
    | none => cases h; simp only [HL_set _ (get_lt hb)]
    | some jv => cases h; simp only [HL_set _ (get_lt hb)]
theorem load_1 {t : TypeId} (h1 : aggT P t = some false) (h : Hp) (p : CV) : loadC P h t p = (reach h p).bind fun x => x.1[x.2]? := by
 unfold loadC partC; rw [h1]; cases reach h p <;> rfl
theorem load_A {t : TypeId} {n : Nat} (h1 : aggT P t = some true) (h2 : sizeT P t = some n) (h : Hp) (p : CV) : loadC P h t p = (reach h p).bind fun x => partA n x.1 x.2 := by
 unfold loadC partC; rw [h1, h2]; cases reach h p <;> rfl
theorem builtinL_ok {b : Builtin} {ts : List TypeId} {args : List Operand} {m : Mo} (hm : compBuiltin P b ts args = some m) {ρ : Operand → CV} {l l' : Hl} {v : CV} (h : mstep P ρ l m = some (v, l')) :
  builtinC P (HL l) b ts (args.map ρ) = some (.val v (HL l')) := by
 unfold compBuiltin at hm
 split at hm
 ·rename_i x0
  split at hm
  ·rename_i k e hu
   cases hm
   simp only [mstep, pu_some] at h
   obtain ⟨h2, rfl⟩ := h
   unfold lenMapL at h2
   simp only [List.map_cons, List.map_nil, builtinC]
   cases hx : ρ x0 <;> rw [hx] at h2 <;> (try simp only at h2) <;> try (cases h2; done)
   ·cases h2; simp [lenC, lenMapC, hu]
   ·rename_i b
    cases hb : l'[b]? with
    | none => rw [hb] at h2; cases h2
    | some c =>
     cases c <;> rw [hb] at h2 <;> simp only at h2 <;> try (cases h2; done)
     cases h2
     simp [lenMapC, hu, HL_f, hb]
  ·rw [map_some] at hm
   obtain ⟨ti, h1, rfl⟩ := hm
   simp only [mstep, pu_some] at h
   obtain ⟨h2, rfl⟩ := h
   have h3 := lenL_ok h1 h2
   have h4 : ∀ x, lenMapC P (HL l') _ x = none := fun x => by
    unfold tiOf at h1
    unfold lenMapC
    split at h1 <;> first | (rename_i hu; rw [hu]; done) | (cases h1; done) | skip
    all_goals (rename_i hu; simp only [hu])
   simp only [List.map_cons, List.map_nil, builtinC, h4]
   simp [h3]
 ·rw [map_some] at hm
  obtain ⟨ti, h1, rfl⟩ := hm
  simp only [mstep, pu_some] at h
  obtain ⟨h2, rfl⟩ := h
  simp [builtinC, capL_ok h1 h2]
 ·rename_i t u s x
  simp only [List.map_cons, List.map_nil, builtinC]
  split at hm
  ·rename_i hu
   simp only [bind_some] at hm
   obtain ⟨e, h1, z, h2, by_, h3, zero, h4, hm⟩ := hm
   rw [ite_some] at hm
   obtain ⟨⟨h5, h6⟩, rfl⟩ := hm
   simp only [mstep] at h
   unfold appZM at h
   cases hx : ρ x <;> rw [hx] at h <;> (try simp only at h) <;> try (cases h; done)
   rename_i k n
   by_cases h7 : 0 ≤ n ∧ n < 9223372036854775808 ∧ n.toNat * by_ ≤ roomMax
   ·rw [if_pos h7] at h
    rw [hu]
    simp only [appendZC, h1, asInt, h2, h3, h4]
    rw [if_pos ⟨h5, h7⟩, appendL_ok h6 h]; rfl
   ·rw [if_neg h7] at h; cases h
  ·cases hm
  ·rename_i hn hu
   simp only [bind_some] at hm
   obtain ⟨e, h1, z, h2, by_, h3, hm⟩ := hm
   rw [ite_some] at hm
   obtain ⟨h6, rfl⟩ := hm
   simp only [mstep] at h
   unfold appM at h
   cases hc : contentsL l z (ρ x) with
   | none => rw [hc] at h; cases h
   | some p =>
    obtain ⟨xs, n⟩ := p
    rw [hc] at h
    simp only at h
    have : appendC P (HL l) t (ρ s) (ρ x) = some (v, HL l') := by
     simp only [appendC, h1, h2, h3, contents_HL, hc]
     exact appendL_ok h6 h
    rw [this]
    cases hd : P.underlying u with
    | none => exact absurd hd hu
    | some d =>
     cases d <;> first | rfl | (rename_i k; exact absurd hd (hn k))
 ·simp only [bind_some, map_some] at hm
  obtain ⟨e, h1, z, h2, rfl⟩ := hm
  simp only [mstep] at h
  simp [builtinC, copyL_ok h1 h2 h]
 ·split at hm
  ·rename_i e hu
   rw [map_some] at hm
   obtain ⟨zero, h1, rfl⟩ := hm
   simp only [mstep, map_some, Prod.mk.injEq] at h
   obtain ⟨l2, h2, rfl, rfl⟩ := h
   simp [builtinC, clearL_ok hu h1 h2]
  ·cases hm
 ·cases hm
  simp only [mstep, pu_some] at h
  obtain ⟨h2, rfl⟩ := h
  simp [builtinC, h2]
 ·cases hm
  simp only [mstep, pu_some] at h
  obtain ⟨h2, rfl⟩ := h
  simp [builtinC, h2]
 ·cases hm
theorem partC_1 {t : TypeId} (h1 : aggT P t = some false) (cs : List CV) (off : Nat) : partC P t cs off = cs[off]? := by unfold partC; rw [h1]
theorem partC_A {t : TypeId} {n : Nat} (h1 : aggT P t = some true) (h2 : sizeT P t = some n) (cs : List CV) (off : Nat) : partC P t cs off = partA n cs off := by unfold partC; rw [h1, h2]; rfl
theorem bytesStrC_none {s d : TypeId} {x : CV} (h : ∀ e, P.underlying d = some (.slice e) → False) : bytesStrC P s d x = none := by
 unfold bytesStrC
 split
 ·rename_i e hs hd hx
  exact (h e hx).elim
 ·rfl
theorem mstep_ok {op : Op} {m : Mo} (hm : compOp P op = some m) {ρ : Operand → CV} {l l' : Hl} {v : CV} (h : mstep P ρ l m = some (v, l')) : stepC P (HL l) ρ op = some (.val v (HL l')) := by
 cases op <;> simp only [compOp] at hm <;> try (cases hm; done)
 case move x => cases hm; simp only [mstep, Option.some.injEq, Prod.mk.injEq] at h; obtain ⟨rfl, rfl⟩ := h; rfl
 case assign x => cases hm; simp only [mstep, Option.some.injEq, Prod.mk.injEq] at h; obtain ⟨rfl, rfl⟩ := h; rfl
 case pick c a b =>
  cases hm; simp only [mstep, pu_some] at h
  obtain ⟨h2, rfl⟩ := h
  simp only [stepC]
  unfold pickC at h2
  cases hc : ρ c <;> rw [hc] at h2 <;> (try simp only at h2) <;> try (cases h2; done)
  cases h2; rfl
 case alloc t =>
  rw [map_some] at hm
  obtain ⟨zero, h1, rfl⟩ := hm
  simp only [mstep, Option.some.injEq, Prod.mk.injEq] at h
  obtain ⟨rfl, rfl⟩ := h
  simp only [stepC, h1, HL_push]; rfl
 case box t x =>
  cases hm
  simp only [mstep, map_some, Prod.mk.injEq] at h
  obtain ⟨cs, h1, rfl, rfl⟩ := h
  simp only [stepC, h1, HL_push]; rfl
 case build t ps =>
  simp only [bind_some, map_some] at hm
  obtain ⟨zero, h1, q, h2, rfl⟩ := hm
  simp only [mstep, pu_some, map_some] at h
  obtain ⟨⟨cs, h3, rfl⟩, rfl⟩ := h
  simp only [stepC, bldPsL_ok h2 ρ zero h1 h3]; rfl
 case buildSlice t n ps =>
  simp only [bind_some] at hm
  obtain ⟨e, h1, z, h2, zero, h3, hm⟩ := hm
  rw [ite_some] at hm
  obtain ⟨h4, rfl⟩ := hm
  simp only [mstep, map_some, Prod.mk.injEq] at h
  obtain ⟨cs, h5, rfl, rfl⟩ := h
  simp only [stepC, buildSliceC, h1, h2, h3, if_pos h4, h5, HL_push]; rfl
 case load t a =>
  split at hm
  ·rename_i n h1 h2
   cases hm
   simp only [mstep, pu_some] at h
   obtain ⟨h3, rfl⟩ := h
   simp only [stepC, load_A h1 h2, reach_HL, h3]; rfl
  ·rename_i h1
   cases hm
   simp only [mstep, pu_some] at h
   obtain ⟨h3, rfl⟩ := h
   simp only [stepC, load_1 h1, reach_HL, h3]; rfl
  ·cases hm
 case store t a x =>
  rw [map_some] at hm
  obtain ⟨n, h1, rfl⟩ := hm
  simp only [mstep, map_some, Prod.mk.injEq] at h
  obtain ⟨l2, h2, rfl, rfl⟩ := h
  simp only [stepC, storeL_ok h1 h2]; rfl
 case nilCheck x =>
  cases hm
  simp only [mstep, pu_some] at h
  obtain ⟨h2, rfl⟩ := h
  simp only [stepC]
  unfold nilcC at h2
  cases hc : ρ x <;> rw [hc] at h2 <;> simp only at h2 <;> first | (cases h2; done) | (cases h2; rfl)
 case binOp o t x y u =>
  cases hm
  simp only [mstep, pu_some] at h
  obtain ⟨h2, rfl⟩ := h
  simp only [stepC, h2]; rfl
 case unOp o t x =>
  cases hm
  simp only [mstep, pu_some] at h
  obtain ⟨h2, rfl⟩ := h
  simp only [stepC, h2]; rfl
 case convert s d x =>
  simp only [stepC]
  split at hm
  ·rename_i ds k hs hd
   cases hm
   simp only [mstep, pu_some] at h
   obtain ⟨h2, rfl⟩ := h
   rw [bytesStrC_none (fun e he => by rw [hd] at he; cases he)]
   unfold cintC at h2
   cases hx : ρ x <;> rw [hx] at h2 <;> (try simp only at h2) <;> try (cases h2; done)
   cases h2
   simp only [convertC, hs, hd]; rfl
  ·rename_i e hs hd
   split at hm
   ·rename_i he
    cases hm
    simp only [mstep, pu_some] at h
    obtain ⟨h2, rfl⟩ := h
    rw [bytesStrC_none (fun e he => by rw [hd] at he; cases he)]
    have : convertC P (HL l') s d (ρ x) = some v := by
     rw [← h2]
     unfold convertC cbsC
     rw [hs, hd]
     cases hx : ρ x <;> (simp only [he, contents_HL]) <;> (try rfl) <;> (rw [hx] at h2; unfold cbsC at h2; simp only at h2)
     ·cases h2
     all_goals (cases hc : contentsL l' 1 _ <;> rfl)
    rw [this]; rfl
   ·cases hm
  ·rename_i hs hd
   cases hm
   simp only [mstep, pu_some] at h
   obtain ⟨h2, rfl⟩ := h
   rw [bytesStrC_none (fun e he => by rw [hd] at he; cases he)]
   unfold cstrC at h2
   cases hx : ρ x <;> rw [hx] at h2 <;> (try simp only at h2) <;> try (cases h2; done)
   cases h2
   simp only [convertC, hs, hd]; rfl
  ·rename_i e hs hd
   split at hm
   ·rename_i he
    cases hm
    simp only [mstep, pu_some] at h
    obtain ⟨h2, rfl⟩ := h
    unfold csbC at h2
    cases hx : ρ x <;> rw [hx] at h2 <;> (try simp only at h2) <;> try (cases h2; done)
    cases h2
    simp only [bytesStrC, hs, hd, he]
   ·cases hm
  ·cases hm
 case makeInterface t x =>
  split at hm
  ·cases hm
  ·cases hm
  ·rename_i h1 h2
   cases hm
   simp only [mstep, Option.some.injEq, Prod.mk.injEq] at h
   obtain ⟨rfl, rfl⟩ := h
   simp only [stepC]
 case typeAssert x xt t ok =>
  rw [map_some] at hm
  obtain ⟨z, hz, rfl⟩ := hm
  simp only [mstep, pu_some] at h
  obtain ⟨h2, rfl⟩ := h
  simp only [stepC, hz, h2, Option.map_some]
 case makeFunc f a b =>
  cases f <;> simp only at hm <;> try (cases hm; done)
  cases hm
  simp only [mstep, Option.some.injEq, Prod.mk.injEq] at h
  obtain ⟨rfl, rfl⟩ := h
  rfl
 case makeSlice t a c =>
  simp only [bind_some] at hm
  obtain ⟨e, h1, z, h2, by_, h3, zero, h4, hm⟩ := hm
  rw [ite_some] at hm
  obtain ⟨h5, rfl⟩ := hm
  simp only [mstep] at h
  unfold mksC at h
  cases ha : ρ a <;> rw [ha] at h <;> (try simp only at h) <;> try (cases h; done)
  cases hc : ρ c <;> rw [hc] at h <;> (try simp only at h) <;> try (cases h; done)
  rw [ite_some] at h
  obtain ⟨h6, h7⟩ := h
  cases h7
  simp only [stepC, ha, hc, makeSliceC, h1, asInt, h2, h3, h4, if_pos (And.intro h5 h6), HL_push]; rfl
 case slice t x lo hi mx =>
  rw [map_some] at hm
  obtain ⟨ti, h1, rfl⟩ := hm
  simp only [mstep, pu_some] at h
  obtain ⟨h2, rfl⟩ := h
  rw [sliceL_ok h1] at h2
  simp only [stepC, h2]; rfl
 case fieldAddr s x f =>
  rw [bind_some] at hm
  obtain ⟨fd, h1, hm⟩ := hm
  split at hm
  ·rename_i n h2
   cases hm
   simp only [mstep, pu_some] at h
   obtain ⟨h3, rfl⟩ := h
   simp only [stepC, fieldAddrC, h1, h2, h3]; rfl
  ·cases hm
 case field t x f =>
  rw [bind_some] at hm
  obtain ⟨fd, h1, hm⟩ := hm
  split at hm
  ·rename_i n h2 h3
   cases hm
   simp only [mstep, pu_some] at h
   obtain ⟨h4, rfl⟩ := h
   unfold fldCA at h4
   cases hx : ρ x <;> rw [hx] at h4 <;> (try simp only at h4) <;> try (cases h4; done)
   simp only [stepC, hx, h1, partC_A h2 h3, h4]; rfl
  ·rename_i h2
   cases hm
   simp only [mstep, pu_some] at h
   obtain ⟨h4, rfl⟩ := h
   unfold fldC1 at h4
   cases hx : ρ x <;> rw [hx] at h4 <;> (try simp only at h4) <;> try (cases h4; done)
   simp only [stepC, hx, h1, partC_1 h2, h4]; rfl
  ·cases hm
 case indexAddr t x i =>
  split at hm
  ·rename_i n z h1
   cases hm
   simp only [mstep, pu_some] at h
   obtain ⟨h2, rfl⟩ := h
   simp only [stepC, iaL_ok h1 h2]; rfl
  ·rename_i z h1
   cases hm
   simp only [mstep, pu_some] at h
   obtain ⟨h2, rfl⟩ := h
   simp only [stepC, iaL_ok h1 h2]; rfl
  ·cases hm
 case index t x i =>
  split at hm
  ·rename_i n e hu
   split at hm
   ·rename_i z h1 h2
    cases hm
    simp only [mstep, pu_some] at h
    obtain ⟨h3, rfl⟩ := h
    unfold ixCA at h3
    cases hx : ρ x <;> rw [hx] at h3 <;> (try simp only at h3) <;> try (cases h3; done)
    cases hi : ρ i <;> rw [hi] at h3 <;> (try simp only at h3) <;> try (cases h3; done)
    simp only [stepC, indexC, hx, hi, hu, asInt, h1, partC_A h2 h1, h3]; rfl
   ·rename_i z h1 h2
    cases hm
    simp only [mstep, pu_some] at h
    obtain ⟨h3, rfl⟩ := h
    unfold ixC1 at h3
    cases hx : ρ x <;> rw [hx] at h3 <;> (try simp only at h3) <;> try (cases h3; done)
    cases hi : ρ i <;> rw [hi] at h3 <;> (try simp only at h3) <;> try (cases h3; done)
    simp only [stepC, indexC, hx, hi, hu, asInt, h1, partC_1 h2, h3]; rfl
   ·cases hm
  ·rename_i hu
   cases hm
   simp only [mstep, pu_some] at h
   obtain ⟨h3, rfl⟩ := h
   unfold ixCT at h3
   cases hx : ρ x <;> rw [hx] at h3 <;> (try simp only at h3) <;> try (cases h3; done)
   cases hi : ρ i <;> rw [hi] at h3 <;> (try simp only at h3) <;> try (cases h3; done)
   simp only [stepC, indexC, hx, hi, hu, asInt, h3]; rfl
  ·cases hm
 case extract x i =>
  cases hm
  simp only [mstep, pu_some] at h
  obtain ⟨h2, rfl⟩ := h
  unfold extC at h2
  cases hx : ρ x <;> rw [hx] at h2 <;> (try simp only at h2) <;> try (cases h2; done)
  simp only [stepC, hx, h2]; rfl
 case call c =>
  split at hm
  ·rename_i b hb
   simp only [stepC, callC, hb]
   exact builtinL_ok hm h
  ·rename_i f hf
   split at hm
   ·rename_i fn x y hfn hargs
    rw [ite_some] at hm
    obtain ⟨hi, rfl⟩ := hm
    simp only [mstep] at h
    split at h
    case h_2 => cases h
    rename_i hfn2
    rw [pu_some] at h
    obtain ⟨h2, rfl⟩ := h
    unfold cmpL at h2
    have hbl : ∀ x, bytesOfV (HL l') x = bytesOfL l' x := fun x => by
     cases x <;> simp only [bytesOfV, bytesOfL, contents_HL] <;> rfl
    have hns : ¬(fn.body.isSome = true ∧ fn.name ≠ "runtime.NumGoroutine") := by
     rintro ⟨a, _⟩
     unfold isCmp at hi
     simp only [Bool.and_eq_true] at hi
     rw [Option.isNone_iff_eq_none.1 hi.1.1] at a; cases a
    have hfe : ρ (.func f) = .fn f [] [] := by
     unfold isFn at hfn2
     split at hfn2
     ·rename_i g hg; rw [hg, Nat.eq_of_beq_eq_true hfn2]
     ·cases hfn2
    simp only [stepC, callC, hf, hfe, hfn, if_neg hns, if_pos hi, hargs, List.map_cons, List.map_nil, List.nil_append, List.append_nil, cmpC, hbl]
    cases ha : bytesOfL l' (ρ x) with
    | none => rw [ha] at h2; cases h2
    | some a =>
     cases hb : bytesOfL l' (ρ y) with
     | none => rw [ha, hb] at h2; cases h2
     | some b => rw [ha, hb] at h2; cases h2; rfl
   ·cases hm
  ·cases hm
 case panic x => cases hm; cases h
 case makeMap t r =>
  split at hm
  ·rename_i k e hu
   cases hm
   simp only [mstep] at h
   cases r with
   | none => cases h; simp [stepC, hu, HL_push]
   | some x =>
    simp only at h
    cases hx : asInt (ρ x) with
    | none => rw [hx] at h; cases h
    | some n => rw [hx] at h; cases h; simp [stepC, hu, hx, HL_push]
  ·cases hm
 case lookup t m k ok =>
  split at hm
  ·rename_i kt et hu
   rw [map_some] at hm
   obtain ⟨z, hz, rfl⟩ := hm
   simp only [mstep, pu_some] at h
   obtain ⟨h2, rfl⟩ := h
   have hmo : ∀ x, mapOf (HL l') x = mapOfL l' x := fun x => by
    cases x <;> try rfl
    rename_i b
    simp only [mapOf, mapOfL, HL_f]
    cases l'[b]? with
    | none => rfl
    | some c => cases c <;> rfl
   unfold lookupL at h2
   simp only [stepC, lookupC, hu, hmo]
   cases hes : mapOfL l' (ρ m) with
   | none => rw [hes] at h2; cases h2
   | some es =>
    rw [hes] at h2
    simp only at h2 ⊢
    cases hk : keyFits P kt (ρ k) with
    | false => rw [hk] at h2; cases h2
    | true =>
     rw [hk] at h2
     simp only at h2 ⊢
     cases hf : findC P kt (ρ k) es 0 with
     | none => rw [hf] at h2; cases h2
     | some r =>
      rw [hf] at h2
      cases r with
      | none => cases h2; simp [hz]
      | some jv => cases h2; rfl
  ·cases hm
 case mapUpdate t m k x =>
  split at hm
  ·rename_i kt et hu
   cases hm
   simp only [mstep, map_some] at h
   obtain ⟨l2, h2, h3⟩ := h
   cases h3
   simp only [stepC, mapUpdL_ok hu h2]; rfl
  ·cases hm
 case insert t m k x =>
  split at hm
  ·rename_i kt et hu
   cases hm
   simp only [mstep, map_some] at h
   obtain ⟨l2, h2, h3⟩ := h
   cases h3
   simp only [stepC, mapUpdL_ok hu h2]; rfl
  ·cases hm
 case range t x =>
  split at hm
  ·rename_i hu
   cases hm
   simp only [mstep] at h
   unfold rangeL at h
   cases hx : ρ x <;> rw [hx] at h <;> (try simp only at h) <;> try (cases h; done)
   cases h
   simp [stepC, rangeStrC, hu, hx, HL_push]
  ·cases hm
 case next it b =>
  cases b with
  | false => cases hm
  | true =>
   cases hm
   simp only [mstep] at h
   unfold nextL at h
   simp only [stepC, nextStrC]
   cases hx : ρ it <;> rw [hx] at h <;> (try simp only at h) <;> try (cases h; done)
   rename_i b
   simp only [HL_f]
   cases hb : l[b]? with
   | none => rw [hb] at h; cases h
   | some c =>
    cases c <;> rw [hb] at h <;> simp only at h <;> try (cases h; done)
    simp only
    split at h
    ·rename_i hlt; cases h; rw [hlt]; simp only [Option.map_some, HL_set _ (get_lt hb)]
    ·rename_i hlt; cases h; rw [hlt]; rfl
end
abbrev Sg := Nat → CV
abbrev KC := CExit → Sg → Hl → Prop
class Kt (α : Type) where
 k : α → Prop
class Pq where
 p : Prop
 q : Prop
class Kv where
 k : CV → Hl → Prop
class Kc where
 k : KC
def W {α : Type} (o : Option α) [c : Kt α] : Prop := match o with | some v => c.k v | none => False
def kIf (b : Bool) [c : Pq] : Prop := match b with | true => c.p | false => c.q
def kCond (x : CV) [c : Pq] : Prop := match x with | .bool b => kIf b (c := c) | _ => False
def kG (x : CV) (w : Bool) [c : Pq] : Prop := match x with | .bool b => kIf (b == w) (c := c) | .bad => False | _ => c.q
inductive Bd where
 | mo (m : Mo)
 | callF (f : FuncId) (args : List Operand)
 | callV (x : Operand) (args : List Operand)
 | callI (x : Operand) (name : String) (args : List Operand)
structure Stp where
 i : Nat
 dst : Option Tmp
 g : Option (Option Tmp × Bool)
 b : Bd
 chk : List Nat
 keep : Bool
inductive Cd where
 | skip
 | ret
 | exit (id : Nat)
 | reg (s : List Stp)
 | dreg (s : List Stp)
 | seq (a b : Cd)
 | cond (c : Operand) (x y : Cd)
 | block (id : Nat) (c : Cd)
 | loop (c : Cd)
section
variable (P : Program) (G : Nat → CV)
def funOkB (f : FuncId) : Bool := match P.funcs[f]? with | some fn => fn.body.isSome && fn.name != "runtime.NumGoroutine" | none => false
def CallP (f : FuncId) (args : List CV) (l : Hl) [c : Kv] : Prop := ∃ r l', Ev P G (.call f args (HL l) r (HL l')) ∧ l.length ≤ l'.length ∧ c.k r l'
def callVP (x : CV) (args : List CV) (l : Hl) [c : Kv] : Prop := match x with
 | .fn g first captured => funOkB P g = true ∧ CallP P G g (first ++ args ++ captured) l (c := c)
 | _ => False
def callIP (name : String) (x : CV) (args : List CV) (l : Hl) [c : Kv] : Prop := match x with
 | .ifc t v => match methC P t name with
  | some g => funOkB P g = true ∧ CallP P G g (v :: args) l (c := c)
  | none => False
 | _ => False
def AppK (v : CV) (l : Hl) [c : Kv] : Prop := c.k v l ∨ ∃ v2 l2, Wk (HL l) (HL l2) ∧ RdK (HL l) (HL l2) v v2 ∧ c.k v2 l2
def keepK (m : Mo) (v : CV) (l : Hl) (K : CV → Hl → Prop) : Prop := match m with
 | .app .. => AppK v l (c := ⟨K⟩)
 | _ => K v l
def stp (b : Bd) (σ : Sg) (l : Hl) (K : CV → Hl → Prop) : Prop := match b with
 | .mo m => W (mstep P (ev G σ) l m) (c := ⟨fun x => keepK m x.1 x.2 K⟩)
 | .callF f args => CallP P G f (args.map (ev G σ)) l (c := ⟨K⟩)
 | .callV x args => callVP P G (ev G σ x) (args.map (ev G σ)) l (c := ⟨K⟩)
 | .callI x name args => callIP P G name (ev G σ x) (args.map (ev G σ)) l (c := ⟨K⟩)
def kGo (σ : Sg) (g : Option (Option Tmp × Bool)) (p q : Prop) : Prop := match g with
 | none => p
 | some (some d, w) => kG (σ d) w (c := ⟨p, q⟩)
 | some (none, _) => q
def runS : List Stp → Sg → Hl → (Sg → Hl → Prop) → Prop
 | [], σ, l, K => K σ l
 | s :: r, σ, l, K => kGo σ s.g (stp P G s.b σ l fun v l' => runS r (putC σ s.dst v) l' K) (runS r (putC σ s.dst undefC) l K)
abbrev Seen := List (Nat × (Hl → Prop))
def chks (ids : List Nat) : Seen → Hl → Prop
 | [], _ => True
 | e :: r, l => (ids.contains e.1 = true → e.2 l) ∧ chks ids r l
def Mo.isNew : Mo → Bool
 | .alloc _ | .box _ | .bsl .. | .mks .. => true
 | _ => false
def stillP (b : Bd) (σ : Sg) (v : CV) (l l' l1 : Hl) : Prop := match b with
 | .mo m => match m.isNew with
  | true => l1[l.length]? = l'[l.length]?
  | false => mstep P (ev G σ) l1 m = some (v, l1)
 | _ => True
def seenAdd (keep : Bool) (i : Nat) (p : Hl → Prop) (s : Seen) : Seen := match keep with | true => (i, p) :: s | false => s
def runD : List Stp → Sg → Hl → Seen → (Sg → Hl → Prop) → Prop
 | [], σ, l, _, K => K σ l
 | s :: r, σ, l, seen, K => kGo σ s.g (stp P G s.b σ l fun v l' => chks s.chk seen l' ∧ runD r (putC σ s.dst v) l' (seenAdd s.keep s.i (stillP P G s.b σ v l l') seen) K) (runD r (putC σ s.dst undefC) l seen K)
def kSeq (k : Sg → Hl → Prop) (K : KC) : KC := fun e σ l => match e with
 | .normal => k σ l
 | .exit id => K (.exit id) σ l
 | .ret => K .ret σ l
def kBlock (id : Nat) (K : KC) : KC := fun e σ l => match e with
 | .normal => K .normal σ l
 | .exit id' => match Nat.beq id' id with | true => K .normal σ l | false => K (.exit id') σ l
 | .ret => K .ret σ l
def loopN (r : Sg → Hl → KC → Prop) : Nat → Sg → Hl → KC → Prop
 | 0 => fun _ _ _ => False
 | n + 1 => fun σ l K => r σ l (kSeq (fun σ l => loopN r n σ l K) K)
def LoopP (r : Sg → Hl → KC → Prop) (σ : Sg) (l : Hl) [c : Kc] : Prop := ∃ n, loopN r n σ l c.k
def run : Cd → Sg → Hl → KC → Prop
 | .skip, σ, l, K => K .normal σ l
 | .ret, σ, l, K => K .ret σ l
 | .exit id, σ, l, K => K (.exit id) σ l
 | .reg s, σ, l, K => runS P G s σ l (K .normal)
 | .dreg s, σ, l, K => runD P G s σ l [] (K .normal)
 | .seq a b, σ, l, K => run a σ l (kSeq (fun σ l => run b σ l K) K)
 | .cond c x y, σ, l, K => kCond (ev G σ c) (c := ⟨run x σ l K, run y σ l K⟩)
 | .block id c, σ, l, K => run c σ l (kBlock id K)
 | .loop c, σ, l, K => LoopP (run c) σ l (c := ⟨K⟩)
def stpOf (ops : Array Oper) (i : Nat) (chk : List Nat) (keep : Bool) : Option Stp := (ops[i]?).bind fun o =>
 let g := o.guard.map fun jw => ((ops[jw.1]?).bind (·.dst), jw.2)
 match compOp P o.op with
 | some m => some ⟨i, o.dst, g, .mo m, chk, keep⟩
 | none => match o.op with
  | .call c => match c.callee with
   | .value (.func f) => match funOkB P f with
    | true => some ⟨i, o.dst, g, .callF f c.args.toList, chk, keep⟩
    | false => none
   | .value x => some ⟨i, o.dst, g, .callV x c.args.toList, chk, keep⟩
   | .invoke x name => some ⟨i, o.dst, g, .callI x name c.args.toList, chk, keep⟩
   | _ => none
  | _ => none
def touches : Op → Bool
 | .load .. | .convert .. | .alloc _ | .box .. | .buildSlice .. | .makeSlice .. => true
 | .call c => match c.callee, c.argTypes.toList with
  | .builtin .len, [t] => match P.underlying t with | some (.map _ _) => true | _ => false
  | _, _ => false
 | _ => false
def chkAt (ms : List Nat) (ops : Array Oper) (done effs : List Nat) : List Nat :=
 done.filter fun j => (match ops[j]? with | some o => touches P o.op | none => false) && effs.all fun e => !preOf ms e j
def planGo (ms : List Nat) (ops : Array Oper) : List Nat → List Nat → List Nat → List (Nat × List Nat)
 | [], _, _ => []
 | i :: r, done, effs => match ops[i]? with
  | none => []
  | some o => match isEffOp o.op with
   | true => (i, chkAt P ms ops done (i :: effs)) :: planGo ms ops r (i :: done) (match o.guard with | none => i :: effs | some _ => effs)
   | false => (i, []) :: planGo ms ops r (i :: done) effs
def eagerB (ms : List Nat) (ops : Array Oper) : List Nat → Bool
 | [] => true
 | i :: r => (match ops[i]? with | some o => !isEffOp o.op || r.all fun j => preOf ms j i | none => false) && eagerB ms ops r
def compReg (N : Nat) (ops : Array Oper) (draw : Bool) : Option Cd :=
 match ops.toList.all fun o => dstOk N o.dst with
 | false => none
 | true => match draw with
  | false => ((List.range ops.size).mapM fun i => stpOf P ops i [] false).map .reg
  | true =>
   let ms := masksOf ops
   let ord := sched ms ops
   match orderB ms ops ord && eagerB ms ops ord with
   | false => none
   | true =>
    let plan := planGo P ms ops ord [] []
    let ask := plan.flatMap (·.2)
    match plan.mapM fun p => stpOf P ops p.1 p.2 (ask.contains p.1) with
    | none => none
    | some s => match ask with
     | [] => some (.reg s)
     | _ => some (.dreg s)
def comp (N : Nat) : Code → Option Cd
 | .skip => some .skip
 | .label _ => some .skip
 | .ret => some .ret
 | .exit id => some (.exit id)
 | .region _ ops draw => compReg P N ops draw
 | .seq a b => match comp N a, comp N b with
  | some .skip, some b => some b
  | some a, some .skip => some a
  | some a, some b => some (.seq a b)
  | _, _ => none
 | .cond c x y => match comp N x, comp N y with
  | some x, some y => some (.cond c x y)
  | _, _ => none
 | .block id c => (comp N c).map (.block id)
 | .loop c => (comp N c).map .loop
 | .scope c => comp N c
 | _ => none
def compF (f : FuncId) : Option Cd := match P.funcs[f]? with
 | some fn => match fn.body with
  | some c => comp P fn.ntmps c
  | none => none
 | none => none
end
section
variable {P : Program} {G : Nat → CV}
theorem appendL_len {l l' : Hl} {z by_ n : Nat} {s v : CV} {xs : List CV} (h : appendL l z by_ s xs n = some (v, l')) : l.length ≤ l'.length := by
 unfold appendL at h
 repeat' split at h
 all_goals first | (cases h; done) | (cases h; simp)
theorem mstep_len {ρ : Operand → CV} {l l' : Hl} {m : Mo} {v : CV} (h : mstep P ρ l m = some (v, l')) : l.length ≤ l'.length := by
 cases m <;> simp only [mstep, pu_some, map_some, Option.some.injEq, Prod.mk.injEq] at h
 case mv => obtain ⟨_, rfl⟩ := h; exact Nat.le_refl _
 case alloc => obtain ⟨_, rfl⟩ := h; simp
 case box => obtain ⟨_, _, _, rfl⟩ := h; simp
 case bsl => obtain ⟨_, _, _, rfl⟩ := h; simp
 case st n a x =>
  obtain ⟨_, h, _, rfl⟩ := h
  unfold storeL at h
  repeat' split at h
  all_goals first | (cases h; done) | (cases h; simp)
 case mkI => obtain ⟨_, rfl⟩ := h; exact Nat.le_refl _
 case mkF => obtain ⟨_, rfl⟩ := h; exact Nat.le_refl _
 case mks =>
  unfold mksC at h
  repeat' split at h
  all_goals first | (cases h; done) | (cases h; simp)
 case app =>
  unfold appM at h
  split at h
  ·cases h
  ·exact appendL_len h
 case appZ =>
  unfold appZM at h
  repeat' split at h
  all_goals first | (cases h; done) | exact appendL_len h
 case cpy =>
  unfold copyL at h
  repeat' split at h
  all_goals first | (cases h; done) | (cases h; simp)
 case clr =>
  obtain ⟨_, h, _, rfl⟩ := h
  unfold clearL at h
  repeat' split at h
  all_goals first | (cases h; done) | (cases h; simp)
 case stop => cases h
 case mkM x =>
  cases x with
  | none => cases h; simp
  | some o =>
   simp only at h
   split at h
   ·cases h; simp
   ·cases h
 case mup =>
  obtain ⟨_, h, _, rfl⟩ := h
  unfold mapUpdL at h
  repeat' split at h
  all_goals first | (cases h; done) | (cases h; simp)
 case rngS =>
  unfold rangeL at h
  repeat' split at h
  all_goals first | (cases h; done) | (cases h; simp)
 case nxtS =>
  unfold nextL at h
  repeat' split at h
  all_goals first | (cases h; done) | (cases h; simp)
 case cmpB =>
  split at h
  ·rw [pu_some] at h; obtain ⟨_, rfl⟩ := h; exact Nat.le_refl _
  ·cases h
 all_goals (obtain ⟨_, rfl⟩ := h; exact Nat.le_refl _)
theorem W_iff {α : Type} {o : Option α} {c : Kt α} : W o (c := c) ↔ ∃ v, o = some v ∧ c.k v := by
 unfold W; cases o <;> simp
theorem kIf_iff {b : Bool} {c : Pq} : kIf b (c := c) ↔ (b = true ∧ c.p) ∨ (b = false ∧ c.q) := by cases b <;> simp [kIf]
structure StpOk (P : Program) (ops : Array Oper) (s : Stp) (o : Oper) : Prop where
 here : ops[s.i]? = some o
 dst : s.dst = o.dst
 g : s.g = o.guard.map fun jw => ((ops[jw.1]?).bind (·.dst), jw.2)
 mo : ∀ m, s.b = .mo m → compOp P o.op = some m
 callF : ∀ f args, s.b = .callF f args → ∃ c : Call, o.op = .call c ∧ c.callee = .value (.func f) ∧ c.args.toList = args ∧ funOkB P f = true
 callV : ∀ x args, s.b = .callV x args → ∃ c : Call, o.op = .call c ∧ c.callee = .value x ∧ c.args.toList = args
 callI : ∀ x name args, s.b = .callI x name args → ∃ c : Call, o.op = .call c ∧ c.callee = .invoke x name ∧ c.args.toList = args
theorem stpOf_ok {ops : Array Oper} {i : Nat} {chk : List Nat} {keep : Bool} {s : Stp} (h : stpOf P ops i chk keep = some s) : ∃ o, StpOk P ops s o ∧ s.i = i ∧ s.chk = chk ∧ s.keep = keep := by
 unfold stpOf at h
 rw [bind_some] at h
 obtain ⟨o, ho, h⟩ := h
 refine ⟨o, ?_⟩
 simp only at h
 split at h
 ·rename_i m hm
  cases h
  exact ⟨⟨ho, rfl, rfl, fun m' h => (by cases h; exact hm), fun f a h => (by cases h), fun x a h => (by cases h), fun x n a h => (by cases h)⟩, rfl, rfl, rfl⟩
 ·split at h
  ·rename_i c hop
   split at h
   ·rename_i f hc
    split at h
    ·rename_i hf
     cases h
     exact ⟨⟨ho, rfl, rfl, fun m' h => (by cases h), fun f a h => (by cases h; exact ⟨c, hop, hc, rfl, hf⟩), fun x a h => (by cases h), fun x n a h => (by cases h)⟩, rfl, rfl, rfl⟩
    ·cases h
   ·rename_i x hx hc
    cases h
    exact ⟨⟨ho, rfl, rfl, fun m' h => (by cases h), fun f a h => (by cases h), fun x a h => (by cases h; exact ⟨c, hop, hc, rfl⟩), fun x n a h => (by cases h)⟩, rfl, rfl, rfl⟩
   ·rename_i x name hc
    cases h
    exact ⟨⟨ho, rfl, rfl, fun m' h => (by cases h), fun f a h => (by cases h), fun x a h => (by cases h), fun x n a h => by cases h; exact ⟨c, hop, hc, rfl⟩⟩, rfl, rfl, rfl⟩
   ·cases h
  ·cases h
theorem funOk_call {g : FuncId} (hf : funOkB P g = true) {h : Hp} {ρ : Operand → CV} {c : Call} {x : Operand} {first captured : List CV} (hc : c.callee = .value x) (hx : ρ x = .fn g first captured) :
  stepC P h ρ (.call c) = some (.call g (first ++ c.args.toList.map ρ ++ captured) h) := by
 unfold funOkB at hf
 simp only [stepC, callC, hc, hx]
 cases hfn : P.funcs[g]? with
 | none => rw [hfn] at hf; cases hf
 | some fn =>
  rw [hfn] at hf
  simp only [Bool.and_eq_true, bne_iff_ne] at hf
  simp only
  rw [if_pos hf]
theorem funOk_inv {g : FuncId} (hf : funOkB P g = true) {h : Hp} {ρ : Operand → CV} {c : Call} {x : Operand} {name : String} {t : TypeId} {v : CV} (hc : c.callee = .invoke x name) (hx : ρ x = .ifc t v) (hm : methC P t name = some g) :
  stepC P h ρ (.call c) = some (.call g (v :: c.args.toList.map ρ) h) := by
 unfold funOkB at hf
 simp only [stepC, callC, hc, hx, hm]
 cases hfn : P.funcs[g]? with
 | none => rw [hfn] at hf; cases hf
 | some fn =>
  rw [hfn] at hf
  simp only [Bool.and_eq_true, bne_iff_ne] at hf
  simp only
  rw [if_pos hf]
def Mo.looks : Mo → Bool
 | .alloc _ | .box _ | .bsl .. | .mks .. | .st .. | .app .. | .appZ .. | .cpy .. | .clr .. | .mkM _ | .lkp .. | .mup .. | .rngS _ | .nxtS _ | .cmpB .. | .tas .. | .stop => false
 | _ => true
theorem keep_cases {m : Mo} {v : CV} {l : Hl} {K : CV → Hl → Prop} (h : keepK m v l K) : K v l ∨ (m.looks = false ∧ m.isNew = false ∧ ∃ v2 l2, Wk (HL l) (HL l2) ∧ RdK (HL l) (HL l2) v v2 ∧ K v2 l2) := by
 cases m <;> first | exact .inl h | skip
 rcases h with h | h
 ·exact .inl h
 ·exact .inr ⟨rfl, rfl, h⟩
theorem keep_mono {m : Mo} {v : CV} {l : Hl} {K K' : CV → Hl → Prop} (hK : ∀ v l, K v l → K' v l) (h : keepK m v l K) : keepK m v l K' := by
 cases m <;> first | exact hK _ _ h | skip
 rcases h with h | ⟨v2, l2, h1, h2, h3⟩
 ·exact .inl (hK _ _ h)
 ·exact .inr ⟨v2, l2, h1, h2, hK _ _ h3⟩
theorem stp_ok {ops : Array Oper} {s : Stp} {o : Oper} (ok : StpOk P ops s o) {σ : Sg} {l : Hl} {K : CV → Hl → Prop} (h : stp P G s.b σ l K) :
  ∃ v l', Ev P G (.op o.op σ (HL l) v (HL l')) ∧ l.length ≤ l'.length ∧ K v l' ∧ ∀ m, s.b = .mo m → (m.looks = true ∨ m.isNew = true) → mstep P (ev G σ) l m = some (v, l') := by
 cases hb : s.b with
 | mo m =>
  rw [hb] at h
  simp only [stp, W_iff] at h
  obtain ⟨⟨v, l'⟩, h1, h2⟩ := h
  have he := Ev.opVal (G := G) (mstep_ok (ok.mo m hb) h1)
  rcases keep_cases h2 with h2 | ⟨n1, n2, v2, l2, k1, k2, k3⟩
  ·exact ⟨v, l', he, mstep_len h1, h2, fun m' hm _ => by cases hm; exact h1⟩
  ·refine ⟨v2, l2, .wkOp he k1 k2, Nat.le_trans (mstep_len h1) (Nat.le_of_eq k1.n.symm), k3, fun m' hm hl => ?_⟩
   cases hm
   rw [n1, n2] at hl
   rcases hl with h | h <;> cases h
 | callF f args =>
  rw [hb] at h
  obtain ⟨r, l', h1, h2, h3⟩ := h
  obtain ⟨c, hop, hc, ha, hf⟩ := ok.callF f args hb
  refine ⟨r, l', ?_, h2, h3, fun m' hm _ => by cases hm⟩
  rw [hop]
  refine .opCall (funOk_call hf hc rfl) ?_
  simpa [ha] using h1
 | callV x args =>
  rw [hb] at h
  simp only [stp] at h
  obtain ⟨c, hop, hc, ha⟩ := ok.callV x args hb
  unfold callVP at h
  split at h
  ·rename_i g first captured hx
   obtain ⟨hf, r, l', h1, h2, h3⟩ := h
   refine ⟨r, l', ?_, h2, h3, fun m' hm _ => by cases hm⟩
   rw [hop]
   refine .opCall (funOk_call hf hc hx) ?_
   rw [ha]; exact h1
  ·cases h
 | callI x name args =>
  rw [hb] at h
  simp only [stp] at h
  obtain ⟨c, hop, hc, ha⟩ := ok.callI x name args hb
  unfold callIP at h
  split at h
  ·rename_i t v hx
   split at h
   ·rename_i g hm
    obtain ⟨hf, r, l', h1, h2, h3⟩ := h
    refine ⟨r, l', ?_, h2, h3, fun m' hm _ => by cases hm⟩
    rw [hop]
    refine .opCall (funOk_inv hf hc hx hm) ?_
    rw [ha]; exact h1
   ·cases h
  ·cases h
theorem kGo_ok {ops : Array Oper} {s : Stp} {o : Oper} (ok : StpOk P ops s o) {σ : Sg} {p q : Prop} (h : kGo σ s.g p q) : (wantedC ops σ o = some true ∧ p) ∨ (wantedC ops σ o = some false ∧ q) := by
 rw [ok.g] at h
 unfold wantedC
 cases hg : o.guard with
 | none => rw [hg] at h; exact .inl ⟨rfl, h⟩
 | some jw =>
  obtain ⟨j, w⟩ := jw
  rw [hg] at h
  simp only [Option.map_some] at h ⊢
  cases hd : (ops[j]?).bind (·.dst) with
  | none => rw [hd] at h; exact .inr ⟨rfl, h⟩
  | some d =>
   rw [hd] at h
   simp only [kGo, kG] at h ⊢
   cases hs : σ d <;> rw [hs] at h <;> simp only at h ⊢ <;> first | exact .inr ⟨trivial, h⟩ | (cases h; done) | skip
   rw [kIf_iff] at h
   rcases h with ⟨h1, h2⟩ | ⟨h1, h2⟩
   ·exact .inl ⟨by rw [h1], h2⟩
   ·exact .inr ⟨by rw [h1], h2⟩
inductive AllOk (P : Program) (ops : Array Oper) : List Stp → List Oper → Prop
 | nil : AllOk P ops [] []
 | cons {s o ss os} : StpOk P ops s o → AllOk P ops ss os → AllOk P ops (s :: ss) (o :: os)
theorem runS_ok {ops : Array Oper} {N : Nat} (hN : ∀ (i : Nat) (o : Oper), ops[i]? = some o → dstOk N o.dst = true) {K : Sg → Hl → Prop} : ∀ {s : List Stp} {os : List Oper} {σ : Sg} {l : Hl},
  AllOk P ops s os → runS P G s σ l K → ∃ σ' l', Ev P G (.ops ops os N σ (HL l) σ' (HL l')) ∧ l.length ≤ l'.length ∧ K σ' l'
 | [], _, σ, l, hf, h => by cases hf; exact ⟨σ, l, .opsNil, Nat.le_refl _, h⟩
 | s :: r, _, σ, l, hf, h => by
  cases hf with
  | cons ok hf =>
   rename_i o os
   rcases kGo_ok ok h with ⟨hw, h⟩ | ⟨hw, h⟩
   ·obtain ⟨v, l1, h1, h2, h3, _⟩ := stp_ok ok h
    obtain ⟨σ', l', h4, h5, h6⟩ := runS_ok hN hf h3
    exact ⟨σ', l', .opsOp hw (hN _ _ ok.here) h1 (by rw [← ok.dst]; exact h4), Nat.le_trans h2 h5, h6⟩
   ·obtain ⟨σ', l', h4, h5, h6⟩ := runS_ok hN hf h
    exact ⟨σ', l', .opsSkip hw (hN _ _ ok.here) (by rw [← ok.dst]; exact h4), h5, h6⟩
theorem reachL_grow {l x : Hl} {p : CV} {y : List CV × Nat} (h : reachL l p = some y) : reachL (l ++ x) p = some y := by
 cases p <;> first | exact h | skip
 rename_i b off sz
 simp only [reachL] at h ⊢
 cases hb : l[b]? with
 | none => rw [hb] at h; cases h
 | some c => rw [hb] at h; rw [List.getElem?_append_left (get_lt hb), hb]; exact h
theorem contentsL_grow {l x : Hl} {z : Nat} {p : CV} {y : List CV × Nat} (h : contentsL l z p = some y) : contentsL (l ++ x) z p = some y := by
 cases p <;> first | exact h | skip
 rename_i z' b off len cap sz
 simp only [contentsL] at h ⊢
 cases hb : l[b]? with
 | none => rw [hb] at h; cases h
 | some c => rw [hb] at h; rw [List.getElem?_append_left (get_lt hb), hb]; exact h
theorem cbsC_grow {l x : Hl} {p v : CV} (h : cbsC l p = some v) : cbsC (l ++ x) p = some v := by
 unfold cbsC at h ⊢
 cases p <;> simp only at h ⊢ <;> first | exact h | skip
 all_goals
  split at h
  ·rename_i cs n hc
   rw [contentsL_grow hc]; exact h
  ·cases h
def Mo.reads : Mo → Bool
 | .ld1 _ | .ldA .. | .cbs _ | .lenMp _ => true
 | _ => false
theorem looks_same {ρ : Operand → CV} {l l' : Hl} {m : Mo} {v : CV} (hm : m.looks = true) (h : mstep P ρ l m = some (v, l')) : l' = l := by
 cases m <;> simp only [Mo.looks, Bool.true_eq, Bool.false_eq_true, reduceCtorEq] at hm <;> simp only [mstep, pu_some, Option.some.injEq, Prod.mk.injEq] at h <;> first | exact h.2 | exact h.2.symm
theorem looks_grow {ρ : Operand → CV} {l x : Hl} {m : Mo} {v : CV} (hm : m.looks = true) (h : mstep P ρ l m = some (v, l)) : mstep P ρ (l ++ x) m = some (v, l ++ x) := by
 cases m <;> simp only [Mo.looks, Bool.true_eq, Bool.false_eq_true, reduceCtorEq] at hm <;> simp only [mstep, pu_some, Option.some.injEq, Prod.mk.injEq, and_true] at h ⊢ <;> try exact h
 case ld1 a =>
  rw [bind_some] at h ⊢
  obtain ⟨y, h1, h2⟩ := h
  exact ⟨y, reachL_grow h1, h2⟩
 case ldA n a =>
  rw [bind_some] at h ⊢
  obtain ⟨y, h1, h2⟩ := h
  exact ⟨y, reachL_grow h1, h2⟩
 case cbs x => exact cbsC_grow h
 case lenMp y =>
  unfold lenMapL at h ⊢
  cases hx : ρ y <;> rw [hx] at h <;> (try simp only at h) <;> try (cases h; done)
  ·exact h
  ·rename_i b
   cases hb : l[b]? with
   | none => rw [hb] at h; cases h
   | some c => simp only [List.getElem?_append_left (get_lt hb)]; exact h
theorem looks_indep {ρ : Operand → CV} {l l2 : Hl} {m : Mo} {v : CV} (hm : m.looks = true) (hr : m.reads = false) (h : mstep P ρ l m = some (v, l)) : mstep P ρ l2 m = some (v, l2) := by
 cases m <;> simp only [Mo.looks, Bool.true_eq, Bool.false_eq_true, reduceCtorEq] at hm <;> simp only [Mo.reads, reduceCtorEq] at hr <;> simp only [mstep, pu_some, Option.some.injEq, Prod.mk.injEq, and_true] at h ⊢ <;> exact h
theorem repeatC_len (zero : List CV) : ∀ n, (repeatC zero n).length = n * zero.length
 | 0 => by simp [repeatC]
 | n + 1 => by rw [repeatC, List.length_append, repeatC_len zero n, Nat.succ_mul, Nat.add_comm]
theorem splice_len {cs vs : List CV} {off : Nat} (h : off + vs.length ≤ cs.length) : (splice cs off vs).length = cs.length := by
 simp only [splice, List.length_append, List.length_take, List.length_drop]; omega
theorem fillC_len {place : Nat → Option (Nat × Nat)} : ∀ {ps : List (Nat × CV)} {zero cs : List CV}, fillC place zero ps = some cs → cs.length = zero.length
 | [], zero, cs, h => by simp only [fillC, Option.some.injEq] at h; rw [← h]
 | (i, v) :: r, zero, cs, h => by
  unfold fillC at h
  split at h
  ·rename_i off size vs _ _
   split at h
   ·rename_i h1
    rw [fillC_len h, splice_len (by omega)]
   ·cases h
  ·cases h
theorem new_ok_L {op : Op} {m : Mo} (hm : compOp P op = some m) (hn : m.isNew = true) {ρ : Operand → CV} {l l' : Hl} {v : CV} (h : mstep P ρ l m = some (v, l')) :
  ∃ cs mk, newC P ρ op = some (cs, mk) ∧ v = mk l.length ∧ l' = l ++ [.cells cs.length cs] := by
 cases op <;> simp only [compOp] at hm <;> try (cases hm; done)
 case alloc t =>
  rw [map_some] at hm
  obtain ⟨zero, h1, rfl⟩ := hm
  simp only [mstep, Option.some.injEq, Prod.mk.injEq] at h
  obtain ⟨rfl, rfl⟩ := h
  exact ⟨zero, _, by simp only [newC, h1]; rfl, rfl, rfl⟩
 case box t x =>
  cases hm
  simp only [mstep, map_some, Prod.mk.injEq] at h
  obtain ⟨cs, h1, rfl, rfl⟩ := h
  exact ⟨cs, _, by simp only [newC, h1]; rfl, rfl, rfl⟩
 case buildSlice t n ps =>
  simp only [bind_some] at hm
  obtain ⟨e, h1, z, h2, zero, h3, hm⟩ := hm
  rw [ite_some] at hm
  obtain ⟨h4, rfl⟩ := hm
  simp only [mstep, map_some, Prod.mk.injEq] at h
  obtain ⟨cs, h5, rfl, rfl⟩ := h
  have hlen : cs.length = n * z := by rw [fillC_len h5, repeatC_len, h4.1]
  exact ⟨cs, _, by simp only [newC, h1, h2, h3, if_pos h4, h5]; rfl, rfl, by rw [hlen]⟩
 case makeSlice t a c =>
  simp only [bind_some] at hm
  obtain ⟨e, h1, z, h2, by_, h3, zero, h4, hm⟩ := hm
  rw [ite_some] at hm
  obtain ⟨h5, rfl⟩ := hm
  simp only [mstep] at h
  unfold mksC at h
  cases ha : ρ a <;> rw [ha] at h <;> (try simp only at h) <;> try (cases h; done)
  cases hc : ρ c <;> rw [hc] at h <;> (try simp only at h) <;> try (cases h; done)
  rw [ite_some] at h
  obtain ⟨h6, h7⟩ := h
  cases h7
  rename_i kc nc
  have hlen : (repeatC zero nc.toNat).length = nc.toNat * z := by rw [repeatC_len, h5]
  exact ⟨repeatC zero nc.toNat, _, by simp only [newC, ha, hc, h1, asInt, h2, h3, h4]; rw [if_pos ⟨h5, h6⟩], rfl, by rw [hlen]⟩
 case pick => cases hm; cases hn
 case move => cases hm; cases hn
 case assign => cases hm; cases hn
 case nilCheck => cases hm; cases hn
 case binOp => cases hm; cases hn
 case unOp => cases hm; cases hn
 case call c =>
  exfalso
  split at hm
  ·unfold compBuiltin at hm
   repeat' split at hm
   all_goals first
    | (cases hm; done)
    | (cases hm; cases hn; done)
    | (simp only [bind_some, map_some] at hm; obtain ⟨_, _, rfl⟩ := hm; cases hn; done)
    | (simp only [bind_some, map_some] at hm; obtain ⟨_, _, _, _, rfl⟩ := hm; cases hn; done)
    | (simp only [bind_some, ite_some] at hm; obtain ⟨_, _, _, _, _, _, _, rfl⟩ := hm; cases hn; done)
    | (simp only [bind_some, ite_some] at hm; obtain ⟨_, _, _, _, _, _, _, _, _, rfl⟩ := hm; cases hn; done)
  ·split at hm
   ·rw [ite_some] at hm; obtain ⟨_, rfl⟩ := hm; cases hn
   ·cases hm
  ·cases hm
 case next it b => exfalso; cases b <;> simp only [reduceCtorEq] at hm <;> cases hm <;> cases hn
 case panic => cases hm; cases hn
 case lookup => exfalso; split at hm <;> (try cases hm; done); rw [map_some] at hm; obtain ⟨_, _, rfl⟩ := hm; cases hn
 case build => exfalso; simp only [bind_some, map_some] at hm; obtain ⟨_, _, _, _, rfl⟩ := hm; cases hn
 case typeAssert => exfalso; rw [map_some] at hm; obtain ⟨_, _, rfl⟩ := hm; cases hn
 case store => exfalso; rw [map_some] at hm; obtain ⟨_, _, rfl⟩ := hm; cases hn
 case slice => exfalso; rw [map_some] at hm; obtain ⟨_, _, rfl⟩ := hm; cases hn
 case fieldAddr => exfalso; rw [bind_some] at hm; obtain ⟨_, _, hm⟩ := hm; split at hm <;> cases hm; cases hn
 case field => exfalso; rw [bind_some] at hm; obtain ⟨_, _, hm⟩ := hm; split at hm <;> cases hm <;> cases hn
 case extract => cases hm; cases hn
 case makeFunc f a b => exfalso; cases f <;> simp only at hm <;> cases hm; cases hn
 all_goals
  exfalso
  repeat' split at hm
  all_goals first | (cases hm; done) | (cases hm; cases hn; done)
end
end Go.CM

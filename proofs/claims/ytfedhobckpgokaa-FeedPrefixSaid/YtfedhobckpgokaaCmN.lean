/-
  The canonical machine, part N: a region that draws its order.
-/
import Derived.Test.YtfedhobckpgokaaCmM
namespace Go.CM
open Go
set_option linter.unusedVariables false
set_option linter.unusedSimpArgs false

section
variable {P : Program} {G : Nat → CV}

theorem writer_some {ops : Array Oper} {t i : Nat} (h : writer ops t = some i) : ∃ o, ops[i]? = some o ∧ o.dst = some t := by
  unfold writer at h
  have := List.find?_some h
  cases ho : ops[i]? with
  | none => simp [ho] at this
  | some o => exact ⟨o, rfl, by simpa [ho] using this⟩

/-- What the temporaries hold once these operations have been carried out. -/
def slotsAt (ops : Array Oper) (val σ : Nat → CV) (listed : Array Bool) : Nat → CV := fun t =>
  match writer ops t with
  | some i => if listed.getD i false then val i else σ t
  | none => σ t

theorem down_chain {ops : Array Oper} {pre : Nat → Nat → Bool} (txt : DrawText ops pre) {listed : Array Bool}
    (down : ∀ (i : Nat) (o : Oper) (e : Edge), ops[i]? = some o → listed.getD i false = true → e ∈ o.after → Region.binds .any e = true → listed.getD e.on false = true)
    (hin : ∀ i, listed.getD i false = true → ∃ o, ops[i]? = some o) : ∀ (i : Nat), listed.getD i false = true → ∀ j, pre i j = true → listed.getD j false = true := by
  intro i
  induction i using Nat.strongRecOn with
  | _ i ih =>
    intro hi j hj
    obtain ⟨o, ho⟩ := hin i hi
    obtain ⟨e, he, hb, hej⟩ := txt.chain i o j ho hj
    have hle := down i o e ho hi he hb
    rcases hej with rfl | hej
    · exact hle
    · exact ih e.on (txt.edge i o e ho he hb) hle j hej

theorem getD_set (listed : Array Bool) (i j : Nat) (hi : i < listed.size) : (listed.setIfInBounds i true).getD j false = if j = i then true else listed.getD j false := by
  rw [Array.getD_eq_getD_getElem?, Array.getElem?_setIfInBounds]
  by_cases h : i = j
  · subst h; simp [hi]
  · rw [if_neg h, if_neg (Ne.symm h), Array.getD_eq_getD_getElem?]

theorem slots_put {ops : Array Oper} {pre : Nat → Nat → Bool} (txt : DrawText ops pre) {val σ : Nat → CV} {listed : Array Bool} {i : Nat} {o : Oper} (ho : ops[i]? = some o) (hi : i < listed.size) :
    slotsAt ops val σ (listed.setIfInBounds i true) = putC (slotsAt ops val σ listed) o.dst (val i) := by
  funext t
  unfold slotsAt putC
  cases hd : o.dst with
  | none =>
    simp only
    cases hw : writer ops t with
    | none => rfl
    | some j =>
      have hne : j ≠ i := fun hh => by
        obtain ⟨o', ho', hd'⟩ := writer_some hw
        rw [hh, ho] at ho'; cases ho'
        rw [hd] at hd'; cases hd'
      simp only [getD_set _ _ _ hi, if_neg hne]
  | some d =>
    simp only
    by_cases ht : t = d
    · subst ht
      rw [txt.one i o t ho hd]
      simp [getD_set _ _ _ hi]
    · rw [fupd_ne _ _ _ _ ht]
      cases hw : writer ops t with
      | none => rfl
      | some j =>
        have hne : j ≠ i := fun hh => by
          obtain ⟨o', ho', hd'⟩ := writer_some hw
          rw [hh, ho] at ho'; cases ho'
          rw [hd] at hd'; cases hd'
          exact ht rfl
        simp only [getD_set _ _ _ hi, if_neg hne]

structure Inv (P : Program) (ops : Array Oper) (val σ : Nat → CV) (W : Nat → Bool) (cls : Nat → Cls) (m : Nat) (hs : Nat → Nat) (Hk : Nat → Hp) (bid : Nat → Nat) (N : Nat)
    (R : Nat → Prop) (B : Nat) (w0 : World) (h : Hp) (μ0 : Mu) (listed : Array Bool) (k : Nat) (a : Act) (w : World) (μ : Mu) : Prop where
  size : listed.size = ops.size
  down : ∀ (i : Nat) (o : Oper) (e : Edge), ops[i]? = some o → listed.getD i false = true → e ∈ o.after → Region.binds .any e = true → listed.getD e.on false = true
  km : k ≤ m
  done : ∀ q, q < m → (listed.getD (hs q) false = true ↔ q < k)
  ext : Ext0 w0 h μ0 w (Hk k) μ
  unm : ∀ b, b < h.n → μ0 b = none → μ b = none
  rel : Rel R B w (Hk k) μ
  slots : SR N w R (Hk k) μ (slotsAt ops val σ listed) a
  phantom : ∀ (i : Nat) (o : Oper), ops[i]? = some o → W i = true → cls i = .new → listed.getD i false = false → μ (bid i) = none

theorem listed_in {ops : Array Oper} {listed : Array Bool} (hsz : listed.size = ops.size) (i : Nat) (hi : listed.getD i false = true) : ∃ o, ops[i]? = some o := by
  have : i < ops.size := by
    rcases Nat.lt_or_ge i listed.size with h1 | h1
    · omega
    · simp [Array.getD_eq_getD_getElem?, Array.getElem?_eq_none h1] at hi
  exact ⟨ops[i], by simp [this]⟩

/-- If nothing is ready, all has been carried out. -/
theorem all_listed {ops : Array Oper} {pre : Nat → Nat → Bool} (txt : DrawText ops pre) {listed : Array Bool} (hsz : listed.size = ops.size) (hr : Region.ready .any ops listed = []) : ∀ i, i < ops.size → listed.getD i false = true := by
  intro i
  induction i using Nat.strongRecOn with
  | _ i ih =>
    intro hi
    cases hl : listed.getD i false with
    | true => rfl
    | false =>
      exfalso
      have hmem : i ∈ Region.ready .any ops listed := by
        refine mem_ready.2 ⟨?_, ops[i], by simp [hi], fun e he hb => ih e.on (txt.edge i ops[i] e (by simp [hi]) he hb) (by
          have := txt.edge i ops[i] e (by simp [hi]) he hb
          omega)⟩
        have hlt : i < listed.size := by omega
        simpa [Array.getD_eq_getD_getElem?, hlt] using hl
      rw [hr] at hmem
      cases hmem

theorem draw_sound (hmix : P.follows .mixedOrders = true) (hG : ∀ g, (G g).closed = true) : DrawSound P G := by
  intro id ops N σ h σ' h' pre val W cls m hs Hk H1 bid cells txt hdst h0 hm hσ heff heff' hord hinj hwant hskip hpure hnew hbid hbid' hgrow hcall
  refine ⟨0, fun R B w0 μ0 a0 Q rel0 g0 s0 kk => wp_region_any hmix ?_⟩
  obtain ⟨e0, rel1⟩ := rel_below rel0 (RowKit.Below.refl w0.heap.size w0).drew
  obtain ⟨e1, rel2⟩ := h0.rel rel1
  have e01 := e0.trans e1
  -- the end
  have fin : ∀ (listed : Array Bool) (k : Nat) (a : Act) (w : World) (μ : Mu), Inv P ops val σ W cls m hs Hk bid N R B w0 h μ0 listed k a w μ → (∀ i, i < ops.size → listed.getD i false = true) → Q .normal a w := by
    intro listed k a w μ inv hall
    have hk : k = m := by
      rcases Nat.lt_or_ge k m with hlt | hge
      · obtain ⟨o, ho, _⟩ := heff' k hlt
        have hl := hall (hs k) ((Array.getElem?_eq_some_iff.1 ho).1)
        have := (inv.done k hlt).1 hl
        omega
      · have := inv.km; omega
    subst hk
    have hslots : slotsAt ops val σ listed = σ' := by
      rw [hσ]
      funext t
      unfold slotsAt
      cases hw : writer ops t with
      | none => rfl
      | some i =>
        obtain ⟨o, ho, _⟩ := writer_some hw
        simp only [hall i ((Array.getElem?_eq_some_iff.1 ho).1), if_true]
    subst hm
    have hsl := inv.slots
    rw [hslots] at hsl
    exact kk a w μ ⟨inv.ext, inv.unm⟩ inv.rel hsl
  have key : ∀ (fuel : Nat) (listed : Array Bool) (k : Nat) (a : Act) (w : World) (μ : Mu), Inv P ops val σ W cls m hs Hk bid N R B w0 h μ0 listed k a w μ → listed.toList.count false = fuel → wpAny P .any ops Q fuel listed a w := by
    intro fuel
    induction fuel with
    | zero =>
      intro listed k a w μ inv hcount
      have hall : ∀ i, i < ops.size → listed.getD i false = true := by
        intro i hi
        have hlt : i < listed.size := by rw [inv.size]; exact hi
        cases hl : listed[i] with
        | true => simp [Array.getD_eq_getD_getElem?, hlt, hl]
        | false =>
          exfalso
          have hmem : false ∈ listed.toList := by rw [← hl]; simp
          have := List.count_pos_iff.2 hmem
          omega
      refine ⟨?_, fin listed k a w μ inv hall⟩
      cases hr : Region.ready .any ops listed with
      | nil => rfl
      | cons i l =>
        exfalso
        have hmem : i ∈ Region.ready .any ops listed := by rw [hr]; simp
        obtain ⟨h1, o, ho, _⟩ := mem_ready.1 hmem
        have hi := (Array.getElem?_eq_some_iff.1 ho).1
        have h2 := hall i hi
        have hlt : i < listed.size := by rw [inv.size]; exact hi
        simp [Array.getD_eq_getD_getElem?, hlt] at h1 h2
        rw [h1] at h2; cases h2
    | succ fuel ih =>
      intro listed k a w μ inv hcount
      refine ⟨fun hr => fin listed k a w μ inv (all_listed txt inv.size hr), fun i hi => ?_⟩
      obtain ⟨h1, o, ho, hedges⟩ := mem_ready.1 hi
      have hlt : i < listed.size := by rw [inv.size]; exact (Array.getElem?_eq_some_iff.1 ho).1
      have hnl : listed.getD i false = false := by simpa [Array.getD_eq_getD_getElem?, hlt] using h1
      have hD := down_chain txt inv.down (listed_in inv.size)
      -- what comes before i is done
      have hprei : ∀ j, pre i j = true → listed.getD j false = true := by
        intro j hj
        obtain ⟨e, he, hb, hej⟩ := txt.chain i o j ho hj
        have hle := hedges e he hb
        rcases hej with rfl | hej
        · exact hle
        · exact hD e.on hle j hej
      have hpost : ∀ j, listed.getD j false = true → pre j i = true → False := fun j hj hp => by
        have := hD j hj i hp
        rw [hnl] at this; cases this
      have hfeas : feas pre m hs i k := ⟨inv.km, fun q hq hp => (inv.done q hq).1 (hprei _ hp), fun q hq hp => by
        rcases Nat.lt_or_ge q k with hlt' | hge
        · exact (hpost _ ((inv.done q hq).2 hlt') hp).elim
        · exact hge⟩
      -- what i sees
      have henv : ∀ t, VR w R (Hk k) μ (envOf ops pre val σ i o t) (a.tmps.getD t undef) := by
        intro t
        unfold envOf
        split
        · rename_i ht
          have ht' : t ∈ o.looksAt ops := by simpa using ht
          have hv := inv.slots.val t
          unfold slotsAt at hv
          cases hw : writer ops t with
          | none => rw [hw] at hv; exact hv
          | some j =>
            rw [hw] at hv
            simp only at hv ⊢
            by_cases hp : pre i j = true
            · rw [if_pos hp]
              rw [if_pos (hprei j hp)] at hv
              exact hv
            · rw [if_neg hp]
              have hnj : listed.getD j false = false := by
                rcases txt.acc i o t j ho ht' hw with hh | hh | rfl
                · exact absurd hh hp
                · cases hlj : listed.getD j false with
                  | false => rfl
                  | true => exact (hpost j hlj hh).elim
                · exact hnl
              rw [hnj] at hv
              exact hv
        · exact .bad _
      have hgok : Gok G w R (Hk k) μ := fun g => ⟨hG g, (g0 g).2.ext0 inv.ext⟩
      have hρ : ∀ x, VR w R (Hk k) μ (ev G (envOf ops pre val σ i o) x) (a.eval x) := by
        intro x
        cases x with
        | tmp t => exact henv t
        | const v => exact VR.ofV v
        | global g => exact (hgok g).2
        | func f => exact .fn f [] [] #[] #[] rfl rfl (fun _ _ _ hh => by simp at hh) (fun _ _ _ hh => by simp at hh)
      have hwanted := wanted_ok (w := w) (R := R) (h := Hk k) (μ := μ) (tmps := a.tmps) (hwant i o ho) (fun d _ => henv d)
      have hcount' : (listed.setIfInBounds i true).toList.count false = fuel := by
        have hb : listed.toList[i]'(by simpa using hlt) = false := by
          have : listed[i] = false := by simpa [Array.getD_eq_getD_getElem?, hlt] using h1
          simpa using this
        rw [Array.toList_setIfInBounds, List.count_set (by simpa using hlt)]
        simp [hb, hcount]
      have hsize' : (listed.setIfInBounds i true).size = ops.size := by simp [inv.size]
      have hdown' : ∀ (j : Nat) (o' : Oper) (e : Edge), ops[j]? = some o' → (listed.setIfInBounds i true).getD j false = true → e ∈ o'.after → Region.binds .any e = true → (listed.setIfInBounds i true).getD e.on false = true := by
        intro j o' e ho' hj he hb
        rw [getD_set _ _ _ hlt] at hj ⊢
        by_cases hji : j = i
        · subst hji
          rw [ho] at ho'; cases ho'
          rw [hedges e he hb]; split <;> rfl
        · rw [if_neg hji] at hj
          rw [inv.down j o' e ho' hj he hb]; split <;> rfl
      -- the next state, when no block of others' is turned
      have hsame : (W i = true → cls i ≠ .eff) → ∀ q, q < m → ((listed.setIfInBounds i true).getD (hs q) false = true ↔ q < k) := by
        intro hne q hq
        obtain ⟨o', ho', hW, hc⟩ := heff' q hq
        have : hs q ≠ i := fun hh => by
          rw [hh] at hW hc
          exact hne hW hc
        rw [getD_set _ _ _ hlt, if_neg this]
        exact inv.done q hq
      have hph : ∀ (j : Nat), (listed.setIfInBounds i true).getD j false = false → j ≠ i ∧ listed.getD j false = false := by
        intro j hj
        rw [getD_set _ _ _ hlt] at hj
        by_cases hji : j = i
        · rw [if_pos hji] at hj; cases hj
        · rw [if_neg hji] at hj; exact ⟨hji, hj⟩
      unfold wpOp
      simp only [ho]
      cases hW : W i with
      | false =>
        rw [hwanted, hW]
        simp only [Bool.false_eq_true, if_false]
        refine ih _ k _ w μ ⟨hsize', hdown', inv.km, hsame (fun hh => by rw [hW] at hh; cases hh), inv.ext, inv.unm, inv.rel, ?_, fun j o' ho' hWj hcj hj => inv.phantom j o' ho' hWj hcj (hph j hj).2⟩ hcount'
        rw [slots_put txt ho hlt]
        exact inv.slots.put (hdst i o ho) (by rw [hskip i o ho hW]; exact undef_ok)
      | true =>
        rw [hwanted, hW]
        simp only [if_true]
        left
        cases hc : cls i with
        | pure =>
          have hst := hpure i o ho hW hc k hfeas
          obtain ⟨v, w', μ', hr, e, r, hv⟩ := step_ok (P := P) inv.rel hρ o hst
          have hnext : wpAny P .any ops Q fuel (listed.setIfInBounds i true) (a.put o.dst v) w' := by
            refine ih _ k _ w' μ' ⟨hsize', hdown', inv.km, hsame (fun _ hh => by rw [hc] at hh; cases hh), inv.ext.trans e.toExt0, fun b hb hm0 => e.unm b (Nat.lt_of_lt_of_le hb inv.ext.n) (inv.unm b hb hm0), r, ?_, fun j o' ho' hWj hcj hj => ?_⟩ hcount'
            · rw [slots_put txt ho hlt]
              exact (inv.slots.ext e).put (hdst i o ho) hv
            · have hn := inv.phantom j o' ho' hWj hcj (hph j hj).2
              rcases Nat.lt_or_ge (bid j) (Hk k).n with hb | hb
              · exact e.unm _ hb hn
              · exact r.mu _ hb
          unfold Oper.wp
          rcases hr with hr | ⟨hr, rfl⟩
          · rw [hr]; exact hnext
          · rw [hr]; exact hnext
        | new =>
          obtain ⟨mk, hn, hval, hbn, hblk⟩ := hnew i o ho hW hc
          obtain ⟨v, arr, t, hr, hrow, hmk⟩ := new_ok (P := P) hρ o hn
          have hbk := hblk k hfeas
          have hbnone := inv.phantom i o ho hW hc hnl
          have hblt : bid i < (Hk k).n := by
            rcases Nat.lt_or_ge (bid i) (Hk k).n with hb | hb
            · exact hb
            · rw [inv.rel.fresh _ hb] at hbk; cases hbk
          have hother : ∀ b mm, μ b = some mm → b ≠ bid i := fun b mm hb hh => by rw [hh, hbnone] at hb; cases hb
          have e : Ext0 w (Hk k) μ (w.alloc (.cells arr t)) (Hk k) (fupd μ (bid i) (some ⟨w.heap.size, 0, arr.size⟩)) := by
            refine ⟨rfl, rfl, rfl, by simp, fun x hx _ => ?_, ?_, fun b sz cs mm hb hm => .inl ⟨cs, hb, by rw [fupd_ne _ _ _ _ (hother b mm hm)]; exact hm⟩, fun _ _ hg => hg, fun b k mm hb hm => ⟨hb, by rw [fupd_ne _ _ _ _ (hother b mm hm)]; exact hm⟩, Nat.le_refl _⟩
            · exact RowKit.Below.heap_alloc w _ x hx
            · rintro x ⟨b, mm, hl, hm, rfl⟩
              by_cases hb : b = bid i
              · subst hb; simp at hm; subst hm; exact .inr (Nat.le_refl _)
              · rw [fupd_ne _ _ _ _ hb] at hm
                exact .inl ⟨b, mm, hl, hm, rfl⟩
          have r : Rel R B (w.alloc (.cells arr t)) (Hk k) (fupd μ (bid i) (some ⟨w.heap.size, 0, arr.size⟩)) := by
            refine inv.rel.upd e (bid i) (fun b hb hl => ⟨rfl, fupd_ne _ _ _ _ hb, fun mm hm => RowKit.Below.heap_alloc w _ _ (inv.rel.lt hl hm)⟩) (fun mm hm => ?_) (fun b mm mm' hb hl _ hm hm' => ?_) (fun mm _ hm => ?_) inv.rel.fresh (fun b hb => ?_)
            · simp at hm; subst hm
              rw [hbk]
              refine ⟨rfl, by simp [hrow.1], arr, t, (0, 0), heap_alloc_new w _, rfl, .inl rfl, fun j c hj => ?_⟩
              obtain ⟨u, a1, a2, a3⟩ := hrow.2 j c hj
              exact ⟨u, by simpa using a1, a2, a3.ext0 e⟩
            · simp at hm'; subst hm'
              have := inv.rel.lt hl hm
              simp only [ne_eq]; omega
            · simp at hm; subst hm
              exact inv.rel.size
            · rw [fupd_ne _ _ _ _ (by omega)]
              exact inv.rel.mu b hb
          have hv : VR (w.alloc (.cells arr t)) R (Hk k) (fupd μ (bid i) (some ⟨w.heap.size, 0, arr.size⟩)) (val i) v := by
            rw [hval]
            exact hmk _ _ _ _ _ hbk (by simp)
          unfold Oper.wp
          rw [hr]
          refine ih _ k _ _ _ ⟨hsize', hdown', inv.km, hsame (fun _ hh => by rw [hc] at hh; cases hh), inv.ext.trans e, fun b hb hm0 => by rw [fupd_ne _ _ _ _ (by omega)]; exact inv.unm b hb hm0, r, ?_, fun j o' ho' hWj hcj hj => ?_⟩ hcount'
          · rw [slots_put txt ho hlt]
            have hs0 : SR N (w.alloc (.cells arr t)) R (Hk k) (fupd μ (bid i) (some ⟨w.heap.size, 0, arr.size⟩)) (slotsAt ops val σ listed) a := ⟨inv.slots.size, inv.slots.defers, fun t' => (inv.slots.val t').ext0 e⟩
            exact hs0.put (hdst i o ho) hv
          · obtain ⟨hji, hlj⟩ := hph j hj
            rw [fupd_ne _ _ _ _ (fun hh => hji (hbid j i o' o ho' ho hWj hW hcj hc hh))]
            exact inv.phantom j o' ho' hWj hcj hlj
        | eff =>
          obtain ⟨q, hq, rfl⟩ := heff i o ho hW hc
          have hqk : q = k := by
            have h2 : ¬ q < k := fun hh => by
              have := (inv.done q hq).2 hh
              rw [hnl] at this; cases this
            rcases Nat.lt_or_ge k q with hlt' | hge
            · have hkm : k < m := by omega
              have := hprei (hs k) (hord k q hkm hq hlt')
              have := (inv.done k hkm).1 this
              omega
            · omega
          subst hqk
          refine hcall q o hq ho R B w μ a o _ Q rfl inv.rel hgok hρ fun v w' μ' e r hv => ?_
          obtain ⟨e2, r2⟩ := (hgrow q hq).rel r
          have e3 := e.trans e2
          refine ih _ (q + 1) _ w' μ' ⟨hsize', hdown', by omega, fun q' hq' => ?_, inv.ext.trans e3.toExt0, fun b hb hm0 => e3.unm b (Nat.lt_of_lt_of_le hb inv.ext.n) (inv.unm b hb hm0), r2, ?_, fun j o' ho' hWj hcj hj => ?_⟩ hcount'
          · rw [getD_set _ _ _ hlt]
            by_cases hqq : q' = q
            · subst hqq; simp
            · rw [if_neg (fun hh => hqq (hinj q' q hq' hq hh)), inv.done q' hq']
              omega
          · rw [slots_put txt ho hlt]
            exact (inv.slots.ext e3).put (hdst _ o ho) (hv.ext e2)
          · have hn := inv.phantom j o' ho' hWj hcj (hph j hj).2
            rcases hbid' j o' q ho' hWj hcj hq with hb | hb
            · exact e.unm _ hb hn
            · exact r.mu _ hb
  have hinit : Inv P ops val σ W cls m hs Hk bid N R B w0 h μ0 (Array.replicate ops.size false) 0 a0 w0.drew μ0 := by
    have hf : ∀ i, (Array.replicate ops.size false).getD i false = false := by
      intro i
      rw [Array.getD_eq_getD_getElem?, Array.getElem?_replicate]
      split <;> rfl
    refine ⟨by simp, (fun i o e _ hi _ _ => by rw [hf] at hi; cases hi), Nat.zero_le _, (fun q hq => by rw [hf]; simp), e01.toExt0, fun b hb hm0 => hm0, rel2, ?_, fun i o ho hW hc _ => ?_⟩
    · have hsl : slotsAt ops val σ (Array.replicate ops.size false) = σ := by
        funext t
        unfold slotsAt
        cases hw : writer ops t with
        | none => rfl
        | some i => simp only [hf]; simp
      rw [hsl]
      exact s0.ext e01
    · obtain ⟨mk, hn, hval, hbn, hblk⟩ := hnew i o ho hW hc
      exact rel0.mu _ hbn
  exact key _ _ 0 a0 w0.drew μ0 hinit (by simp)

/-- **SOUNDNESS.** -/
theorem sound (hmix : P.follows .mixedOrders = true) (hG : ∀ g, (G g).closed = true) {j : J} (hj : Ev P G j) : Sound P G j := sound_of (draw_sound hmix hG) hj

end
end Go.CM

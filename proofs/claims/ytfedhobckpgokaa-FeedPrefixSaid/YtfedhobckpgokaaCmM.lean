/-
  The canonical machine, part M: soundness.
-/
import Derived.Test.YtfedhobckpgokaaCmL
namespace Go.CM
open Go
set_option linter.unusedVariables false
set_option linter.unusedSimpArgs false

section
variable {P : Program} {G : Nat → CV}

/-- A new block's operation, in the world. -/
theorem new_ok {w : World} {R : Nat → Prop} {h : Hp} {μ : Mu} {ρ : Operand → CV} {ρ' : Operand → Value} (hρ : ∀ x, VR w R h μ (ρ x) (ρ' x)) (o : Oper) {cs : List CV} {mk : Nat → CV} (hn : newC P ρ o.op = some (cs, mk)) :
    ∃ v arr t, (execOp ρ' o).run P w = .ok (.value v) (w.alloc (.cells arr t)) ∧ RowA w R h μ cs arr ∧
      ∀ (w' : World) (R' : Nat → Prop) (h' : Hp) (μ' : Mu) (b : Nat), h'.f b = .cells cs.length cs → μ' b = some ⟨w.heap.size, 0, arr.size⟩ → VR w' R' h' μ' (mk b) v := by
  obtain ⟨dst, op, type, pos, after, guard⟩ := o
  cases op <;> simp only [newC] at hn <;> try (cases hn; done)
  case alloc t =>
    cases hz : zeroT P t with
    | none => rw [hz] at hn; cases hn
    | some z =>
      rw [hz] at hn
      simp only [Option.map_some, Option.some.injEq, Prod.mk.injEq] at hn
      obtain ⟨rfl, rfl⟩ := hn
      obtain ⟨v, hv, hr⟩ := zero_row (P := P) (w := w) (R := R) (h := h) (μ := μ) hz
      refine ⟨.pointer (some ⟨w.heap.size, 0, none⟩), v.cells, t, by simp [execOp, Instr.alloc, hv, newVar, newRow], hr, fun w' R' h' μ' b hb hm => ?_⟩
      have := VR.ptr (w := w') (R := R') (h := h') (μ := μ') b 0 z.length z _ hb hm
      simpa using this
  case box t x =>
    cases hz : (ρ x).cells with
    | none => rw [hz] at hn; cases hn
    | some z =>
      rw [hz] at hn
      simp only [Option.map_some, Option.some.injEq, Prod.mk.injEq] at hn
      obtain ⟨rfl, rfl⟩ := hn
      obtain ⟨k1, k2⟩ := cells_ok (hρ x) hz
      refine ⟨.pointer (some ⟨w.heap.size, 0, none⟩), (ρ' x).cells, t, by simp [execOp, Instr.box, newVar, newRow], ⟨k1, k2⟩, fun w' R' h' μ' b hb hm => ?_⟩
      have := VR.ptr (w := w') (R := R') (h := h') (μ := μ') b 0 z.length z _ hb hm
      simpa using this
  case buildSlice t len parts =>
    cases he : elemT P t with
    | none => rw [he] at hn; cases hn
    | some e =>
    rw [he] at hn
    simp only at hn
    cases hz : sizeT P e with
    | none => rw [hz] at hn; cases hn
    | some z =>
    cases hzero : zeroT P e with
    | none => rw [hz, hzero] at hn; cases hn
    | some zero =>
    rw [hz, hzero] at hn
    simp only at hn
    split at hn
    · rename_i hcond
      cases hf : fillC (fun i => some (i * z, z)) (repeatC zero len) (parts.toList.map fun p => (p.1, ρ p.2)) with
      | none => rw [hf] at hn; cases hn
      | some cs' =>
        rw [hf] at hn
        simp only [Option.map_some, Option.some.injEq, Prod.mk.injEq] at hn
        obtain ⟨rfl, rfl⟩ := hn
        obtain ⟨k1, k2⟩ := parts_ok hρ parts
        obtain ⟨hcl, arr, hrun, h2⟩ := buildSlice_run he hz hzero hcond.1 hcond.2 hf k1 k2
        refine ⟨.slice (some ⟨w.heap.size, 0, none⟩) len len, arr, e, by simp [execOp, hrun], h2, fun w' R' h' μ' b hb hm => ?_⟩
        rw [hcl] at hb
        have := VR.sl (w := w') (R := R') (h := h') (μ := μ') z b 0 len len (len * z) len _ _ hb hm (Nat.le_refl _) (by omega) (.inr ⟨by omega, Nat.le_refl _, by simp only; rw [h2.1, hcl]; omega⟩)
        simpa using this
    · cases hn
  case makeSlice t l c =>
    split at hn
    · rename_i e li ci he hli hci
      obtain ⟨kl, hlv⟩ := asInt_ok hli (hρ l)
      obtain ⟨kc, hcv⟩ := asInt_ok hci (hρ c)
      cases hz : sizeT P e with
      | none => rw [hz] at hn; cases hn
      | some z =>
      cases hby : bytesT P e with
      | none => rw [hz, hby] at hn; cases hn
      | some by_ =>
      cases hzero : zeroT P e with
      | none => rw [hz, hby, hzero] at hn; cases hn
      | some zero =>
      rw [hz, hby, hzero] at hn
      simp only at hn
      split at hn
      · rename_i hcond
        obtain ⟨hzl, h0, hlc, hc63, hroom⟩ := hcond
        simp only [Option.some.injEq, Prod.mk.injEq] at hn
        obtain ⟨rfl, rfl⟩ := hn
        obtain ⟨hlen, arr, hrun, hrow⟩ := makeSlice_run (w := w) (R := R) (h := h) (μ := μ) (kl := kl) (kc := kc) he hz hby hzero hzl h0 hlc hc63 hroom
        refine ⟨.slice (some ⟨w.heap.size, 0, none⟩) li.toNat ci.toNat, arr, e, by simp [execOp, hlv, hcv, hrun], hrow, fun w' R' h' μ' b hb hm => ?_⟩
        rw [hlen] at hb
        have := VR.sl (w := w') (R := R') (h := h') (μ := μ') z b 0 li.toNat ci.toNat (ci.toNat * z) ci.toNat _ _ hb hm (by omega) (by omega) (.inr ⟨by omega, Nat.le_refl _, by simp only; rw [hrow.1, hlen]; omega⟩)
        simpa using this
      · cases hn
    · cases hn

theorem Grows.rel {R : Nat → Prop} {B : Nat} {w : World} {h h' : Hp} {μ : Mu} (g : Grows h h') (rel : Rel R B w h μ) : Ext w h μ w h' μ ∧ Rel R B w h' μ := by
  have hlt : ∀ b m, μ b = some m → b < h.n := fun b m hm => rel.bn hm
  have e : Ext w h μ w h' μ := by
    refine ⟨⟨rfl, rfl, rfl, Nat.le_refl _, fun _ _ _ => rfl, ?_, ?_, ?_, ?_, g.n⟩, fun _ _ hm => hm⟩
    · rintro k ⟨b, m, hl, hm, rfl⟩
      rw [g.same b (hlt b m hm)] at hl
      exact .inl ⟨b, m, hl, hm, rfl⟩
    · intro b sz cs m hb hm
      exact .inl ⟨cs, by rw [g.same b (hlt b m hm)]; exact hb, hm⟩
    · rintro b sz hg
      have hb : b < h.n := by
        rcases Nat.lt_or_ge b h.n with h1 | h1
        · exact h1
        · have := rel.fresh b h1
          rcases hg with hg | ⟨n, cs, hg, _⟩ <;> rw [this] at hg <;> cases hg
      rcases hg with hg | ⟨n, cs, hg, hlt'⟩
      · exact .inl (by rw [g.same b hb]; exact hg)
      · exact .inr ⟨n, cs, by rw [g.same b hb]; exact hg, hlt'⟩
    · intro b k m hb hm
      exact ⟨by rw [g.same b (hlt b m hm)]; exact hb, hm⟩
  refine ⟨e, fun b m hm => ?_, fun b b' m m' hl hl' hm hm' hr => ?_, fun b m hl hm => ?_, g.fresh rel.fresh, rel.up, rel.size, fun b hb => rel.mu b (Nat.le_trans g.n hb)⟩
  · rw [g.same b (hlt b m hm)]
    exact (rel.blk b m hm).ext e.toExt0 rfl
  · rw [g.same b (hlt b m hm)] at hl
    rw [g.same b' (hlt b' m' hm')] at hl'
    exact rel.inj b b' m m' hl hl' hm hm' hr
  · rw [g.same b (hlt b m hm)] at hl
    exact rel.base b m hl hm

theorem wp_seq' {a b : Code} {Q : Exit → Act → World → Prop} {act : Act} {w : World} (h : a.wp P (Exit.then (fun a' w' => b.wp P Q a' w') Q) act w) : (Code.seq a b).wp P Q act w := wp_seq h

theorem then_of {K : Act → World → Prop} {Q : Exit → Act → World → Prop} {e : CExit} {a : Act} {w : World} (he : e ≠ .normal) (h : Q e.out a w) : Exit.then K Q e.out a w := by
  cases e with
  | normal => exact absurd rfl he
  | exit id => exact h
  | ret => exact h

theorem block_of {id : Nat} {Q : Exit → Act → World → Prop} {e : CExit} {a : Act} {w : World} (he : e ≠ .exit id) (h : Q e.out a w) : Exit.inBlock id Q e.out a w := by
  cases e with
  | normal => exact h
  | exit id' =>
    have : id' ≠ id := fun hh => he (by rw [hh])
    simpa [Exit.inBlock, CExit.out, this] using h
  | ret => exact h

/-- Regions that draw their order: stated as what the constructor says. -/
def DrawSound (P : Program) (G : Nat → CV) : Prop :=
  ∀ {id : Nat} {ops : Array Oper} {N : Nat} {σ : Nat → CV} {h : Hp} {σ' : Nat → CV} {h' : Hp} (pre : Nat → Nat → Bool) (val : Nat → CV) (W : Nat → Bool) (cls : Nat → Cls) (m : Nat) (hs : Nat → Nat) (Hk H1 : Nat → Hp) (bid : Nat → Nat) (cells : Nat → List CV),
    DrawText ops pre →
    (∀ (i : Nat) (o : Oper), ops[i]? = some o → dstOk N o.dst = true) →
    Grows h (Hk 0) → h' = Hk m → (σ' = fun t => match writer ops t with | some i => val i | none => σ t) →
    (∀ (i : Nat) (o : Oper), ops[i]? = some o → W i = true → cls i = .eff → ∃ q, q < m ∧ hs q = i) →
    (∀ q, q < m → ∃ o, ops[hs q]? = some o ∧ W (hs q) = true ∧ cls (hs q) = .eff) →
    (∀ q q', q < m → q' < m → q < q' → pre (hs q') (hs q) = true) →
    (∀ q q', q < m → q' < m → hs q = hs q' → q = q') →
    (∀ (i : Nat) (o : Oper), ops[i]? = some o → wantedC ops (envOf ops pre val σ i o) o = some (W i)) →
    (∀ (i : Nat) (o : Oper), ops[i]? = some o → W i = false → val i = undefC) →
    (∀ (i : Nat) (o : Oper), ops[i]? = some o → W i = true → cls i = .pure → ∀ k, feas pre m hs i k → stepC P (Hk k) (ev G (envOf ops pre val σ i o)) o.op = some (.val (val i) (Hk k))) →
    (∀ (i : Nat) (o : Oper), ops[i]? = some o → W i = true → cls i = .new → ∃ mk, newC P (ev G (envOf ops pre val σ i o)) o.op = some (cells i, mk) ∧ val i = mk (bid i) ∧ h.n ≤ bid i ∧
        ∀ k, feas pre m hs i k → (Hk k).f (bid i) = .cells (cells i).length (cells i)) →
    (∀ (i j : Nat) (o o' : Oper), ops[i]? = some o → ops[j]? = some o' → W i = true → W j = true → cls i = .new → cls j = .new → bid i = bid j → i = j) →
    (∀ (i : Nat) (o : Oper) (q : Nat), ops[i]? = some o → W i = true → cls i = .new → q < m → bid i < (Hk q).n ∨ (H1 q).n ≤ bid i) →
    (∀ q, q < m → Grows (H1 q) (Hk (q + 1))) →
    (∀ (q : Nat) (o : Oper), q < m → ops[hs q]? = some o → Sound P G (.op o.op (envOf ops pre val σ (hs q) o) (Hk q) (val (hs q)) (H1 q))) →
    Sound P G (.code (.region id ops true) N σ h .normal σ' h')

/-! ### Blocks that are given up -/
theorem Wk.ext {h h2 : Hp} (k : Wk h h2) (w : World) (μ : Mu) : Ext w h μ w h2 μ := by
  refine ⟨⟨rfl, rfl, rfl, Nat.le_refl _, fun _ _ _ => rfl, ?_, ?_, ?_, ?_, Nat.le_of_eq k.n.symm⟩, fun _ _ hm => hm⟩
  · rintro r ⟨b, m, hl, hm, rfl⟩
    refine .inl ⟨b, m, ?_, hm, rfl⟩
    rcases k.blk b with he | ⟨sz, cs, hc, _⟩
    · rw [← he]; exact hl
    · rw [hc]; rfl
  · intro b sz cs m hb hm
    rcases k.blk b with he | ⟨sz', cs', hc, hd | ⟨cs2, h2c, _⟩⟩
    · exact .inl ⟨cs, by rw [he]; exact hb, hm⟩
    · exact .inr (.inl hd)
    · rw [hb] at hc; cases hc; exact .inl ⟨cs2, h2c, hm⟩
  · rintro b sz (hb | ⟨n, cs, hb, hlt⟩)
    · rcases k.blk b with he | ⟨sz', cs', hc, _⟩
      · exact .inl (he.trans hb)
      · rw [hb] at hc; cases hc
    · rcases k.blk b with he | ⟨sz', cs', hc, hd | ⟨cs2, h2c, _⟩⟩
      · exact .inr ⟨n, cs, by rw [he]; exact hb, hlt⟩
      · exact .inl hd
      · rw [hb] at hc; cases hc; exact .inr ⟨n, cs2, h2c, hlt⟩
  · intro b kk m hb hm
    rcases k.blk b with he | ⟨sz', cs', hc, _⟩
    · exact ⟨by rw [he]; exact hb, hm⟩
    · rw [hc] at hb; cases hb

theorem Wk.live {h h2 : Hp} (k : Wk h h2) {b : Nat} (hl : live (h2.f b) = true) : live (h.f b) = true := by
  rcases k.blk b with he | ⟨sz, cs, hc, _⟩
  · rw [← he]; exact hl
  · rw [hc]; rfl

theorem Wk.vr {R : Nat → Prop} {B : Nat} {w : World} {h h2 : Hp} {μ : Mu} (rel : Rel R B w h μ) (k : Wk h h2) : ∀ {c c2 : CV}, RdK h h2 c c2 → ∀ {v : Value}, VR w R h μ c v → VR w R h2 μ c2 v := by
  intro c c2 hr
  induction hr with
  | same c => intro v hv; exact hv.ext (k.ext w μ)
  | ag cs cs' hl h ih =>
    intro v hv
    cases hv with
    | ag _ vs hl1 h1 hv =>
      refine .ag cs' vs (by omega) h1 (fun j c' v hj hjv => ?_)
      have hlt : j < cs.length := by rw [← hl]; exact (List.getElem?_eq_some_iff.1 hj).1
      exact ih j cs[j] c' (List.getElem?_eq_getElem hlt) hj (hv j cs[j] v (List.getElem?_eq_getElem hlt) hjv)
  | sl0 z b off cap sz =>
    intro v hv
    cases hv with
    | sl _ _ _ _ _ _ cap' cs m hb hm hl ho hc => exact .rsl0 z _ cap'
    | slGone _ _ _ _ _ _ cap' a hl hc hg => exact .rsl0 z _ cap'
  | sl z b off len cap sz cs es hb hd hl hz hin hv ih =>
    intro v hv
    cases hv with
    | slGone _ _ _ _ _ _ cap' a hl hc hg =>
      exfalso
      rcases hg with hg | ⟨n, cs2, hg, hlt⟩
      · rw [hb] at hg; cases hg
      · rw [hb] at hg; cases hg; omega
    | sl _ _ _ _ _ _ cap' cs2 m hb2 hm hl2 ho hc =>
      rw [hb] at hb2; cases hb2
      have hblk := rel.blk b m hm
      rw [hb] at hblk
      obtain ⟨hcs, hT, arr, t, fz, hw, ha, hf, hcell⟩ := hblk
      have hcap : len ≤ cap' := by rcases hc with ⟨_, h⟩ | ⟨_, h, _⟩ <;> omega
      have hlb : Go.CM.live (h.f b) = true := by rw [hb]; rfl
      have hB : R m.r := rel.up _ (rel.base b m hlb hm)
      have hno : ¬ Own h2 μ m.r := by
        rintro ⟨b', m', hl', hm', hr'⟩
        have := rel.inj b' b m' m (k.live hl') hlb hm' hm hr'
        subst this
        rw [hd] at hl'; cases hl'
      subst hl
      have hcd : ∀ i j, i < es.length → j < z → ∃ c v, cs[off + (i * z + j)]? = some c ∧ arr[m.s + (off + (i * z + j))]? = some v ∧ v.oneCell' = true ∧ VR w R h μ c v := by
        intro i j hi hj
        have hlt : off + (i * z + j) < cs.length := by
          have : i * z + z ≤ es.length * z := by rw [← Nat.succ_mul]; exact Nat.mul_le_mul_right _ hi
          omega
        obtain ⟨v, h1, h2, h3⟩ := hcell _ _ (List.getElem?_eq_getElem hlt)
        exact ⟨_, v, List.getElem?_eq_getElem hlt, h1, h2, h3⟩
      refine .rsl z es m.r (m.s + off) cap' (fun i j => (arr[m.s + (off + (i * z + j))]?).getD undef) hcap hz (fun i j hi hj => ?_) (fun i e he j c' hj => ?_)
      · obtain ⟨c, v, h1, h2, h3, h4⟩ := hcd i j hi hj
        refine ⟨?_, ?_, hB, hno⟩
        · simp only [World.cell?, hw, h2, Option.getD_some, Option.isSome_none]
          rw [show m.s + off + (i * z + j) = m.s + (off + (i * z + j)) by omega, h2]; rfl
        · rw [h2]; exact h3
      · have hi : i < es.length := (List.getElem?_eq_some_iff.1 he).1
        have hjz : j < z := by rw [← hz e (List.mem_of_getElem? he)]; exact (List.getElem?_eq_some_iff.1 hj).1
        obtain ⟨c, v, h1, h2, h3, h4⟩ := hcd i j hi hjz
        simp only [h2, Option.getD_some]
        exact ih i j e c c' he hj h1 h4

theorem Wk.rel {R : Nat → Prop} {B : Nat} {w : World} {h h2 : Hp} {μ : Mu} (rel : Rel R B w h μ) (k : Wk h h2) : Rel R B w h2 μ := by
  refine ⟨?_, ?_, ?_, ?_, rel.up, rel.size, ?_⟩
  · intro b m hm
    have hb := rel.blk b m hm
    rcases k.blk b with he | ⟨sz, cs, hc, hd | ⟨cs2, h2c, hlen, hv⟩⟩
    · rw [he]; exact hb.ext (k.ext w μ).toExt0 rfl
    · rw [hd]; trivial
    · rw [h2c]
      rw [hc] at hb
      obtain ⟨h1, h2', arr, t, fz, h3, h4, h5, h6⟩ := hb
      refine ⟨by omega, h2', arr, t, fz, h3, h4, h5, fun j c2 hj => ?_⟩
      have hlt : j < cs.length := by rw [← hlen]; exact (List.getElem?_eq_some_iff.1 hj).1
      obtain ⟨v, a1, a2, a3⟩ := h6 j cs[j] (List.getElem?_eq_getElem hlt)
      exact ⟨v, a1, a2, k.vr rel (hv j cs[j] c2 (List.getElem?_eq_getElem hlt) hj) a3⟩
  · intro b b' m m' hl hl' hm hm' hr
    exact rel.inj b b' m m' (k.live hl) (k.live hl') hm hm' hr
  · intro b m hl hm
    exact rel.base b m (k.live hl) hm
  · intro b hb
    rw [k.n] at hb
    rcases k.blk b with he | ⟨sz, cs, hc, _⟩
    · rw [he]; exact rel.fresh b hb
    · rw [rel.fresh b hb] at hc; cases hc
  · intro b hb
    rw [k.n] at hb
    exact rel.mu b hb

theorem sound_of (hd : DrawSound P G) {j : J} (hj : Ev P G j) : Sound P G j := by
  induction hj with
  | skip N σ h => exact ⟨0, fun R B w μ a Q rel g s k => wp_skip (k a w μ (.refl _ _ _) rel s)⟩
  | label l N σ h => exact ⟨0, fun R B w μ a Q rel g s k => wp_label (k a w μ (.refl _ _ _) rel s)⟩
  | ret N σ h => exact ⟨0, fun R B w μ a Q rel g s k => wp_ret (k a w μ (.refl _ _ _) rel s)⟩
  | exit id N σ h => exact ⟨0, fun R B w μ a Q rel g s k => wp_exit (k a w μ (.refl _ _ _) rel s)⟩
  | seqN h1 h2 ih1 ih2 =>
    obtain ⟨n1, ih1⟩ := ih1
    obtain ⟨n2, ih2⟩ := ih2
    exact ⟨0, fun R B w μ a Q rel g s k => wp_seq (wpX.wp (ih1 R B w μ a _ rel g s fun a1 w1 μ1 e1 r1 s1 =>
      wpX.wp (ih2 R B w1 μ1 a1 Q r1 (g.ext e1) s1 fun a2 w2 μ2 e2 r2 s2 => k a2 w2 μ2 (e1.trans e2) r2 s2)))⟩
  | seqX h1 he ih1 =>
    obtain ⟨n1, ih1⟩ := ih1
    exact ⟨0, fun R B w μ a Q rel g s k => wp_seq (wpX.wp (ih1 R B w μ a _ rel g s fun a1 w1 μ1 e1 r1 s1 => then_of he (k a1 w1 μ1 e1 r1 s1)))⟩
  | cond hc h1 ih1 =>
    rename_i c x y N σ h b e σ' h'
    obtain ⟨n1, ih1⟩ := ih1
    refine ⟨0, fun R B w μ a Q rel g s k => ?_⟩
    have hv := s.ev g c
    rw [hc] at hv
    cases hev : a.eval c <;> rw [hev] at hv <;> try (cases hv; done)
    cases hv
    exact wp_cond hev (wpX.wp (ih1 R B w μ a Q rel g s k))
  | blockN h1 he ih1 =>
    obtain ⟨n1, ih1⟩ := ih1
    exact ⟨0, fun R B w μ a Q rel g s k => wp_block (wpX.wp (ih1 R B w μ a _ rel g s fun a1 w1 μ1 e1 r1 s1 => block_of he (k a1 w1 μ1 e1 r1 s1)))⟩
  | blockX h1 ih1 =>
    obtain ⟨n1, ih1⟩ := ih1
    exact ⟨0, fun R B w μ a Q rel g s k => wp_block (wpX.wp (ih1 R B w μ a _ rel g s fun a1 w1 μ1 e1 r1 s1 => by
      simp only [CExit.out, Exit.inBlock, if_true]
      exact k a1 w1 μ1 e1 r1 s1))⟩
  | loopN h1 h2 ih1 ih2 =>
    obtain ⟨n1, ih1⟩ := ih1
    obtain ⟨n2, ih2⟩ := ih2
    exact ⟨n2 + 1, fun R B w μ a Q rel g s k => wpX.wp (ih1 R B w μ a _ rel g s fun a1 w1 μ1 e1 r1 s1 =>
      ih2 R B w1 μ1 a1 Q r1 (g.ext e1) s1 fun a2 w2 μ2 e2 r2 s2 => k a2 w2 μ2 (e1.trans e2) r2 s2)⟩
  | loopX h1 he ih1 =>
    obtain ⟨n1, ih1⟩ := ih1
    exact ⟨1, fun R B w μ a Q rel g s k => wpX.wp (ih1 R B w μ a _ rel g s fun a1 w1 μ1 e1 r1 s1 => then_of he (k a1 w1 μ1 e1 r1 s1))⟩
  | scope h1 ih1 =>
    obtain ⟨n1, ih1⟩ := ih1
    rename_i c N σ h e σ' h'
    refine ⟨0, fun R B w μ a Q rel g s k => wp_scope_straight (wpX.wp (ih1 R B w μ a _ rel g s fun a1 w1 μ1 e1 r1 s1 => ?_))⟩
    have := k a1 w1 μ1 e1 r1 s1
    cases e <;> exact this
  | region h1 ih1 => exact ⟨0, fun R B w μ a Q rel g s k => wp_region_list (ih1 R B w μ a Q rel g s k)⟩
  | draw pre val W cls m hs Hk H1 bid cells txt hdst h0 hm hσ heff heff' hord hinj hwant hskip hpure hnew hbid hbid' hgrow hcall ih =>
    exact hd pre val W cls m hs Hk H1 bid cells txt hdst h0 hm hσ heff heff' hord hinj hwant hskip hpure hnew hbid hbid' hgrow ih
  | opsNil => exact fun R B w μ a Q rel g s k => k a w μ (.refl _ _ _) rel s
  | opsSkip hw hdk h1 ih1 =>
    intro R B w μ a Q rel g s k
    have hwant := wanted_ok (w := w) (R := R) (h := _) (μ := μ) (tmps := a.tmps) hw (fun d _ => s.val d)
    unfold wpList
    rw [if_neg (by rw [hwant]; simp)]
    exact ih1 R B w μ _ Q rel g (s.put hdk undef_ok) k
  | opsOp hw hdk h1 h2 ih1 ih2 =>
    intro R B w μ a Q rel g s k
    have hwant := wanted_ok (w := w) (R := R) (h := _) (μ := μ) (tmps := a.tmps) hw (fun d _ => s.val d)
    unfold wpList
    rw [if_pos hwant]
    refine .inl (ih1 R B w μ a _ _ Q rfl rel g (s.ev g) fun v' w1 μ1 e1 r1 hv => ?_)
    exact ih2 R B w1 μ1 _ Q r1 (g.ext e1) ((s.ext e1).put hdk hv) fun a2 w2 μ2 e2 r2 s2 => k a2 w2 μ2 (e1.trans e2) r2 s2
  | opVal hs =>
    intro R B w μ a o K Q ho rel g hρ k
    subst ho
    have := step_ok (P := P) rel hρ o hs
    obtain ⟨v, w', μ', hr, e, r, hv⟩ := this
    unfold Oper.wp
    rcases hr with hr | ⟨hr, rfl⟩
    · rw [hr]; exact k v w' μ' e r hv
    · rw [hr]; exact k undef w' μ' e r hv
  | opCall hs h1 ih1 =>
    intro R B w μ a o K Q ho rel g hρ k
    subst ho
    obtain ⟨rfl, vs, hr, hl, hv⟩ := step_ok (P := P) rel hρ o hs
    unfold Oper.wp
    rw [hr]
    refine (ih1 R B w μ vs rel g hl hv).mono ?_
    rintro e w' ⟨v, μ', rfl, e1, r1, hv1⟩
    exact k v w' μ' e1 r1 hv1
  | wkOp h1 wk hv ih1 =>
    intro R B w μ a o K Q ho rel g hρ k
    refine ih1 R B w μ a o K Q ho rel g hρ fun v' w' μ' e r hvr => ?_
    exact k v' w' μ' (e.trans (wk.ext w' μ')) (wk.rel r) (wk.vr r hv hvr)
  | inline hf hb h1 he hr ih1 =>
    rename_i f fn c args h e σ' h' r
    obtain ⟨n1, ih1⟩ := ih1
    intro R B w μ vs rel g hl hv
    refine calls_of_wp hf hb (wpX.wp (ih1 R B w μ _ _ rel g ⟨by simp [hl], rfl, fun t => ?_⟩ fun a1 w1 μ1 e1 r1 s1 => ?_))
    · by_cases ht : t < args.length
      · have ha : args.getD t undefC = args[t] := by simp [List.getD, ht]
        have hvs : (vs ++ Array.replicate (fn.ntmps - vs.size) undef).getD t undef = vs[t] := by
          rw [Array.getD_eq_getD_getElem?, Array.getElem?_append_left (by omega)]
          simp [show t < vs.size by omega]
        rw [ha, hvs]
        exact hv t _ _ (by simp [ht]) (by simp)
      · have ha : args.getD t undefC = undefC := by simp [List.getD, List.getElem?_eq_none (by omega : args.length ≤ t)]
        have hvs : (vs ++ Array.replicate (fn.ntmps - vs.size) undef).getD t undef = undef := by
          rw [Array.getD_eq_getD_getElem?, Array.getElem?_append_right (by omega), Array.getElem?_replicate]
          split <;> rfl
        rw [ha, hvs]
        exact undef_ok
    · obtain ⟨v, k1, k2⟩ := results_ok r1 s1 hr
      have hres : s1.defers = s1.defers := rfl
      rcases he with rfl | rfl
      · exact ⟨s1.defers, v, k1, v, μ1, rfl, e1, r1, k2⟩
      · exact ⟨s1.defers, v, k1, v, μ1, rfl, e1, r1, k2⟩
  | pure hp hc => exact pure_sound hp hc

end
end Go.CM

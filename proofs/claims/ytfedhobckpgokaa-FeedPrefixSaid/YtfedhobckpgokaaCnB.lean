/-
  The canonical machine: what a call says by value.
-/
import Derived.Test.YtfedhobckpgokaaCnA
namespace Go.CM
open Go
set_option linter.unusedVariables false
set_option linter.unusedSimpArgs false

section
variable {P : Program} {G : Nat → CV}

/-- What a value reads as, by value alone. -/
inductive Rd (l : Hl) : CV → CV → Prop
  | same (c : CV) (h : c.closed = true) : Rd l c c
  | ag (cs cs' : List CV) (hl : cs'.length = cs.length) (h : ∀ (j : Nat) (c c' : CV), cs[j]? = some c → cs'[j]? = some c' → Rd l c c') : Rd l (.ag cs) (.ag cs')
  | tu (cs cs' : List CV) (hl : cs'.length = cs.length) (h : ∀ (j : Nat) (c c' : CV), cs[j]? = some c → cs'[j]? = some c' → Rd l c c') : Rd l (.tu cs) (.tu cs')
  | sl (z b off len cap sz : Nat) (cs : List CV) (es : List (List CV)) (hb : l[b]? = some (.cells sz cs)) (hl : es.length = len) (hz : ∀ e ∈ es, e.length = z)
      (hin : off + len * z ≤ cs.length)
      (h : ∀ (i j : Nat) (e : List CV) (c c' : CV), es[i]? = some e → e[j]? = some c' → cs[off + (i * z + j)]? = some c → Rd l c c') : Rd l (.sl z b off len cap sz) (.rsl z es)
  | sl0 (z b off cap sz : Nat) : Rd l (.sl z b off 0 cap sz) (.rsl z [])

theorem rd_vr {w : World} {R : Nat → Prop} {B : Nat} {l : Hl} {μ : Mu} (rel : Rel R B w (HL l) μ) : ∀ {c c' : CV}, Rd l c c' → ∀ {v : Value}, VR w R (HL l) μ c v → VR0 w R c' v := by
  intro c c' hr
  induction hr with
  | same c h =>
    intro v hv
    exact (VR0.up (closed_vr hv h) fun k _ hk => ⟨hk.1, fun ⟨b, m, h1, h2, h3⟩ => by cases h2⟩ : VR w R Hp.empty (fun _ => none) _ v)
  | ag cs cs' hl h ih =>
    intro v hv
    cases hv with
    | ag _ vs hl1 h1 hv =>
      refine .ag cs' vs (by omega) h1 (fun j c' v hj hjv => ?_)
      have hlt : j < cs.length := by rw [← hl]; exact (List.getElem?_eq_some_iff.1 hj).1
      exact ih j cs[j] c' (List.getElem?_eq_getElem hlt) hj (hv j cs[j] v (List.getElem?_eq_getElem hlt) hjv)
  | tu cs cs' hl h ih =>
    intro v hv
    cases hv with
    | tu _ vs hl1 hv =>
      refine .tu cs' vs (by omega) (fun j c' v hj hjv => ?_)
      have hlt : j < cs.length := by rw [← hl]; exact (List.getElem?_eq_some_iff.1 hj).1
      exact ih j cs[j] c' (List.getElem?_eq_getElem hlt) hj (hv j cs[j] v (List.getElem?_eq_getElem hlt) hjv)
  | sl0 z b off cap sz =>
    intro v hv
    cases hv with
    | sl _ _ _ _ _ _ cap' cs m hb hm hl ho hc => exact .rsl0 z _ cap'
    | slGone _ _ _ _ _ _ cap' a hl hc hg => exact .rsl0 z _ cap'
  | sl z b off len cap sz cs es hb hl hz hin h ih =>
    intro v hv
    have hbf : (HL l).f b = .cells sz cs := HL_cells.2 hb
    cases hv with
    | slGone _ _ _ _ _ _ cap' a hl hc hg =>
      exfalso
      rcases hg with hg | ⟨n, cs2, hg, hlt⟩
      · rw [hbf] at hg; cases hg
      · rw [hbf] at hg; cases hg; omega
    | sl _ _ _ _ _ _ cap' cs2 m hb2 hm hl2 ho hc =>
      rw [hbf] at hb2; cases hb2
      have hblk := rel.blk b m hm
      rw [hbf] at hblk
      obtain ⟨hcs, hT, arr, t, fz, hw, ha, hf, hcell⟩ := hblk
      have hcap : len ≤ cap' := by rcases hc with ⟨_, h⟩ | ⟨_, h, _⟩ <;> omega
      have hB : R m.r := rel.up _ (rel.base b m (by rw [hbf]; rfl) hm)
      subst hl
      have hcd : ∀ i j, i < es.length → j < z → ∃ c v, cs[off + (i * z + j)]? = some c ∧ arr[m.s + (off + (i * z + j))]? = some v ∧ v.oneCell' = true ∧ VR w R (HL l) μ c v := by
        intro i j hi hj
        have hlt : off + (i * z + j) < cs.length := by
          have : i * z + z ≤ es.length * z := by rw [← Nat.succ_mul]; exact Nat.mul_le_mul_right _ hi
          omega
        obtain ⟨v, h1, h2, h3⟩ := hcell _ _ (List.getElem?_eq_getElem hlt)
        exact ⟨_, v, List.getElem?_eq_getElem hlt, h1, h2, h3⟩
      refine .rsl z es m.r (m.s + off) cap' (fun i j => (arr[m.s + (off + (i * z + j))]?).getD undef) hcap hz (fun i j hi hj => ?_) (fun i e he j c' hj => ?_)
      · obtain ⟨c, v, h1, h2, h3, h4⟩ := hcd i j hi hj
        refine ⟨?_, ?_, hB, fun ⟨b, m, h1, h2, h3⟩ => by cases h2⟩
        · simp only [World.cell?, hw, h2, Option.getD_some, Option.isSome_none]
          rw [show m.s + off + (i * z + j) = m.s + (off + (i * z + j)) by omega, h2]; rfl
        · rw [h2]; exact h3
      · have hi : i < es.length := (List.getElem?_eq_some_iff.1 he).1
        have hjz : j < z := by rw [← hz e (List.mem_of_getElem? he)]; exact (List.getElem?_eq_some_iff.1 hj).1
        obtain ⟨c, v, h1, h2, h3, h4⟩ := hcd i j hi hjz
        simp only [h2, Option.getD_some]
        exact ih i j e c c' he hj h1 h4

/-- A slice of one's own whose rows are told by value. -/
theorem rd_rows {l : Hl} {z b n cap sz : Nat} {es : List (List CV)} {rest : List CV} (hb : l[b]? = some (.cells sz (es.flatten ++ rest))) (hn : es.length = n) (hz : ∀ e ∈ es, e.length = z) (hc : closedLL es = true) : Rd l (.sl z b 0 n cap sz) (.rsl z es) := by
  have hflat : ∀ (es : List (List CV)), (∀ e ∈ es, e.length = z) → es.flatten.length = es.length * z := by
    intro es hz
    induction es with
    | nil => simp
    | cons e es ih => rw [List.flatten_cons, List.length_append, hz e (by simp), ih fun e he => hz e (by simp [he]), List.length_cons, Nat.succ_mul, Nat.add_comm]
  have hget : ∀ (es : List (List CV)), (∀ e ∈ es, e.length = z) → ∀ (i j : Nat) (e : List CV) (c : CV), es[i]? = some e → e[j]? = some c → es.flatten[i * z + j]? = some c := by
    intro es hz
    induction es with
    | nil => intro i j e c he; simp at he
    | cons x es ih =>
      intro i j e c he hj
      have hx : x.length = z := hz x (by simp)
      cases i with
      | zero =>
        simp only [List.getElem?_cons_zero, Option.some.injEq] at he
        subst he
        rw [List.flatten_cons, Nat.zero_mul, Nat.zero_add, List.getElem?_append_left (List.getElem?_eq_some_iff.1 hj).1]
        exact hj
      | succ i =>
        simp only [List.getElem?_cons_succ] at he
        rw [List.flatten_cons, List.getElem?_append_right (by rw [hx, Nat.succ_mul]; omega), hx, show (i + 1) * z + j - z = i * z + j by rw [Nat.succ_mul]; omega]
        exact ih (fun e he => hz e (by simp [he])) i j e c he hj
  refine .sl z b 0 n cap sz _ es hb hn hz (by rw [List.length_append, hflat es hz, hn]; omega) (fun i j e c c' he hj hcc => ?_)
  have h1 := hget es hz i j e c' he hj
  rw [Nat.zero_add, List.getElem?_append_left (List.getElem?_eq_some_iff.1 h1).1, h1] at hcc
  cases hcc
  have : ∀ (es : List (List CV)), closedLL es = true → ∀ (i : Nat) (e : List CV), es[i]? = some e → closedL e = true := by
    intro es
    induction es with
    | nil => intro _ i e he; simp at he
    | cons x es ih =>
      intro hc i e he
      simp only [closedLL, Bool.and_eq_true] at hc
      cases i with
      | zero => simp at he; subst he; exact hc.1
      | succ i => exact ih hc.2 i e (by simpa using he)
  exact .same _ (closedL_get (this es hc i e he) j _ hj)

/-- A call from nothing of one's own says what it computes by value. -/
theorem pure_of (hmix : P.follows .mixedOrders = true) (hG : ∀ g, (G g).closed = true) {f : FuncId} {args : List CV} {r : CV} (h : CallP P G f args [] (c := ⟨fun r0 l => Rd l r0 r⟩)) : PureC P G f args r := by
  obtain ⟨r0, l', h1, h2, h3⟩ := h
  intro w A vs hg hl hv
  refine (top_call (A := A) hmix hG h1 hg hl hv).mono ?_
  rintro e w' ⟨v, μ', rfl, hb, rel, hr⟩
  exact ⟨v, rfl, hb, rd_vr rel h3 hr⟩

theorem pure_call {f : FuncId} {args : List CV} {r : CV} {l : Hl} {K : CV → Hl → Prop} (hp : PureC P G f args r) (hc : closedL args = true) (h : K r l) : CallP P G f args l (c := ⟨K⟩) :=
  ⟨r, l, .pure hp hc, Nat.le_refl _, h⟩

/-- A law that holds whatever closed values come in. -/
theorem law_call (hmix : P.follows .mixedOrders = true) (hG : ∀ g, (G g).closed = true) {f : FuncId} {args : List CV} (h : CallP P G f args [] (c := ⟨fun r _ => r = .bool true⟩))
    {w : World} {A : Nat → Prop} {vs : Array Value} (hg : ∀ g, VR0 w A (G g) (.pointer (some ⟨g, 0, none⟩))) (hl : vs.size = args.length)
    (hv : ∀ (j : Nat) (c : CV) (v : Value), args[j]? = some c → vs[j]? = some v → VR0 w A c v) :
    Calls P f vs w fun e w' => e = .returned (.bool true) ∧ RowKit.Below w.heap.size w w' := by
  obtain ⟨r0, l', h1, h2, rfl⟩ := h
  exact top_true hmix hG h1 hg hl hv
end

end Go.CM

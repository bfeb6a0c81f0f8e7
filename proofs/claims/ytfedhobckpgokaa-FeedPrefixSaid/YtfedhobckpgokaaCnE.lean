/-
  The canonical machine: equality, and slices of one's own.
-/
import Derived.Test.YtfedhobckpgokaaCnD
namespace Go.CM
open Go
set_option linter.unusedVariables false
set_option linter.unusedSimpArgs false

section
variable {P : Program} {G : Nat → CV}

theorem bin_bool_eql {t : TypeId} (hu : P.underlying t = some .bool) (a b : Bool) : binC P .eql t (.bool a) (.bool b) = some (.bool (a == b)) := by
  simp [binC, eqOk, eqT, hu]
theorem bin_bool_neq {t : TypeId} (hu : P.underlying t = some .bool) (a b : Bool) : binC P .neq t (.bool a) (.bool b) = some (.bool (!(a == b))) := by
  simp [binC, eqOk, eqT, hu]
theorem bin_nil_eql {t e : TypeId} (hu : P.underlying t = some (.slice e)) {α : Type} (z : Nat) (enc : α → List CV) (s : Sv α) : binC P .eql t (encS z enc s) .nilS = some (.bool s.isNone) := by
  cases s <;> simp [encS, binC, eqOk, eqT, hu]
theorem bin_nil_neq {t e : TypeId} (hu : P.underlying t = some (.slice e)) {α : Type} (z : Nat) (enc : α → List CV) (s : Sv α) : binC P .neq t (encS z enc s) .nilS = some (.bool (!s.isNone)) := by
  cases s <;> simp [encS, binC, eqOk, eqT, hu]

theorem eqElems_ints {e : TypeId} {k : IntKind} (hu : P.underlying e = some (.int k)) (ha : aggT P e = some false) {D : Nat} (x y : List Int) : ∀ (n i : Nat), i + n = x.length → i + n = y.length →
    eqT.eqElems P (eqT P (D + 1)) e 1 (x.map (.int k)) (y.map (.int k)) n i = some (decide (x.drop i = y.drop i)) := by
  intro n
  induction n with
  | zero => intro i hx hy; rw [List.drop_eq_nil_of_le (by omega), List.drop_eq_nil_of_le (by omega)]; simp [eqT.eqElems]
  | succ n ih =>
    intro i hx hy
    have hxi : x[i]? = some x[i] := List.getElem?_eq_getElem (by omega)
    have hyi : y[i]? = some y[i] := List.getElem?_eq_getElem (by omega)
    unfold eqT.eqElems
    simp only [partC_1 ha, Nat.mul_one, List.getElem?_map, hxi, hyi, Option.map_some]
    have he : eqT P (D + 1) e (.int k x[i]) (.int k y[i]) = some (decide (x[i] = y[i])) := by
      unfold eqT
      rw [hu]
      simp only [if_true]
      by_cases h : x[i] = y[i] <;> simp [h]
    rw [he]
    have hdx : x.drop i = x[i] :: x.drop (i + 1) := List.drop_eq_getElem_cons (by omega)
    have hdy : y.drop i = y[i] :: y.drop (i + 1) := List.drop_eq_getElem_cons (by omega)
    by_cases h : x[i] = y[i]
    · simp only [h, decide_true]
      rw [ih (i + 1) (by omega) (by omega)]
      refine congrArg some (decide_eq_decide.2 ?_)
      rw [hdx, hdy, h]
      simp only [List.cons.injEq, true_and]
    · simp only [h, decide_false]
      refine congrArg some (decide_eq_false ?_).symm
      rw [hdx, hdy]
      simp only [List.cons.injEq, h, false_and, not_false_eq_true]

/-- Arrays of integers. -/
theorem eq_ints {t e : TypeId} {k : IntKind} {n : Nat} (ht : P.underlying t = some (.array n e)) (hu : P.underlying e = some (.int k)) (ha : aggT P e = some false) (hs : sizeT P e = some 1) {x y : List Int} (hx : x.length = n) (hy : y.length = n) {D : Nat} :
    eqT P (D + 2) t (.ag (x.map (.int k))) (.ag (y.map (.int k))) = some (decide (x = y)) := by
  unfold eqT
  rw [ht]
  simp only [hs]
  rw [eqElems_ints hu ha x y n 0 (by omega) (by omega)]
  simp
theorem bin_ints_eql {t e : TypeId} {k : IntKind} {n : Nat} (ht : P.underlying t = some (.array n e)) (hu : P.underlying e = some (.int k)) (ha : aggT P e = some false) (hs : sizeT P e = some 1) (hg : P.eqGuardType P.depth t = false)
    {x y : List Int} (hx : x.length = n) (hy : y.length = n) : binC P .eql t (.ag (x.map (.int k))) (.ag (y.map (.int k))) = some (.bool (decide (x = y))) := by
  simp only [binC, eqOk, hg, Bool.not_false, if_true, eq_ints ht hu ha hs hx hy (D := 9998)]; rfl
theorem bin_ints_neq {t e : TypeId} {k : IntKind} {n : Nat} (ht : P.underlying t = some (.array n e)) (hu : P.underlying e = some (.int k)) (ha : aggT P e = some false) (hs : sizeT P e = some 1) (hg : P.eqGuardType P.depth t = false)
    {x y : List Int} (hx : x.length = n) (hy : y.length = n) : binC P .neq t (.ag (x.map (.int k))) (.ag (y.map (.int k))) = some (.bool (!decide (x = y))) := by
  simp only [binC, eqOk, hg, Bool.not_false, if_true, eq_ints ht hu ha hs hx hy (D := 9998)]; rfl

/-! ### Rows -/
theorem flat_len {z : Nat} {es : List (List CV)} (hz : ∀ e ∈ es, e.length = z) : es.flatten.length = es.length * z := by
  induction es with
  | nil => simp
  | cons e es ih => rw [List.flatten_cons, List.length_append, hz e (by simp), ih fun e he => hz e (by simp [he]), List.length_cons, Nat.succ_mul, Nat.add_comm]
theorem flat_get {z : Nat} {es : List (List CV)} (hz : ∀ e ∈ es, e.length = z) {i j : Nat} {e : List CV} (he : es[i]? = some e) (hj : j < z) : es.flatten[i * z + j]? = e[j]? := by
  induction es generalizing i with
  | nil => simp at he
  | cons x es ih =>
    have hx : x.length = z := hz x (by simp)
    cases i with
    | zero =>
      simp only [List.getElem?_cons_zero, Option.some.injEq] at he
      subst he
      rw [List.flatten_cons, Nat.zero_mul, Nat.zero_add, List.getElem?_append_left (by omega)]
    | succ i =>
      simp only [List.getElem?_cons_succ] at he
      rw [List.flatten_cons, List.getElem?_append_right (by rw [hx, Nat.succ_mul]; omega), hx, show (i + 1) * z + j - z = i * z + j by rw [Nat.succ_mul]; omega]
      exact ih (fun e he => hz e (by simp [he])) he
theorem flat_drop {z : Nat} {es : List (List CV)} (hz : ∀ e ∈ es, e.length = z) (i : Nat) : es.flatten.drop (i * z) = (es.drop i).flatten := by
  induction es generalizing i with
  | nil => simp
  | cons x es ih =>
    have hx : x.length = z := hz x (by simp)
    cases i with
    | zero => simp
    | succ i =>
      rw [List.flatten_cons, show (i + 1) * z = x.length + i * z by rw [Nat.succ_mul, hx, Nat.add_comm], List.drop_length_add_append, List.drop_succ_cons]
      exact ih (fun e he => hz e (by simp [he])) i
theorem flat_take {z : Nat} {es : List (List CV)} (hz : ∀ e ∈ es, e.length = z) (i : Nat) : es.flatten.take (i * z) = (es.take i).flatten := by
  induction es generalizing i with
  | nil => simp
  | cons x es ih =>
    have hx : x.length = z := hz x (by simp)
    cases i with
    | zero => simp
    | succ i =>
      rw [List.flatten_cons, show (i + 1) * z = x.length + i * z by rw [Nat.succ_mul, hx, Nat.add_comm], List.take_length_add_append, List.take_succ_cons, List.flatten_cons, ih fun e he => hz e (by simp [he])]
/-- A row as it is read. -/
theorem flat_row {z : Nat} {es : List (List CV)} (hz : ∀ e ∈ es, e.length = z) {i : Nat} {e : List CV} (he : es[i]? = some e) : (es.flatten.drop (i * z)).take z = e := by
  rw [flat_drop hz]
  have hi : i < es.length := (List.getElem?_eq_some_iff.1 he).1
  have : es.drop i = e :: es.drop (i + 1) := by rw [List.drop_eq_getElem_cons hi]; congr 1; rw [List.getElem?_eq_getElem hi] at he; exact Option.some.inj he
  rw [this, List.flatten_cons, List.take_append_of_le_length (by rw [hz e (List.mem_of_getElem? he)]; exact Nat.le_refl _), List.take_of_length_le (by rw [hz e (List.mem_of_getElem? he)]; exact Nat.le_refl _)]
/-- A part of a row is written. -/
theorem flat_splice {z : Nat} {es : List (List CV)} (hz : ∀ e ∈ es, e.length = z) {i j : Nat} {e vs : List CV} (he : es[i]? = some e) (hj : j + vs.length ≤ z) : splice es.flatten (i * z + j) vs = (es.set i (splice e j vs)).flatten := by
  have hi : i < es.length := (List.getElem?_eq_some_iff.1 he).1
  have hle : e.length = z := hz e (List.mem_of_getElem? he)
  have hd : es.drop i = e :: es.drop (i + 1) := by rw [List.drop_eq_getElem_cons hi]; congr 1; rw [List.getElem?_eq_getElem hi] at he; exact Option.some.inj he
  have hset : (es.set i (splice e j vs)).flatten = (es.take i).flatten ++ (splice e j vs ++ (es.drop (i + 1)).flatten) := by
    rw [List.set_eq_take_append_cons_drop, if_pos hi, List.flatten_append, List.flatten_cons]
  have hsplit : es.flatten = (es.take i).flatten ++ (e ++ (es.drop (i + 1)).flatten) := by
    conv => lhs; rw [← List.take_append_drop i es]
    rw [hd, List.flatten_append, List.flatten_cons]
  have hlen : (es.take i).flatten.length = i * z := by
    rw [flat_len (z := z) fun e he => hz e (List.mem_of_mem_take he), List.length_take, Nat.min_eq_left (by omega)]
  rw [hset, hsplit]
  simp only [splice]
  rw [List.take_append, List.take_of_length_le (by omega), hlen, show i * z + j - i * z = j by omega, List.take_append_of_le_length (by omega),
    List.drop_append, List.drop_eq_nil_of_le (by omega), hlen, show i * z + j + vs.length - i * z = j + vs.length by omega, List.nil_append, List.drop_append_of_le_length (by omega)]
  simp only [List.append_assoc]

/-! ### What is known of a state, as the state's own form -/
theorem upd1 {σ : Sg} {i : Nat} {v : CV} (h : σ i = v) : fupd σ i v = σ := by
  funext t; simp only [fupd]; split <;> simp_all
theorem upds1 {σ : Sg} {i1 : Nat} {v1 : CV} (h1 : σ i1 = v1) : ∃ s : Sg, σ = fupd (s) i1 v1 := ⟨σ, by rw [upd1 h1]⟩
theorem upds2 {σ : Sg} {i1 : Nat} {v1 : CV} {i2 : Nat} {v2 : CV} (h1 : σ i1 = v1) (h2 : σ i2 = v2) : ∃ s : Sg, σ = fupd (fupd (s) i1 v1) i2 v2 := ⟨σ, by rw [upd1 h1, upd1 h2]⟩
theorem upds3 {σ : Sg} {i1 : Nat} {v1 : CV} {i2 : Nat} {v2 : CV} {i3 : Nat} {v3 : CV} (h1 : σ i1 = v1) (h2 : σ i2 = v2) (h3 : σ i3 = v3) : ∃ s : Sg, σ = fupd (fupd (fupd (s) i1 v1) i2 v2) i3 v3 := ⟨σ, by rw [upd1 h1, upd1 h2, upd1 h3]⟩
theorem upds4 {σ : Sg} {i1 : Nat} {v1 : CV} {i2 : Nat} {v2 : CV} {i3 : Nat} {v3 : CV} {i4 : Nat} {v4 : CV} (h1 : σ i1 = v1) (h2 : σ i2 = v2) (h3 : σ i3 = v3) (h4 : σ i4 = v4) : ∃ s : Sg, σ = fupd (fupd (fupd (fupd (s) i1 v1) i2 v2) i3 v3) i4 v4 := ⟨σ, by rw [upd1 h1, upd1 h2, upd1 h3, upd1 h4]⟩
theorem upds5 {σ : Sg} {i1 : Nat} {v1 : CV} {i2 : Nat} {v2 : CV} {i3 : Nat} {v3 : CV} {i4 : Nat} {v4 : CV} {i5 : Nat} {v5 : CV} (h1 : σ i1 = v1) (h2 : σ i2 = v2) (h3 : σ i3 = v3) (h4 : σ i4 = v4) (h5 : σ i5 = v5) : ∃ s : Sg, σ = fupd (fupd (fupd (fupd (fupd (s) i1 v1) i2 v2) i3 v3) i4 v4) i5 v5 := ⟨σ, by rw [upd1 h1, upd1 h2, upd1 h3, upd1 h4, upd1 h5]⟩
theorem upds6 {σ : Sg} {i1 : Nat} {v1 : CV} {i2 : Nat} {v2 : CV} {i3 : Nat} {v3 : CV} {i4 : Nat} {v4 : CV} {i5 : Nat} {v5 : CV} {i6 : Nat} {v6 : CV} (h1 : σ i1 = v1) (h2 : σ i2 = v2) (h3 : σ i3 = v3) (h4 : σ i4 = v4) (h5 : σ i5 = v5) (h6 : σ i6 = v6) : ∃ s : Sg, σ = fupd (fupd (fupd (fupd (fupd (fupd (s) i1 v1) i2 v2) i3 v3) i4 v4) i5 v5) i6 v6 := ⟨σ, by rw [upd1 h1, upd1 h2, upd1 h3, upd1 h4, upd1 h5, upd1 h6]⟩
theorem upds7 {σ : Sg} {i1 : Nat} {v1 : CV} {i2 : Nat} {v2 : CV} {i3 : Nat} {v3 : CV} {i4 : Nat} {v4 : CV} {i5 : Nat} {v5 : CV} {i6 : Nat} {v6 : CV} {i7 : Nat} {v7 : CV} (h1 : σ i1 = v1) (h2 : σ i2 = v2) (h3 : σ i3 = v3) (h4 : σ i4 = v4) (h5 : σ i5 = v5) (h6 : σ i6 = v6) (h7 : σ i7 = v7) : ∃ s : Sg, σ = fupd (fupd (fupd (fupd (fupd (fupd (fupd (s) i1 v1) i2 v2) i3 v3) i4 v4) i5 v5) i6 v6) i7 v7 := ⟨σ, by rw [upd1 h1, upd1 h2, upd1 h3, upd1 h4, upd1 h5, upd1 h6, upd1 h7]⟩
theorem upds8 {σ : Sg} {i1 : Nat} {v1 : CV} {i2 : Nat} {v2 : CV} {i3 : Nat} {v3 : CV} {i4 : Nat} {v4 : CV} {i5 : Nat} {v5 : CV} {i6 : Nat} {v6 : CV} {i7 : Nat} {v7 : CV} {i8 : Nat} {v8 : CV} (h1 : σ i1 = v1) (h2 : σ i2 = v2) (h3 : σ i3 = v3) (h4 : σ i4 = v4) (h5 : σ i5 = v5) (h6 : σ i6 = v6) (h7 : σ i7 = v7) (h8 : σ i8 = v8) : ∃ s : Sg, σ = fupd (fupd (fupd (fupd (fupd (fupd (fupd (fupd (s) i1 v1) i2 v2) i3 v3) i4 v4) i5 v5) i6 v6) i7 v7) i8 v8 := ⟨σ, by rw [upd1 h1, upd1 h2, upd1 h3, upd1 h4, upd1 h5, upd1 h6, upd1 h7, upd1 h8]⟩
theorem upds9 {σ : Sg} {i1 : Nat} {v1 : CV} {i2 : Nat} {v2 : CV} {i3 : Nat} {v3 : CV} {i4 : Nat} {v4 : CV} {i5 : Nat} {v5 : CV} {i6 : Nat} {v6 : CV} {i7 : Nat} {v7 : CV} {i8 : Nat} {v8 : CV} {i9 : Nat} {v9 : CV} (h1 : σ i1 = v1) (h2 : σ i2 = v2) (h3 : σ i3 = v3) (h4 : σ i4 = v4) (h5 : σ i5 = v5) (h6 : σ i6 = v6) (h7 : σ i7 = v7) (h8 : σ i8 = v8) (h9 : σ i9 = v9) : ∃ s : Sg, σ = fupd (fupd (fupd (fupd (fupd (fupd (fupd (fupd (fupd (s) i1 v1) i2 v2) i3 v3) i4 v4) i5 v5) i6 v6) i7 v7) i8 v8) i9 v9 := ⟨σ, by rw [upd1 h1, upd1 h2, upd1 h3, upd1 h4, upd1 h5, upd1 h6, upd1 h7, upd1 h8, upd1 h9]⟩
theorem upds10 {σ : Sg} {i1 : Nat} {v1 : CV} {i2 : Nat} {v2 : CV} {i3 : Nat} {v3 : CV} {i4 : Nat} {v4 : CV} {i5 : Nat} {v5 : CV} {i6 : Nat} {v6 : CV} {i7 : Nat} {v7 : CV} {i8 : Nat} {v8 : CV} {i9 : Nat} {v9 : CV} {i10 : Nat} {v10 : CV} (h1 : σ i1 = v1) (h2 : σ i2 = v2) (h3 : σ i3 = v3) (h4 : σ i4 = v4) (h5 : σ i5 = v5) (h6 : σ i6 = v6) (h7 : σ i7 = v7) (h8 : σ i8 = v8) (h9 : σ i9 = v9) (h10 : σ i10 = v10) : ∃ s : Sg, σ = fupd (fupd (fupd (fupd (fupd (fupd (fupd (fupd (fupd (fupd (s) i1 v1) i2 v2) i3 v3) i4 v4) i5 v5) i6 v6) i7 v7) i8 v8) i9 v9) i10 v10 := ⟨σ, by rw [upd1 h1, upd1 h2, upd1 h3, upd1 h4, upd1 h5, upd1 h6, upd1 h7, upd1 h8, upd1 h9, upd1 h10]⟩
theorem upds11 {σ : Sg} {i1 : Nat} {v1 : CV} {i2 : Nat} {v2 : CV} {i3 : Nat} {v3 : CV} {i4 : Nat} {v4 : CV} {i5 : Nat} {v5 : CV} {i6 : Nat} {v6 : CV} {i7 : Nat} {v7 : CV} {i8 : Nat} {v8 : CV} {i9 : Nat} {v9 : CV} {i10 : Nat} {v10 : CV} {i11 : Nat} {v11 : CV} (h1 : σ i1 = v1) (h2 : σ i2 = v2) (h3 : σ i3 = v3) (h4 : σ i4 = v4) (h5 : σ i5 = v5) (h6 : σ i6 = v6) (h7 : σ i7 = v7) (h8 : σ i8 = v8) (h9 : σ i9 = v9) (h10 : σ i10 = v10) (h11 : σ i11 = v11) : ∃ s : Sg, σ = fupd (fupd (fupd (fupd (fupd (fupd (fupd (fupd (fupd (fupd (fupd (s) i1 v1) i2 v2) i3 v3) i4 v4) i5 v5) i6 v6) i7 v7) i8 v8) i9 v9) i10 v10) i11 v11 := ⟨σ, by rw [upd1 h1, upd1 h2, upd1 h3, upd1 h4, upd1 h5, upd1 h6, upd1 h7, upd1 h8, upd1 h9, upd1 h10, upd1 h11]⟩
theorem upds12 {σ : Sg} {i1 : Nat} {v1 : CV} {i2 : Nat} {v2 : CV} {i3 : Nat} {v3 : CV} {i4 : Nat} {v4 : CV} {i5 : Nat} {v5 : CV} {i6 : Nat} {v6 : CV} {i7 : Nat} {v7 : CV} {i8 : Nat} {v8 : CV} {i9 : Nat} {v9 : CV} {i10 : Nat} {v10 : CV} {i11 : Nat} {v11 : CV} {i12 : Nat} {v12 : CV} (h1 : σ i1 = v1) (h2 : σ i2 = v2) (h3 : σ i3 = v3) (h4 : σ i4 = v4) (h5 : σ i5 = v5) (h6 : σ i6 = v6) (h7 : σ i7 = v7) (h8 : σ i8 = v8) (h9 : σ i9 = v9) (h10 : σ i10 = v10) (h11 : σ i11 = v11) (h12 : σ i12 = v12) : ∃ s : Sg, σ = fupd (fupd (fupd (fupd (fupd (fupd (fupd (fupd (fupd (fupd (fupd (fupd (s) i1 v1) i2 v2) i3 v3) i4 v4) i5 v5) i6 v6) i7 v7) i8 v8) i9 v9) i10 v10) i11 v11) i12 v12 := ⟨σ, by rw [upd1 h1, upd1 h2, upd1 h3, upd1 h4, upd1 h5, upd1 h6, upd1 h7, upd1 h8, upd1 h9, upd1 h10, upd1 h11, upd1 h12]⟩

/-! ### Slices of one's own -/
section
variable {α : Type}
@[simp] theorem contents_encS (l : Hl) (z : Nat) (enc : α → List CV) (s : Sv α) : contentsL l z (encS z enc s) = some ((s.l.map enc).flatten, s.l.length) := by
  cases s <;> simp [encS, contentsL]
end
theorem contents_own {l : Hl} {z b n : Nat} {es : List (List CV)} (hb : l[b]? = some (.cells (n * z) es.flatten)) (hn : es.length = n) (hz : ∀ e ∈ es, e.length = z) (cap sz : Nat) (hsz : sz = n * z) : contentsL l z (.sl z b 0 n cap sz) = some (es.flatten, n) := by
  subst hsz
  simp only [contentsL, hb, and_self, if_true, List.drop_zero]
  rw [List.take_of_length_le (by rw [flat_len hz, hn]; exact Nat.le_refl _)]

theorem set_self {l : Hl} {b : Nat} {c : CB} (h : l[b]? = some c) : l.set b c = l := by
  apply List.ext_getElem?
  intro j
  rw [List.getElem?_set]
  by_cases hj : b = j
  · subst hj; rw [if_pos rfl, if_pos (get_lt h)]; exact h.symm
  · rw [if_neg hj]

/-- Something is put behind a slice of one's own that fills its block. -/
theorem app_tight {l : Hl} {z by_ b : Nat} {es xs : List (List CV)} {x : CV} (hb : l[b]? = some (.cells (es.length * z) es.flatten)) (hx : contentsL l z x = some (xs.flatten, xs.length)) (hz : ∀ e ∈ es, e.length = z) (h0 : z ≠ 0) (hby : by_ ≠ 0)
    (hroom : (es.length + xs.length) * by_ ≤ roomMax) :
    appM l z by_ (.sl z b 0 es.length es.length (es.length * z)) x = some (.sl z b 0 (es ++ xs).length (es ++ xs).length ((es ++ xs).length * z), l.set b (.cells ((es ++ xs).length * z) (es ++ xs).flatten)) := by
  unfold appM
  rw [hx]
  show appendL l z by_ _ xs.flatten xs.length = _
  unfold appendL
  cases xs with
  | nil => simp [set_self hb]
  | cons y ys =>
    rw [if_neg (by simp), if_neg (by omega)]
    simp only [hb]
    rw [if_pos ⟨trivial, trivial, hroom⟩, if_neg (by simp), if_neg (by omega), if_pos trivial, List.take_of_length_le (by rw [flat_len hz]; exact Nat.le_refl _)]
    simp only [List.length_append, List.flatten_append]
/-- The same, with its numbers told. -/
theorem app_own {l : Hl} {z by_ b n m sz : Nat} {es xs : List (List CV)} {x : CV} (hb : l[b]? = some (.cells sz es.flatten)) (hx : contentsL l z x = some (xs.flatten, m)) (hn : es.length = n) (hm : xs.length = m) (hs : sz = n * z) (hz : ∀ e ∈ es, e.length = z) (h0 : z ≠ 0) (hby : by_ ≠ 0)
    (hroom : (n + m) * by_ ≤ roomMax) :
    appM l z by_ (.sl z b 0 n n sz) x = some (.sl z b 0 (n + m) (n + m) ((n + m) * z), l.set b (.cells ((n + m) * z) (es ++ xs).flatten)) := by
  subst hn hm hs
  rw [app_tight hb hx hz h0 hby hroom]
  simp only [List.length_append]
theorem app_fresh {l : Hl} {z by_ b m : Nat} {xs : List (List CV)} {x : CV} (hb : l[b]? = some (.cells 0 [])) (hx : contentsL l z x = some (xs.flatten, m)) (hm : xs.length = m) (h0 : z ≠ 0) (hby : by_ ≠ 0) (hroom : m * by_ ≤ roomMax) :
    appM l z by_ (.sl z b 0 0 0 0) x = some (.sl z b 0 m m (m * z), l.set b (.cells (m * z) xs.flatten)) := by
  have := app_own (es := []) (n := 0) (by simpa using hb) hx rfl hm (by simp) (by simp) h0 hby (by simpa using hroom)
  simpa using this
theorem app_nil {l : Hl} {z by_ : Nat} {xs : List (List CV)} {x : CV} (hx : contentsL l z x = some (xs.flatten, xs.length)) (h0 : z ≠ 0) (hby : by_ ≠ 0) (hne : xs ≠ []) (hroom : xs.length * by_ ≤ roomMax) :
    appM l z by_ .nilS x = some (.sl z l.length 0 xs.length xs.length (xs.length * z), l ++ [.cells (xs.length * z) xs.flatten]) := by
  unfold appM
  rw [hx]
  show appendL l z by_ _ xs.flatten xs.length = _
  unfold appendL
  rw [if_neg (by simp [hne]), if_neg (by omega)]
  simp only
  rw [if_pos hroom]
theorem app_nil0 {l : Hl} {z by_ : Nat} {x : CV} (hx : contentsL l z x = some ([], 0)) : appM l z by_ .nilS x = some (.nilS, l) := by
  unfold appM; rw [hx]
  show appendL l z by_ _ [] 0 = _
  unfold appendL; simp
/-- What was put together is from now on only read. -/
theorem AppK.frz {z b n sz : Nat} {es : List (List CV)} {l : Hl} {K : CV → Hl → Prop} (cap : Nat) (hb : l[b]? = some (.cells sz es.flatten)) (hn : es.length = n) (hz : ∀ e ∈ es, e.length = z) (h : K (.rsl z es) (l.set b .dead)) : AppK (.sl z b 0 n cap sz) l (c := ⟨K⟩) := by
  have hlt := get_lt hb
  have hd : (HL (l.set b .dead)).f b = .dead := by rw [HL_f, List.getElem?_set, if_pos rfl, if_pos hlt]
  refine .inr ⟨_, _, ⟨by simp, fun b' => ?_⟩, .sl z b 0 n cap sz es.flatten es (HL_cells.2 hb) hd hn hz (by rw [flat_len hz, hn]; omega) (fun i j e c c' he hj hc => ?_), h⟩
  · by_cases hbb : b' = b
    · subst hbb; exact .inr ⟨sz, es.flatten, HL_cells.2 hb, .inl hd⟩
    · left
      rw [HL_f, HL_f, List.getElem?_set, if_neg (by omega)]
  · rw [Nat.zero_add, flat_get hz he (by rw [← hz e (List.mem_of_getElem? he)]; exact (List.getElem?_eq_some_iff.1 hj).1), hj] at hc
    cases hc
    exact .same _
theorem AppK.frz0 {z b cap sz : Nat} {l : Hl} {K : CV → Hl → Prop} (h : K (.rsl z []) l) : AppK (.sl z b 0 0 cap sz) l (c := ⟨K⟩) :=
  .inr ⟨_, _, ⟨rfl, fun _ => .inl rfl⟩, .sl0 z b 0 cap sz, h⟩
theorem splice_full {cs vs : List CV} (h : vs.length = cs.length) : splice cs 0 vs = vs := by
  simp only [splice, List.take_zero, List.nil_append, Nat.zero_add]
  rw [List.drop_eq_nil_of_le (by omega), List.append_nil]
theorem partA_full {n : Nat} {cs : List CV} (h : cs.length = n) : partA n cs 0 = some (.ag cs) := by
  simp [partA, h, List.take_of_length_le]
theorem bounds_lo (len cap : Nat) (k : IntKind) (i : Int) : boundsC len cap (some (.int k i)) none none = if 0 ≤ i ∧ i ≤ len then some (i.toNat, len, cap) else none := by
  unfold boundsC boundC
  by_cases h : 0 ≤ i ∧ i ≤ len
  · simp only [if_pos h]
  · simp only [if_neg h]
theorem bounds_hi (len cap : Nat) (k : IntKind) (i : Int) : boundsC len cap none (some (.int k i)) none = if 0 ≤ i ∧ i ≤ cap then some (0, i.toNat, cap) else none := by
  unfold boundsC boundC
  by_cases h : 0 ≤ i ∧ i ≤ cap
  · simp only [if_pos h]
  · simp only [if_neg h]
theorem bounds_both (len cap : Nat) (k k' : IntKind) (i j : Int) : boundsC len cap (some (.int k i)) (some (.int k' j)) none = if 0 ≤ i ∧ i ≤ j ∧ j ≤ cap then some (i.toNat, j.toNat, cap) else none := by
  unfold boundsC boundC
  by_cases h : 0 ≤ j ∧ j ≤ cap
  · simp only [if_pos h]
    by_cases h2 : 0 ≤ i ∧ i ≤ ((j.toNat : Nat) : Int)
    · simp only [if_pos h2]; rw [if_pos (by omega)]
    · simp only [if_neg h2]; rw [if_neg (by omega)]
  · simp only [if_neg h]; rw [if_neg (by omega)]
theorem bounds_none (len cap : Nat) : boundsC len cap none none none = some (0, len, cap) := rfl
theorem slice_from {α : Type} {z : Nat} {enc : α → List CV} {l : List α} {k : IntKind} {i : Int} (h1 : 0 ≤ i) (h2 : i ≤ l.length) : sliceM (.sl z) (encS z enc (some l)) (some (.int k i)) none none = some (encS z enc (some (l.drop i.toNat))) := by
  have h3 : i.toNat ≤ l.length := by omega
  simp only [sliceM, encS, if_true, bounds_lo, List.length_map]
  rw [if_pos ⟨h1, h2⟩]
  simp only [Option.map_some, Option.some.injEq, CV.rsl.injEq, true_and]
  rw [List.take_of_length_le (by simp), List.map_drop]
theorem slice_to {α : Type} {z : Nat} {enc : α → List CV} {l : List α} {k : IntKind} {i : Int} (h1 : 0 ≤ i) (h2 : i ≤ l.length) : sliceM (.sl z) (encS z enc (some l)) none (some (.int k i)) none = some (encS z enc (some (l.take i.toNat))) := by
  simp only [sliceM, encS, if_true, bounds_hi, List.length_map]
  rw [if_pos ⟨h1, h2⟩]
  simp only [Option.map_some, Option.some.injEq, CV.rsl.injEq, true_and, List.drop_zero, Nat.sub_zero]
  rw [List.map_take]
theorem slice_mid {α : Type} {z : Nat} {enc : α → List CV} {l : List α} {k k' : IntKind} {i j : Int} (h0 : 0 ≤ i) (h1 : i ≤ j) (h2 : j ≤ l.length) : sliceM (.sl z) (encS z enc (some l)) (some (.int k i)) (some (.int k' j)) none = some (encS z enc (some ((l.drop i.toNat).take (j.toNat - i.toNat)))) := by
  simp only [sliceM, encS, if_true, bounds_both, List.length_map]
  rw [if_pos ⟨h0, h1, h2⟩]
  simp only [Option.map_some, Option.some.injEq, CV.rsl.injEq, true_and]
  rw [List.map_take, List.map_drop]
theorem map_set {α : Type} (l : List α) (k : Nat) (x : α) (enc : α → List CV) : (l.map enc).set k (enc x) = (l.set k x).map enc := by rw [List.map_set]
theorem split_at {α : Type} {l : List α} {j : Nat} {x : α} (h : l[j]? = some x) : ∃ pre post, l = pre ++ x :: post ∧ pre.length = j := by
  have hj := (List.getElem?_eq_some_iff.1 h).1
  refine ⟨l.take j, l.drop (j + 1), ?_, by rw [List.length_take]; omega⟩
  have : l.drop j = x :: l.drop (j + 1) := by rw [List.drop_eq_getElem_cons hj, (List.getElem?_eq_some_iff.1 h).2]
  rw [← this, List.take_append_drop]
end

end Go.CM

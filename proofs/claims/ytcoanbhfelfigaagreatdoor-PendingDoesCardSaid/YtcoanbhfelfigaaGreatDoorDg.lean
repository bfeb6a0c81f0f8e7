/-
  Equality of plain values: rows of numbers, strings and truths are equal just when all cells are.
-/
import Derived.Test.YtcoanbhfelfigaaGreatDoorDf
set_option linter.unusedVariables false
set_option linter.unusedSimpArgs false
set_option linter.unnecessarySimpa false
namespace Go.CM
open Go
inductive Tk where
 | b
 | i (k : IntKind)
 | s
def tkOk : Tk → CV → Bool
 | .b, .bool _ => true
 | .i k, .int k' _ => decide (k = k')
 | .s, .str _ => true
 | _, _ => false
def okK : List Tk → List CV → Bool
 | [], [] => true
 | k :: ks, c :: cs => tkOk k c && okK ks cs
 | _, _ => false
theorem okK_len : ∀ {ks : List Tk} {cs : List CV}, okK ks cs = true → cs.length = ks.length
 | [], [], _ => rfl
 | [], _ :: _, h => by cases h
 | _ :: _, [], h => by cases h
 | k :: ks, c :: cs, h => by simp only [okK, Bool.and_eq_true] at h; simp [okK_len h.2]
theorem okK_split : ∀ {l r : List Tk} {m : List CV}, okK (l ++ r) m = true → ∃ m1 m2, m = m1 ++ m2 ∧ okK l m1 = true ∧ okK r m2 = true
 | [], r, m, h => ⟨[], m, rfl, rfl, h⟩
 | k :: l, r, [], h => by cases h
 | k :: l, r, c :: m, h => by
  simp only [List.cons_append, okK, Bool.and_eq_true] at h
  obtain ⟨m1, m2, rfl, h1, h2⟩ := okK_split h.2
  exact ⟨c :: m1, m2, rfl, by simp [okK, h.1, h1], h2⟩
theorem one_int {k : IntKind} {xs : List CV} (h : okK [.i k] xs = true) : ∃ p, xs = [.int k p] := by
 cases xs with
 | nil => cases h
 | cons c r =>
  simp only [okK, Bool.and_eq_true] at h
  cases r with
  | cons _ _ => cases h.2
  | nil =>
   cases c <;> simp only [tkOk] at h <;> try (cases h.1; done)
   rename_i k' p
   have hk : k = k' := by simpa using h.1
   subst hk
   exact ⟨p, rfl⟩
theorem beqL_app : ∀ {x1 y1 x2 y2 : List CV}, x1.length = y1.length → beqL (x1 ++ x2) (y1 ++ y2) = (beqL x1 y1 && beqL x2 y2)
 | [], [], _, _, _ => by simp [beqL]
 | [], _ :: _, _, _, h => by simp at h
 | _ :: _, [], _, _, h => by simp at h
 | a :: x1, b :: y1, x2, y2, h => by
  simp only [List.length_cons, Nat.add_right_cancel_iff] at h
  simp only [List.cons_append, beqL, beqL_app h, Bool.and_assoc]
section
variable (P : Program)
def kindsFs (f : TypeId → Option (List Tk)) : List Field → Nat → Option (List Tk)
 | [], _ => some []
 | fd :: fs, o => match f fd.type, sizeT P fd.type with
  | some l, some z => match fd.name != "_" && Nat.beq fd.offset o && Nat.beq l.length z with
   | true => match kindsFs f fs (o + z) with
    | some r => some (l ++ r)
    | none => none
   | false => none
  | _, _ => none
def kindsT : Nat → TypeId → Option (List Tk)
 | 0, _ => none
 | d + 1, t => match P.underlying t with
  | some .bool => some [.b]
  | some (.int k) => some [.i k]
  | some .string => some [.s]
  | some (.array n e) => match kindsT d e, sizeT P e with
   | some l, some z => match Nat.beq l.length z with
    | true => some (List.replicate n l).flatten
    | false => none
   | _, _ => none
  | some (.struct fs) => match P.stoodInHeld t with
   | false => kindsFs P (kindsT d) fs.toList 0
   | true => none
  | _ => none
def asT (t : TypeId) (l : List CV) : Option CV := match aggT P t with
 | some true => some (.ag l)
 | some false => l[0]?
 | none => none
end
variable {P : Program}
theorem part_at {t : TypeId} {z : Nat} (hz : sizeT P t = some z) {pre mid post : List CV} (hm : mid.length = z) (hg : aggT P t = some false → mid.length = 1) : partC P t (pre ++ (mid ++ post)) pre.length = asT P t mid := by
 unfold partC asT
 rw [hz]
 cases ha : aggT P t with
 | none => rfl
 | some g =>
  cases g with
  | true =>
   simp only
   rw [if_pos (by simp; omega), List.drop_left, List.take_append_of_le_length (by omega), List.take_of_length_le (by omega)]
  | false =>
   have := hg ha
   simp only
   rw [List.getElem?_append_right (by omega), Nat.sub_self, List.getElem?_append_left (by omega)]
def EqAt (P : Program) (f : TypeId → Option (List Tk)) (eq : TypeId → CV → CV → Option Bool) : Prop :=
 ∀ t ks, f t = some ks → (aggT P t = some false → ks.length = 1) ∧ ∀ xs ys, okK ks xs = true → okK ks ys = true → ∃ a b, asT P t xs = some a ∧ asT P t ys = some b ∧ eq t a b = some (beqL xs ys)
theorem eqFields_plain {f : TypeId → Option (List Tk)} {eq : TypeId → CV → CV → Option Bool} (he : EqAt P f eq) : ∀ (fs : List Field) (o : Nat) (ks : List Tk), kindsFs P f fs o = some ks → ∀ (px py mx my : List CV), px.length = o → py.length = o → okK ks mx = true → okK ks my = true →
  eqT.eqFields P eq (px ++ mx) (py ++ my) fs = some (beqL mx my)
 | [], o, ks, h, px, py, mx, my, hx, hy, kx, ky => by
  cases h
  cases mx with
  | nil => cases my with | nil => rfl | cons _ _ => cases ky
  | cons _ _ => cases kx
 | fd :: fs, o, ks, h, px, py, mx, my, hx, hy, kx, ky => by
  unfold kindsFs at h
  split at h
  ·rename_i l z hl hz
   split at h
   ·rename_i hc
    simp only [Bool.and_eq_true, bne_iff_ne, ne_eq] at hc
    split at h
    ·rename_i r hr
     cases h
     obtain ⟨x1, x2, rfl, a1, a2⟩ := okK_split kx
     obtain ⟨y1, y2, rfl, b1, b2⟩ := okK_split ky
     have ho : fd.offset = o := Nat.eq_of_beq_eq_true hc.1.2
     have hlz : l.length = z := Nat.eq_of_beq_eq_true hc.2
     obtain ⟨g1, g2⟩ := he _ _ hl
     obtain ⟨a, b, ea, eb, eab⟩ := g2 x1 y1 a1 b1
     have lx := okK_len a1
     have ly := okK_len b1
     unfold eqT.eqFields
     rw [if_neg hc.1.1, ho]
     rw [show partC P fd.type (px ++ (x1 ++ x2)) o = some a by rw [← hx, part_at hz (by omega) (fun h => by rw [lx]; exact g1 h)]; exact ea]
     rw [show partC P fd.type (py ++ (y1 ++ y2)) o = some b by rw [← hy, part_at hz (by omega) (fun h => by rw [ly]; exact g1 h)]; exact eb]
     simp only [eab]
     rw [beqL_app (by omega)]
     have ih := eqFields_plain he fs (o + z) r hr (px ++ x1) (py ++ y1) x2 y2 (by simp; omega) (by simp; omega) a2 b2
     rw [List.append_assoc, List.append_assoc] at ih
     cases beqL x1 y1 with
     | true => simpa using ih
     | false => simp
    ·cases h
   ·cases h
  ·cases h
theorem eqElems_plain {eq : TypeId → CV → CV → Option Bool} {e : TypeId} {l : List Tk} {z : Nat} (hz : sizeT P e = some z) (hlz : l.length = z) (hg : aggT P e = some false → l.length = 1)
  (he : ∀ xs ys, okK l xs = true → okK l ys = true → ∃ a b, asT P e xs = some a ∧ asT P e ys = some b ∧ eq e a b = some (beqL xs ys)) : ∀ (n i : Nat) (px py mx my : List CV), px.length = i * z → py.length = i * z → okK (List.replicate n l).flatten mx = true → okK (List.replicate n l).flatten my = true →
  eqT.eqElems P eq e z (px ++ mx) (py ++ my) n i = some (beqL mx my)
 | 0, i, px, py, mx, my, hx, hy, kx, ky => by
  simp only [List.replicate_zero, List.flatten_nil] at kx ky
  cases mx with
  | nil => cases my with | nil => rfl | cons _ _ => cases ky
  | cons _ _ => cases kx
 | n + 1, i, px, py, mx, my, hx, hy, kx, ky => by
  rw [List.replicate_succ, List.flatten_cons] at kx ky
  obtain ⟨x1, x2, rfl, a1, a2⟩ := okK_split kx
  obtain ⟨y1, y2, rfl, b1, b2⟩ := okK_split ky
  obtain ⟨a, b, ea, eb, eab⟩ := he x1 y1 a1 b1
  have lx := okK_len a1
  have ly := okK_len b1
  unfold eqT.eqElems
  rw [show partC P e (px ++ (x1 ++ x2)) (i * z) = some a by rw [← hx, part_at hz (by omega) (fun h => by rw [lx]; exact hg h)]; exact ea]
  rw [show partC P e (py ++ (y1 ++ y2)) (i * z) = some b by rw [← hy, part_at hz (by omega) (fun h => by rw [ly]; exact hg h)]; exact eb]
  simp only [eab]
  rw [beqL_app (by omega)]
  have ih := eqElems_plain hz hlz hg he n (i + 1) (px ++ x1) (py ++ y1) x2 y2 (by simp [Nat.succ_mul]; omega) (by simp [Nat.succ_mul]; omega) a2 b2
  rw [List.append_assoc, List.append_assoc] at ih
  cases beqL x1 y1 with
  | true => simpa using ih
  | false => simp
theorem eqT_plain : ∀ (d D : Nat), d ≤ D → EqAt P (kindsT P d) (eqT P D)
 | 0, D, _, t, ks, h => by cases h
 | d + 1, 0, hd, t, ks, h => by omega
 | d + 1, D + 1, hd, t, ks, h => by
  have ih := eqT_plain d D (by omega)
  unfold kindsT at h
  split at h
  ·rename_i hu
   have ha : aggT P t = some false := by unfold aggT; rw [hu]; rfl
   cases h
   refine ⟨fun _ => rfl, fun xs ys hx hy => ?_⟩
   match xs, ys, hx, hy with
   | [.bool p], [.bool q], _, _ =>
    refine ⟨.bool p, .bool q, by simp [asT, ha], by simp [asT, ha], ?_⟩
    unfold eqT; rw [hu]
    cases p <;> cases q <;> rfl
  ·rename_i k hu
   have ha : aggT P t = some false := by unfold aggT; rw [hu]; rfl
   cases h
   refine ⟨fun _ => rfl, fun xs ys hx hy => ?_⟩
   obtain ⟨p, rfl⟩ := one_int hx
   obtain ⟨q, rfl⟩ := one_int hy
   ·refine ⟨.int k p, .int k q, by simp [asT, ha], by simp [asT, ha], ?_⟩
    unfold eqT; rw [hu]
    by_cases h : p = q <;> simp [beqL, CV.beq, h]
  ·rename_i hu
   have ha : aggT P t = some false := by unfold aggT; rw [hu]; rfl
   cases h
   refine ⟨fun _ => rfl, fun xs ys hx hy => ?_⟩
   match xs, ys, hx, hy with
   | [.str p], [.str q], _, _ =>
    refine ⟨.str p, .str q, by simp [asT, ha], by simp [asT, ha], ?_⟩
    unfold eqT; rw [hu]
    by_cases h : p = q <;> simp [beqL, CV.beq, h]
  ·rename_i n e hu
   have ha : aggT P t = some true := by unfold aggT; rw [hu]; rfl
   split at h
   ·rename_i l z hl hz
    split at h
    ·rename_i hlz
     cases h
     obtain ⟨g1, g2⟩ := ih _ _ hl
     refine ⟨fun h => (by rw [ha] at h; cases h), fun xs ys hx hy => ⟨.ag xs, .ag ys, by simp [asT, ha], by simp [asT, ha], ?_⟩⟩
     unfold eqT; rw [hu]
     simp only [hz]
     exact eqElems_plain hz (Nat.eq_of_beq_eq_true hlz) g1 g2 n 0 [] [] xs ys (by simp) (by simp) hx hy
    ·cases h
   ·cases h
  ·rename_i fs hu
   have ha : aggT P t = some true := by unfold aggT; rw [hu]; rfl
   split at h
   ·rename_i hs
    refine ⟨fun h => (by rw [ha] at h; cases h), fun xs ys hx hy => ⟨.ag xs, .ag ys, by simp [asT, ha], by simp [asT, ha], ?_⟩⟩
    unfold eqT; rw [hu]
    simp only [hs, Bool.false_eq_true, if_false]
    exact eqFields_plain ih fs.toList 0 ks h [] [] xs ys rfl rfl hx hy
   ·cases h
  ·cases h
theorem bin_plain_eql {t : TypeId} {ks : List Tk} (hk : kindsT P 20 t = some ks) (ha : aggT P t = some true) (hg : P.eqGuardType P.depth t = false) {xs ys : List CV} (hx : okK ks xs = true) (hy : okK ks ys = true) : binC P .eql t (.ag xs) (.ag ys) = some (.bool (beqL xs ys)) := by
 obtain ⟨a, b, ea, eb, eab⟩ := (eqT_plain (P := P) 20 10000 (by omega) t ks hk).2 xs ys hx hy
 simp only [asT, ha, Option.some.injEq] at ea eb
 subst ea; subst eb
 exact bin_eql_of hg eab
theorem bin_plain_neq {t : TypeId} {ks : List Tk} (hk : kindsT P 20 t = some ks) (ha : aggT P t = some true) (hg : P.eqGuardType P.depth t = false) {xs ys : List CV} (hx : okK ks xs = true) (hy : okK ks ys = true) : binC P .neq t (.ag xs) (.ag ys) = some (.bool (!beqL xs ys)) := by
 obtain ⟨a, b, ea, eb, eab⟩ := (eqT_plain (P := P) 20 10000 (by omega) t ks hk).2 xs ys hx hy
 simp only [asT, ha, Option.some.injEq] at ea eb
 subst ea; subst eb
 exact bin_neq_of hg eab
end Go.CM

/-
  slices.Concat of parts that are one's own: walked, for callers that append to what they get.
-/
import Derived.Test.YtboebmmklamaeaaGreatDoorEj
import Derived.Shelf.Spec.SlicesInsertGrow
import Derived.Sort.Walk0
namespace Go.CM
open Go Go.Proofs
set_option linter.unusedVariables false
set_option linter.unusedSimpArgs false
set_option maxRecDepth 100000
namespace Op
open Sha
theorem row_get {l : Hl} {b n : Nat} {ws : List CV} {k : Nat} {w : CV} {kd : IntKind} (hb : l[b]? = some (.cells n ws)) (hn : ws.length = n) (hk : ws[k]? = some w) :
    ∃ p cs o, iaC (.sl 1) (.sl 1 b 0 n n n) (.int kd (k : Int)) = some p ∧ reachL l p = some (cs, o) ∧ cs[o]? = some w := by
  have hlt : k < n := by rw [← hn]; exact (List.getElem?_eq_some_iff.1 hk).1
  refine ⟨.ptr b (0 + k * 1) n, ws, 0 + k * 1, ?_, ?_, by simpa using hk⟩
  · simp only [iaC, Int.toNat_natCast]
    rw [if_pos ⟨trivial, by omega, by omega⟩]
  · simp only [reachL, hb, if_true]
theorem grow_ob {n : Nat} (hn : n ≤ 1000000000) {l : Hl} {K : CV → Hl → Prop} (hK : ∀ v l', Ob 1 enc8 l l' v ([] : List B) (decide (n = 0)) → K v l') : CallP Tryz.prog GS 155 [.nilS, .int .i64 n] l (c := ⟨K⟩) := by
  apply call_intro c155_eq r155_eq
  unfold c155 r155
  have h1 : ¬((n : Int) < 0) := by omega
  have hw : IntKind.i64.wrap (n : Int) = n := wrap_i64 (by omega) (by omega)
  have hw0 : IntKind.i64.wrap (0 : Int) = 0 := rfl
  by_cases h0 : n = 0
  · subst h0
    simp
    exact hK _ _ Ob.nil
  have h2 : (0 : Int) < n := by omega
  have hz : appZM l 1 1 [.int .u8 0] .nilS (.int .i64 n) = some (.sl 1 l.length 0 n n (n * 1), l ++ [.cells (n * 1) (repeatC [.int .u8 0] n)]) := by
    unfold appZM appendL
    simp only [Int.toNat_natCast]
    have hr : roomMax = 140737488355328 := rfl
    rw [if_pos ⟨by omega, by omega, by rw [hr]; omega⟩, if_neg h0, if_neg (by omega), if_pos (by rw [hr]; omega)]
  have hs : sliceM (.sl 1) (.sl 1 l.length 0 n n (n * 1)) none (some (.int .i64 0)) none = some (.sl 1 l.length 0 0 n (n * 1)) := by
    rw [sliceM_sl, bounds_hi, if_pos ⟨by omega, by omega⟩]
    simp [h0]
  rw [Nat.mul_one] at hz hs
  have h3 : 0 < n := by omega
  simp [h1, h2, h3, hw, hz, hw0, hs]
  refine hK _ (l ++ [.cells n (repeatC [.int .u8 0] n)]) ⟨l.length, .sl _ 0 n n (repeatC [.int .u8 0] n) [] (by simp) (by rw [repeatC_len']; simp) rfl (by simp) (by omega) (by omega) rfl, by simp, fun b hb => List.getElem?_append_left hb, .inr (Nat.le_refl _), ?_⟩
  simp [isNilS, h0]
def flB (bs : List (List B)) : List B := bs.flatten
theorem flB_take {bs : List (List B)} {k : Nat} {s : List B} (h : bs[k]? = some s) : flB (bs.take (k + 1)) = flB (bs.take k) ++ s := by
  unfold flB
  rw [List.take_add_one, h]; simp
theorem flB_le (bs : List (List B)) (k : Nat) : (flB (bs.take k)).length ≤ (flB bs).length := by
  conv => rhs; rw [← List.take_append_drop k bs]
  unfold flB
  rw [List.flatten_append, List.length_append]
  omega
structure Part (l : Hl) (w : CV) (s : List B) : Prop where
  len : lenM (.sl 1) w = some (.int .i64 s.length)
  con : ∀ l', l.length ≤ l'.length → (∀ b, b < l.length → l'[b]? = l[b]?) → contentsL l' 1 w = some ((s.map enc8).flatten, s.length)
theorem ob_part {l l1 : Hl} {w : CV} {s : List B} {nl : Bool} (h : Ob 1 enc8 l l1 w s nl) : Part l1 w s := ⟨h.len, fun l' h1 h2 => (h.frame h1 h2).contents⟩
theorem Part.frame {l l1 : Hl} {w : CV} {s : List B} (h : Part l w s) (hl : l.length ≤ l1.length) (hs : ∀ b, b < l.length → l1[b]? = l[b]?) : Part l1 w s :=
  ⟨h.len, fun l' h1 h2 => h.con l' (by omega) fun b hb => by rw [h2 b (by omega)]; exact hs b hb⟩
theorem part_one {l : Hl} {b : Nat} {x : B} (h : l[b]? = some (.cells 1 [e8 x])) : Part l (.sl 1 b 0 1 1 1) [x] := by
  have := get_lt h
  exact ⟨rfl, fun l' h1 h2 => by have := h2 b this; rw [h] at this; simp [contentsL, this, enc8]⟩
structure CatI (l : Hl) (X : CV) (bs : List (List B)) (k : Nat) (σ : Sg) (l1 : Hl) : Prop where
  g25 : σ 25 = X
  g26 : σ 26 = .int .i64 bs.length
  g27 : σ 27 = .int .i64 k
  ob : ∃ v, σ 6 = v ∧ Ob 1 enc8 l l1 v (flB (bs.take k)) (decide ((flB bs).length = 0))
set_option maxHeartbeats 4000000 in
theorem concat_ob {l : Hl} {b n : Nat} {ws : List CV} {bs : List (List B)} (hb : l[b]? = some (.cells n ws)) (hwn : ws.length = n) (hbn : bs.length = n)
    (hp : ∀ (k : Nat) (w : CV) (s : List B), ws[k]? = some w → bs[k]? = some s → Part l w s) (hl : (flB bs).length ≤ 1000000000) (hll : n ≤ 1000000000)
    {K : CV → Hl → Prop} (hK : ∀ v l', Ob 1 enc8 l l' v (flB bs) (decide ((flB bs).length = 0)) → K v l') :
    CallP Tryz.prog GS 109 [.sl 1 b 0 n n n] l (c := ⟨K⟩) := by
  apply call_intro c109_eq r109_eq
  unfold c109 r109
  have hlb := get_lt hb
  have hX : ∀ l', l.length ≤ l'.length → (∀ b, b < l.length → l'[b]? = l[b]?) → ∀ k, k < n → ∃ w s p cs o, ws[k]? = some w ∧ bs[k]? = some s ∧ Part l' w s ∧ iaC (.sl 1) (.sl 1 b 0 n n n) (.int .i64 (k : Int)) = some p ∧ reachL l' p = some (cs, o) ∧ cs[o]? = some w := by
    intro l' h1 h2 k hk
    obtain ⟨w, hw, _⟩ := get_of (l := ws) (k := k) (by omega)
    obtain ⟨s, hs, _⟩ := get_of (l := bs) (k := k) (by omega)
    obtain ⟨p, cs, o, a1, a2, a3⟩ := row_get (kd := .i64) (l := l') (by rw [h2 b hlb]; exact hb) hwn hw
    exact ⟨w, s, p, cs, o, hw, hs, (hp k w s hw hs).frame h1 h2, a1, a2, a3⟩
  obtain ⟨X, hXe⟩ : ∃ X, X = CV.sl 1 b 0 n n n := ⟨_, rfl⟩
  have hXl : lenM (.sl 1) X = some (.int .i64 bs.length) := by rw [hXe, hbn]; rfl
  rw [← hXe] at hX ⊢
  simp [hXl]
  refine loop_up n (fun k σ l1 => σ 0 = X ∧ σ 9 = X ∧ σ 10 = .int .i64 bs.length ∧ σ 11 = .int .i64 k ∧ σ 3 = .int .i64 (flB (bs.take k)).length ∧ l1 = l) ?_ ?_
  · rintro k σ l1 hk ⟨g0, g9, g10, g11, g3, rfl⟩
    obtain ⟨σ, rfl⟩ := upds5 g0 g3 g9 g10 g11
    clear g0 g3 g9 g10 g11
    unfold l109_0
    simp
    by_cases h : k < bs.length
    · obtain ⟨w, s, p, cs, o, hw, hs, hpt, a1, a2, a3⟩ := hX l1 (Nat.le_refl _) (fun _ _ => rfl) k (by omega)
      have hft := flB_take hs
      have hle := flB_le bs (k + 1)
      rw [hft, List.length_append] at hle
      have hw2 : IntKind.i64.wrap (((flB (bs.take k)).length : Int) + s.length) = ((flB (bs.take k)).length : Int) + s.length := wrap_i64 (by omega) (by omega)
      have hwk : IntKind.i64.wrap ((k : Int) + 1) = k + 1 := wrap_i64 (by omega) (by omega)
      have hneg : ¬(((flB (bs.take k)).length : Int) + s.length < 0) := by omega
      have hpl := hpt.len
      simp [h, a1, a2, a3, hpl, hw2, hneg, hwk, hft]
      omega
    · have hkl : k = bs.length := by omega
      subst hkl
      rw [List.take_length]
      simp
      refine grow_ob hl ?_
      intro v l ho
      simp [hXl]
      refine loop_up bs.length (CatI l1 X bs) ?_ ⟨by simp, by simp, by simp, v, by simp, by simpa [flB] using ho⟩
      rintro k σ l2 hk ⟨g25, g26, g27, w, g6, ho⟩
      obtain ⟨σ, rfl⟩ := upds4 g6 g25 g26 g27
      clear g6 g25 g26 g27
      unfold l109_1
      simp
      by_cases h : k < bs.length
      · obtain ⟨y, s, p, cs, o, hw, hs, hpt, a1, a2, a3⟩ := hX l2 ho.le ho.same k (by omega)
        have hft := flB_take hs
        have hle := flB_le bs (k + 1)
        rw [hft, List.length_append] at hle
        have hwk : IntKind.i64.wrap ((k : Int) + 1) = k + 1 := wrap_i64 (by omega) (by omega)
        have hr : roomMax = 140737488355328 := rfl
        obtain ⟨v', l3, b1, b2, b3⟩ := ho.app (by_ := 1) (x := y) (xs := s) (hpt.con l2 (Nat.le_refl _) fun _ _ => rfl) (by simp [enc8]) (by omega) (by omega) (by rw [hr]; omega)
        simp [h, a1, a2, a3, b1]
        refine AppK.keep ?_
        simp [h, hwk]
        refine ⟨by simp, by simp, by simp, v', by simp, ?_⟩
        rw [hft]
        have hnl : (decide ((flB bs).length = 0) && s.isEmpty) = decide ((flB bs).length = 0) := by
          by_cases he : (flB bs).length = 0
          · have : s = [] := List.length_eq_zero_iff.1 (by omega)
            simp [he, this]
          · simp [he]
        rw [hnl] at b2
        exact b2
      · have hkl : k = bs.length := by omega
        subst hkl
        simp
        rw [List.take_length] at ho
        exact hK _ _ ho
  · simp [flB]
end Op
end Go.CM

/-
  op.Message: walked.
-/
namespace Go.CM
open Go Go.Proofs
set_option linter.unusedVariables false
set_option linter.unusedSimpArgs false
set_option maxRecDepth 100000
namespace Op
open Sha
def bareO (o : Opr) : Opr := { o with e := 0#32, s := 0#32 }
theorem wMsg_ob (o : Opr) (ho : OkOp o) (hk : opErr (bareO o) = 0) {l : Hl} {K : CV → Hl → Prop} (hK : ∀ w l', Ob 1 enc8 l l' w (opText o) false → K (.tu [w, .int .i64 0]) l') :
    CallP Tryz.prog GS 108 [.ag (encOp o)] l (c := ⟨K⟩) := by
  apply call_intro c108_eq r108_eq
  unfold c108 r108
  have hr : roomMax = 140737488355328 := rfl
  have hna := numB_len o.author.toNat
  have hns := numB_len o.stamp.toNat
  have hpl := listB_len ho.ids
  have hob : OkOp (bareO o) := ⟨ho.ids, ho.len, ho.val, ho.key⟩
  have hck := wOpCheck_ok (bareO o) hob
  rw [hk] at hck
  have hl4 : o.preds.l.length ≤ 4 := opErr_len (o := bareO o) hk
  have hris : ris o.preds.l = true := by
    unfold opErr at hk
    have e1 : (bareO o).preds = o.preds := rfl
    rw [e1, if_neg (by omega)] at hk
    cases h3 : ris o.preds.l with
    | true => rfl
    | false => rw [h3] at hk; cases hk
  have hsw : (BitVec.setWidth 64 o.author).toNat = o.author.toNat := by rw [BitVec.toNat_setWidth]; exact Nat.mod_eq_of_lt (by have := o.author.isLt; omega)
  have hclb := closed_op (bareO o)
  have hlt : l.length < (l ++ [CB.cells 11 (encOp (bareO o))]).length := by simp
  have hat : (l ++ [CB.cells 11 (encOp (bareO o))])[l.length]? = some (.cells 11 (encOp (bareO o))) := by simp
  simp [encOp]
  refine pure_call hck (show closedL [CV.ag (encOp (bareO o))] = true by simp [closedL, CV.closed, hclb]) ?_
  simp
  refine wIDs_ob o.preds ho.ids (by omega) hris fun w1 l1 h1 => ?_
  have hp1 : l1[l.length]? = some (.cells 11 (encOp (bareO o))) := by rw [h1.same _ hlt]; exact hat
  have hlt1 : l.length < l1.length := by have := h1.le; simp at this; omega
  have hp1' := hp1
  simp [encOp, bareO] at hp1'
  have hq1 : (l1 ++ [CB.cells 1 [CV.int .u8 111]])[l.length]? = some (.cells 11 (encOp (bareO o))) := by rw [List.getElem?_append_left hlt1]; exact hp1
  have hltq : l.length < (l1 ++ [CB.cells 1 [CV.int .u8 111]]).length := by simp; omega
  have hq1' := hq1
  simp [encOp, bareO] at hq1'
  simp [hq1']
  have hqL : (l1 ++ [CB.cells 1 [CV.int .u8 111], CB.cells 1 [CV.int .u8 (u o.act.kind)]])[l.length]? = some (.cells 11 (encOp (bareO o))) := by rw [List.getElem?_append_left hlt1]; exact hp1
  have hq111 : (l1 ++ [CB.cells 1 [CV.int .u8 111], CB.cells 1 [CV.int .u8 (u o.act.kind)]])[l1.length]? = some (.cells 1 [.int .u8 111]) := by simp
  have hqk : (l1 ++ [CB.cells 1 [CV.int .u8 111], CB.cells 1 [CV.int .u8 (u o.act.kind)]])[l1.length + 1]? = some (.cells 1 [.int .u8 (u o.act.kind)]) := by simp
  have hLl : (l1 ++ [CB.cells 1 [CV.int .u8 111], CB.cells 1 [CV.int .u8 (u o.act.kind)]]).length = l1.length + 2 := by simp
  refine wNumber_ob _ fun w2 l2 h2 => ?_
  rw [hsw] at h2
  have hle2 := h2.le
  rw [hLl] at hle2
  have hp2 : l2[l.length]? = some (.cells 11 (encOp (bareO o))) := by rw [h2.same _ (by rw [hLl]; omega)]; exact hqL
  have h2111 : l2[l1.length]? = some (.cells 1 [.int .u8 111]) := by rw [h2.same _ (by rw [hLl]; omega)]; exact hq111
  have h2k : l2[l1.length + 1]? = some (.cells 1 [.int .u8 (u o.act.kind)]) := by rw [h2.same _ (by rw [hLl]; omega)]; exact hqk
  have hp2' := hp2
  simp [encOp, bareO] at hp2'
  simp [hp2', h2111, h2k]
  refine wNumber_ob _ fun w3 l3 h3 => ?_
  have hle3 := h3.le
  have hp3 : l3[l.length]? = some (.cells 11 (encOp (bareO o))) := by rw [h3.same _ (by omega)]; exact hp2
  have h3111 : l3[l1.length]? = some (.cells 1 [.int .u8 111]) := by rw [h3.same _ (by omega)]; exact h2111
  have h3k : l3[l1.length + 1]? = some (.cells 1 [.int .u8 (u o.act.kind)]) := by rw [h3.same _ (by omega)]; exact h2k
  have hp3' := hp3
  simp [encOp, bareO] at hp3'
  simp [hp3', h3111, h3k, h1.cells, h2.cells, h3.cells, splice]
  obtain ⟨L, hL⟩ : ∃ L, L = l3 ++ [CB.cells 5 [.sl 1 l1.length 0 1 1 1, w2, w1, w3, .sl 1 (l1.length + 1) 0 1 1 1]] := ⟨_, rfl⟩
  have hLle : l3.length ≤ L.length := by rw [hL]; simp
  have hLs : ∀ b, b < l3.length → L[b]? = l3[b]? := fun b hb => by rw [hL, List.getElem?_append_left hb]
  have hLb : L[l3.length]? = some (.cells 5 [.sl 1 l1.length 0 1 1 1, w2, w1, w3, .sl 1 (l1.length + 1) 0 1 1 1]) := by rw [hL]; simp
  rw [← hL]
  have P0 : Part L (.sl 1 l1.length 0 1 1 1) [111#8] := part_one (by rw [hLs _ (by omega)]; exact h3111)
  have P4 : Part L (.sl 1 (l1.length + 1) 0 1 1 1) [o.act.kind] := part_one (by rw [hLs _ (by omega)]; exact h3k)
  have P1 : Part L w2 (numB o.author.toNat) := ((ob_part h2).frame hle3 h3.same).frame hLle hLs
  have P2 : Part L w1 (listB o.preds.l) := ((((ob_part h1).frame (l1 := l1 ++ [CB.cells 1 [CV.int .u8 111], CB.cells 1 [CV.int .u8 (u o.act.kind)]]) (by rw [hLl]; omega) (fun b hb => List.getElem?_append_left hb)).frame (by rw [hLl]; exact hle2) h2.same).frame hle3 h3.same).frame hLle hLs
  have P3 : Part L w3 (numB o.stamp.toNat) := (ob_part h3).frame hLle hLs
  have hpL : L[l.length]? = some (.cells 11 (encOp (bareO o))) := by rw [hLs _ (by omega)]; exact hp3
  obtain ⟨M, hM⟩ : ∃ M, M = flB [[111#8], numB o.author.toNat, listB o.preds.l, numB o.stamp.toNat, [o.act.kind]] := ⟨_, rfl⟩
  have hMe : M = [111#8] ++ numB o.author.toNat ++ listB o.preds.l ++ numB o.stamp.toNat ++ [o.act.kind] := by rw [hM]; simp [flB]
  have hMl : M.length ≤ 40000 := by rw [hMe]; simp only [List.length_append, List.length_cons, List.length_nil]; omega
  have hM0 : M.length ≠ 0 := by rw [hMe]; simp
  refine concat_ob (bs := [[111#8], numB o.author.toNat, listB o.preds.l, numB o.stamp.toNat, [o.act.kind]]) hLb rfl rfl ?_ (by rw [← hM]; omega) (by omega) fun w4 l4 h4 => ?_
  · intro k w s hw hs
    rcases k with _ | _ | _ | _ | _ | k
    · obtain rfl := Option.some.inj hw; obtain rfl := Option.some.inj hs; exact P0
    · obtain rfl := Option.some.inj hw; obtain rfl := Option.some.inj hs; exact P1
    · obtain rfl := Option.some.inj hw; obtain rfl := Option.some.inj hs; exact P2
    · obtain rfl := Option.some.inj hw; obtain rfl := Option.some.inj hs; exact P3
    · obtain rfl := Option.some.inj hw; obtain rfl := Option.some.inj hs; exact P4
    · cases hw
  rw [← hM, decide_eq_false hM0] at h4
  have hLl2 : l.length ≤ L.length := by omega
  have h4' : Ob 1 enc8 l l4 w4 M false := h4.base hLl2 fun b hb => by
    have hbl : b < l1.length := by omega
    rw [hLs b (by omega), h3.same b (by omega), h2.same b (by rw [hLl]; omega), List.getElem?_append_left hbl, h1.same b (by simp; omega), List.getElem?_append_left hb]
  have hp4 : l4[l.length]? = some (.cells 11 (encOp (bareO o))) := by rw [h4.same _ (by omega)]; exact hpL
  have hlt4 : l.length < l4.length := get_lt hp4
  have hp4' := hp4
  simp [encOp, bareO] at hp4'
  have hT : opText o = M ++ (if o.act.kind = 1#8 then [] else textB (tB o.act.key)) ++ (if o.act.kind = 4#8 then valBytes o.act.val else []) := by rw [hMe]; rfl
  have htl := textB_len (tB o.act.key)
  rw [tB_len] at htl
  have hkey := ho.key
  have hvl := valBytes_len o.act.val
  have hvt := ho.val.2.2
  have hc : csbC (.str o.act.key) = some (.rsl 1 ((tB o.act.key).map enc8)) := by
    show some (CV.rsl 1 (o.act.key.map fun b => [byteC b])) = _
    rw [tB_rsl]
  by_cases c1 : o.act.kind = 1#8
  · have e1 : (u o.act.kind : Int) = 1 := (u_1 o.act.kind).2 c1
    have c4 : ¬ o.act.kind = 4#8 := by rw [c1]; decide
    rw [if_pos c1, if_neg c4, List.append_nil, List.append_nil] at hT
    simp [hp4', e1]
    exact hK _ _ (by rw [hT]; exact h4')
  · have e1 : ¬ (u o.act.kind : Int) = 1 := fun h => c1 ((u_1 o.act.kind).1 h)
    rw [if_neg c1] at hT
    simp [hp4', e1, hc]
    refine wBytes_ob (some (tB o.act.key)) (by simpa [tB_len] using hkey) (by simp [contentsL]) (by simp) (fun l' _ _ => by simp [contentsL]) fun w8 l8 h8 => ?_
    obtain ⟨w9, l9, a9, b9, _⟩ := (h4'.frame h8.le h8.same).app (by_ := 1) (x := w8) (xs := textB (tB o.act.key)) h8.contents (by simp [enc8]) (by omega) (by omega) (by rw [hr]; omega)
    have b9' := (h4.frame h8.le h8.same).app (by_ := 1) (x := w8) (xs := textB (tB o.act.key)) h8.contents (by simp [enc8]) (by omega) (by omega) (by rw [hr]; omega)
    obtain ⟨w9', l9', a9', c9, _⟩ := b9'
    rw [a9] at a9'
    obtain ⟨rfl, rfl⟩ := Prod.mk.inj (Option.some.inj a9')
    have hp9 : l9[l.length]? = some (.cells 11 (encOp (bareO o))) := by rw [c9.same _ (by omega)]; exact hpL
    have hp9' := hp9
    simp [encOp, bareO] at hp9'
    simp [a9]
    refine AppK.keep ?_
    simp only [Bool.false_and] at b9
    by_cases c4 : o.act.kind = 4#8
    · have e4 : (u o.act.kind : Int) = 4 := (u_4 o.act.kind).2 c4
      rw [if_pos c4] at hT
      have hact : actB o.act = true := by
        cases h : actB o.act with
        | true => rfl
        | false =>
          unfold opErr at hk
          have e2 : (bareO o).preds = o.preds := rfl
          have e3 : (bareO o).act = o.act := rfl
          rw [e2, if_neg (by omega), hris, if_pos rfl] at hk
          unfold goodB at hk
          rw [e3, h] at hk
          simp at hk
      rw [act4 c4, Bool.and_eq_true] at hact
      simp [hp9', e4]
      refine wValBytes_ob o.act.val ho.val hact.2 fun w10 l10 h10 => ?_
      obtain ⟨w11, l11, a11, b11, _⟩ := (b9.frame h10.le h10.same).app (by_ := 1) (x := w10) (xs := valBytes o.act.val) h10.contents (by simp [enc8]) (by omega) (by omega) (by rw [hr]; simp only [List.length_append]; omega)
      simp [a11]
      refine AppK.keep ?_
      simp
      exact hK _ _ (by rw [hT]; exact b11)
    · have e4 : ¬ (u o.act.kind : Int) = 4 := fun h => c4 ((u_4 o.act.kind).1 h)
      rw [if_neg c4, List.append_nil] at hT
      simp [hp9', e4]
      exact hK _ _ (by rw [hT]; exact b9)
end Op
end Go.CM

/-
  op.Encode and op.ID: walked.
-/
namespace Go.CM
open Go Go.Proofs
set_option linter.unusedVariables false
set_option linter.unusedSimpArgs false
set_option maxRecDepth 100000
namespace Op
open Sha
theorem bare_err {o : Opr} (h : opErr o = 0) : opErr (bareO o) = 0 := by
  unfold opErr at h ⊢
  have e1 : (bareO o).preds = o.preds := rfl
  rw [e1]
  have hg : goodB o = true → goodB (bareO o) = true := by
    unfold goodB bareO
    simp only [Bool.and_eq_true]
    rintro ⟨a, b, c, d, e⟩
    exact ⟨a, b, c, by decide, by decide⟩
  split at h
  · cases h
  · rename_i h1
    rw [if_neg h1]
    split at h
    · rename_i h2
      rw [if_pos h2]
      split at h
      · rename_i h3
        rw [if_pos (hg h3)]
      · cases h
    · cases h
theorem err_act {o : Opr} (h : opErr o = 0) : actB o.act = true := by
  unfold opErr at h
  split at h
  · cases h
  · split at h
    · split at h
      · rename_i h3
        unfold goodB at h3
        simp only [Bool.and_eq_true] at h3
        exact h3.2.2.1
      · cases h
    · cases h
theorem keyB_len {s : List UInt8} (h : keyB s = true) : s.length ≤ 20 := by
  unfold keyB at h
  simp only [Bool.and_eq_true, decide_eq_true_eq] at h
  omega
theorem err_small {o : Opr} (ho : OkOp o) (h : opErr o = 0) : (opBytes o).length ≤ 1000 := by
  have h1 := numB_len o.author.toNat
  have h2 := numB_len o.stamp.toNat
  have h3 := listB_len ho.ids
  have h4 := textB_len (tB o.act.key)
  rw [tB_len] at h4
  have h6 := valBytes_len o.act.val
  have hp := opErr_len h
  have he := numB_len o.e.toNat
  have hs := numB_len o.s.toNat
  have ha := err_act h
  have g1 : (if o.act.kind = 1#8 then [] else textB (tB o.act.key)).length ≤ 100 := by
    split
    · simp
    · rename_i c1
      have : o.act.key.length ≤ 20 := by
        by_cases c2 : o.act.kind = 2#8
        · rw [act2 c2, Bool.and_eq_true] at ha; exact keyB_len ha.1
        · by_cases c3 : o.act.kind = 3#8
          · rw [act3 c3, Bool.and_eq_true] at ha; exact keyB_len ha.1
          · by_cases c4 : o.act.kind = 4#8
            · rw [act4 c4, Bool.and_eq_true] at ha; exact keyB_len ha.1
            · rw [act5 c1 c2 c3 c4] at ha; cases ha
      omega
  have g2 : (if o.act.kind = 4#8 then valBytes o.act.val else []).length ≤ 100 := by
    split
    · rename_i c4
      rw [act4 c4, Bool.and_eq_true] at ha
      have hv := ha.2
      have : o.act.val.text.length ≤ 30 := by
        by_cases k1 : o.act.val.kind = 1#8
        · rw [valB1 k1] at hv
          simp only [Bool.and_eq_true, decide_eq_true_eq] at hv
          rw [hv.2]; simp
        · by_cases k2 : o.act.val.kind = 2#8
          · rw [valB2 k2] at hv
            simp only [Bool.and_eq_true, decide_eq_true_eq] at hv
            rw [hv.2.2]; simp
          · by_cases k3 : o.act.val.kind = 3#8
            · by_cases hl : o.act.val.text.length ≤ 30
              · exact hl
              · rw [valB3 k3] at hv
                unfold textV at hv
                rw [if_neg hl] at hv
                simp only [Bool.and_eq_true, decide_eq_true_eq, zeroVal] at hv
                have := hv.1
                rw [k3] at this
                exact absurd this (by decide)
            · rw [valB4 k1 k2 k3] at hv; cases hv
      omega
    · simp
  unfold opBytes opText opHead
  simp only [List.length_append, List.length_cons, List.length_nil]
  omega
theorem wEncode_ob (o : Opr) (ho : OkOp o) (hk : opErr o = 0) {l : Hl} {K : CV → Hl → Prop} (hK : ∀ w l', Ob 1 enc8 l l' w (opBytes o) false → K (.tu [w, .int .i64 0]) l') :
    CallP Tryz.prog GS 72 [.ag (encOp o)] l (c := ⟨K⟩) := by
  apply call_intro c72_eq r72_eq
  unfold c72 r72
  have hck := wOpCheck_ok o ho
  rw [hk] at hck
  have hcl := closed_op o
  have hsm := err_small ho hk
  have hse : (BitVec.setWidth 64 o.e).toNat = o.e.toNat := by rw [BitVec.toNat_setWidth]; exact Nat.mod_eq_of_lt (by have := o.e.isLt; omega)
  have hss : (BitVec.setWidth 64 o.s).toNat = o.s.toNat := by rw [BitVec.toNat_setWidth]; exact Nat.mod_eq_of_lt (by have := o.s.isLt; omega)
  have hlt : l.length < (l ++ [CB.cells 11 (encOp o)]).length := by simp
  have hat : (l ++ [CB.cells 11 (encOp o)])[l.length]? = some (.cells 11 (encOp o)) := by simp
  simp [encOp]
  refine pure_call hck (show closedL [CV.ag (encOp o)] = true by simp [closedL, CV.closed, hcl]) ?_
  simp
  refine wMsg_ob o ho (bare_err hk) fun w1 l1 h1 => ?_
  have hp1 : l1[l.length]? = some (.cells 11 (encOp o)) := by rw [h1.same _ hlt]; exact hat
  have hlt1 : l.length < l1.length := get_lt hp1
  have hp1' := hp1
  simp [encOp] at hp1'
  simp [hp1']
  refine wNumber_ob _ fun w2 l2 h2 => ?_
  rw [hse] at h2
  have hp2 : l2[l.length]? = some (.cells 11 (encOp o)) := by rw [h2.same _ hlt1]; exact hp1
  have hp2' := hp2
  simp [encOp] at hp2'
  simp [hp2']
  refine wNumber_ob _ fun w3 l3 h3 => ?_
  rw [hss] at h3
  simp [h1.cells, h2.cells, h3.cells, splice]
  obtain ⟨L, hL⟩ : ∃ L, L = l3 ++ [CB.cells 3 [w1, w2, w3]] := ⟨_, rfl⟩
  have hLle : l3.length ≤ L.length := by rw [hL]; simp
  have hLs : ∀ b, b < l3.length → L[b]? = l3[b]? := fun b hb => by rw [hL, List.getElem?_append_left hb]
  have hLb : L[l3.length]? = some (.cells 3 [w1, w2, w3]) := by rw [hL]; simp
  rw [← hL]
  have P0 : Part L w1 (opText o) := (((ob_part h1).frame h2.le h2.same).frame h3.le h3.same).frame hLle hLs
  have P1 : Part L w2 (numB o.e.toNat) := ((ob_part h2).frame h3.le h3.same).frame hLle hLs
  have P2 : Part L w3 (numB o.s.toNat) := (ob_part h3).frame hLle hLs
  have hM : flB [opText o, numB o.e.toNat, numB o.s.toNat] = opBytes o := by simp [flB, opBytes]
  have hM0 : (opBytes o).length ≠ 0 := by unfold opBytes opText opHead; simp
  refine concat_ob (bs := [opText o, numB o.e.toNat, numB o.s.toNat]) hLb rfl rfl ?_ (by rw [hM]; omega) (by omega) fun w4 l4 h4 => ?_
  · intro k w s hw hs
    rcases k with _ | _ | _ | k
    · obtain rfl := Option.some.inj hw; obtain rfl := Option.some.inj hs; exact P0
    · obtain rfl := Option.some.inj hw; obtain rfl := Option.some.inj hs; exact P1
    · obtain rfl := Option.some.inj hw; obtain rfl := Option.some.inj hs; exact P2
    · cases hw
  rw [hM, decide_eq_false hM0] at h4
  simp
  refine hK _ _ (h4.base ?_ fun b hb => ?_)
  · have := h2.le; have := h3.le; omega
  · have := h2.le; have := h3.le
    rw [hLs b (by omega), h3.same b (by omega), h2.same b (by omega), h1.same b (by simp; omega), List.getElem?_append_left hb]
theorem wEncode_bad (o : Opr) (ho : OkOp o) (hk : ¬ opErr o = 0) : PureC Tryz.prog GS 72 [.ag (encOp o)] (.tu [.nilS, .int .i64 (opErr o)]) := by
  refine pure_of Tryz.checked.mixed GS_closed ?_
  apply call_intro c72_eq r72_eq
  unfold c72 r72
  have hck := wOpCheck_ok o ho
  have hcl := closed_op o
  obtain ⟨E, hE⟩ : ∃ E, E = encOp o := ⟨_, rfl⟩
  have hEl : E.length = 11 := by rw [hE]; rfl
  rw [← hE] at hck hcl ⊢
  simp [hEl, List.take_of_length_le]
  refine pure_call hck (by simp [closedL, CV.closed, hcl]) ?_
  simp [hk]
  exact rd_eq rfl rfl
theorem wID_ok (o : Opr) (ho : OkOp o) : PureC Tryz.prog GS 38 [.ag (encOp o)] (.tu [idC (idOf o), .int .i64 (opErr o)]) := by
  refine pure_of Tryz.checked.mixed GS_closed ?_
  apply call_intro c38_eq r38_eq
  unfold c38 r38 idOf
  have hcl := closed_op o
  have hz : (rep 32 (.int .u8 0) : List CV) = (List.replicate 32 0#8).map e8 := by simp [rep]
  obtain ⟨E, hE⟩ : ∃ E, E = encOp o := ⟨_, rfl⟩
  have hEl : E.length = 11 := by rw [hE]; rfl
  by_cases h0 : opErr o = 0
  · have hsm := err_small ho h0
    have hsl : (sha (opBytes o)).length = 32 := sha_length _
    rw [← hE]
    simp [hEl, List.take_of_length_le]
    rw [hE]
    refine wEncode_ob o ho h0 fun w1 l1 h1 => ?_
    rw [← hE] at h1
    have hat : l1[1]? = some (.cells 32 (rep 32 (.int .u8 0))) := by rw [h1.same 1 (by simp)]; rfl
    simp
    refine pure_callB (sum_ok (some (opBytes o)) (by simp; omega)) (.cons (h1.rdH (fun _ => rfl) (some (opBytes o)) rfl rfl) .nil) (by simp [CV.flat, flatL, idC, flatL_map e8 (fun _ => rfl)]) ?_
    have hspl : splice (rep 32 (.int .u8 0)) 0 ((sha (opBytes o)).map e8) = (sha (opBytes o)).map e8 := splice_full (by rw [List.length_map, hsl]; rfl)
    have hset : (l1.set 1 (CB.cells 32 ((sha (opBytes o)).map e8)))[1]? = some (.cells 32 ((sha (opBytes o)).map e8)) := List.getElem?_set_self (get_lt hat)
    simp [hat, idC, hsl, hspl, hset, List.take_of_length_le]
    exact rd_eq (by rw [if_pos h0, h0]) (by simp [CV.closed, closedL, closedL_map e8 (fun _ => rfl)])
  · have hen := wEncode_bad o ho h0
    rw [← hE] at hen hcl ⊢
    simp [hEl, List.take_of_length_le]
    refine pure_call hen (by simp [closedL, CV.closed, hcl]) ?_
    simp [h0, idC, hz]
    exact rd_eq rfl (by simp only [CV.closed, closedL, closedL_map e8 (fun _ => rfl), Bool.and_self])
end Op
end Go.CM

/-
  Operations: what comes in, taken apart by its types.
-/
namespace Go.CM
open Go Go.Proofs Go.RowKit
set_option linter.unusedVariables false
set_option linter.unusedSimpArgs false
set_option maxRecDepth 100000
namespace Op
open Sha
theorem ty_str {P : Program} {t : TypeId} {ts : List TypeId} {cs : List CV} (hu : P.underlying t = some .string) (h : Ty P (t :: ts) cs) : ∃ s cs', cs = .str s :: cs' ∧ Ty P ts cs' := by
  cases h
  case str s cs' hs hu' h => exact ⟨_, _, rfl, h⟩
  all_goals (exfalso; simp_all; done)
theorem ty_u8 {ts : List TypeId} {cs : List CV} (h : Ty Tryz.prog (5 :: ts) cs) : ∃ (x : B) (cs' : List CV), cs = e8 x :: cs' ∧ Ty Tryz.prog ts cs' := by
  obtain ⟨k, cs1, rfl, h1, h2, h3⟩ := ty_int (k := .u8) (by kernel_rfl) h
  have h5 : (0 : Int) ≤ k := h1
  have h6 : k ≤ 255 := h2
  refine ⟨BitVec.ofNat 8 k.toNat, cs1, ?_, h3⟩
  have : ((BitVec.ofNat 8 k.toNat).toNat : Int) = k := by
    rw [BitVec.toNat_ofNat, Nat.mod_eq_of_lt (by omega)]; omega
  simp [e8, u]; omega
theorem ty_idm {ts : List TypeId} {cs : List CV} (h : Ty Tryz.prog (71 :: ts) cs) : ∃ (x : List B) (cs' : List CV), cs = x.map e8 ++ cs' ∧ x.length = 32 ∧ Ty Tryz.prog ts cs' := by
  have h1 := ty_array (e := 5) (n := 32) (by kernel_rfl) h
  exact ty_bytes (by kernel_rfl) 32 h1
theorem ty_ids {ts : List TypeId} {cs : List CV} (h : Ty Tryz.prog (26 :: ts) cs) : ∃ (s : Ids) (cs' : List CV), cs = encIds s :: cs' ∧ okIds s ∧ Ty Tryz.prog ts cs' := by
  obtain ⟨s, cs', rfl, _, h1, h2⟩ := ty_sl (e := 71) (z := 32) (enc := eId) (Q := fun x => x.length = 32) (by kernel_rfl) (by kernel_rfl) (fun r hr => by
    obtain ⟨x, cs', rfl, hx, h3⟩ := ty_idm hr
    rw [ty_nil h3, List.append_nil]
    exact ⟨x, rfl, hx⟩) h
  exact ⟨s, cs', rfl, h1, h2⟩
theorem ty_u32 {ts : List TypeId} {cs : List CV} (h : Ty Tryz.prog (25 :: ts) cs) : ∃ (x : D) (cs' : List CV), cs = e32 x :: cs' ∧ Ty Tryz.prog ts cs' := by
  obtain ⟨k, cs1, rfl, h1, h2, h3⟩ := ty_int (k := .u32) (by kernel_rfl) h
  have h5 : (0 : Int) ≤ k := h1
  have h6 : k ≤ 4294967295 := h2
  refine ⟨BitVec.ofNat 32 k.toNat, cs1, ?_, h3⟩
  have : ((BitVec.ofNat 32 k.toNat).toNat : Int) = k := by
    rw [BitVec.toNat_ofNat, Nat.mod_eq_of_lt (by omega)]; omega
  simp [e32, u]; omega
structure TyOp (o : Opr) : Prop where
  ids : okIds o.preds
  n1 : -9223372036854775808 ≤ o.act.val.num
  n2 : o.act.val.num < 9223372036854775808
theorem ty_val2 {ts : List TypeId} {cs : List CV} (h : Ty Tryz.prog (29 :: ts) cs) : ∃ (v : Val) (cs' : List CV), cs = [e8 v.kind, .int .i64 v.num, e64 v.bits, .str v.text] ++ cs' ∧ (-9223372036854775808 ≤ v.num ∧ v.num < 9223372036854775808) ∧ Ty Tryz.prog ts cs' := by
  have h1 := ty_struct (fs := [5, 2, 27, 9]) (by kernel_rfl) h
  obtain ⟨k, _, rfl, h2⟩ := ty_u8 h1
  obtain ⟨n, _, rfl, hn1, hn2, h3⟩ := ty_int (k := .i64) (by kernel_rfl) h2
  obtain ⟨b, _, rfl, h4⟩ := ty_u64 h3
  obtain ⟨s, _, rfl, h5⟩ := ty_str (by kernel_rfl) h4
  have h6 : n ≤ 9223372036854775807 := hn2
  exact ⟨⟨k, n, b, s⟩, _, rfl, ⟨hn1, by show n < 9223372036854775808; omega⟩, h5⟩
theorem ty_act2 {ts : List TypeId} {cs : List CV} (h : Ty Tryz.prog (31 :: ts) cs) : ∃ (a : Act) (cs' : List CV), cs = [e8 a.kind, .str a.key, e8 a.val.kind, .int .i64 a.val.num, e64 a.val.bits, .str a.val.text] ++ cs' ∧ (-9223372036854775808 ≤ a.val.num ∧ a.val.num < 9223372036854775808) ∧ Ty Tryz.prog ts cs' := by
  have h1 := ty_struct (fs := [5, 9, 29]) (by kernel_rfl) h
  obtain ⟨k, _, rfl, h2⟩ := ty_u8 h1
  obtain ⟨s, _, rfl, h3⟩ := ty_str (by kernel_rfl) h2
  obtain ⟨v, _, rfl, hv, h4⟩ := ty_val2 h3
  exact ⟨⟨k, s, v⟩, _, rfl, hv, h4⟩
theorem ty_op {ts : List TypeId} {cs : List CV} (h : Ty Tryz.prog (35 :: ts) cs) : ∃ (o : Opr) (cs' : List CV), cs = encOp o ++ cs' ∧ TyOp o ∧ Ty Tryz.prog ts cs' := by
  have h1 := ty_struct (fs := [25, 26, 27, 31, 33]) (by kernel_rfl) h
  obtain ⟨a, _, rfl, h2⟩ := ty_u32 h1
  obtain ⟨p, _, rfl, hp, h3⟩ := ty_ids h2
  obtain ⟨n, _, rfl, h4⟩ := ty_u64 h3
  obtain ⟨c, _, rfl, hc, h5⟩ := ty_act2 h4
  have h6 := ty_struct (fs := [25, 25]) (by kernel_rfl) h5
  obtain ⟨x, _, rfl, h7⟩ := ty_u32 h6
  obtain ⟨y, cs', rfl, h8⟩ := ty_u32 h7
  exact ⟨⟨a, p, n, c, x, y⟩, cs', by simp [encOp], ⟨hp, hc.1, hc.2⟩, h8⟩
theorem tyA_op {ts : List TypeId} {cs : List CV} (h : TyA Tryz.prog (35 :: ts) cs) : ∃ (o : Opr) (cs' : List CV), cs = .ag (encOp o) :: cs' ∧ TyOp o ∧ TyA Tryz.prog ts cs' := by
  obtain ⟨c, cs', rfl, h1, h2⟩ := tyA_cons h
  obtain ⟨cs, rfl, h3⟩ := tyV_agg (by kernel_rfl) h1
  obtain ⟨o, _, rfl, ho, h4⟩ := ty_op h3
  rw [ty_nil h4, List.append_nil]
  exact ⟨o, cs', rfl, ho, h2⟩
theorem tyA_ids {ts : List TypeId} {cs : List CV} (h : TyA Tryz.prog (26 :: ts) cs) : ∃ (s : Ids) (cs' : List CV), cs = encIds s :: cs' ∧ okIds s ∧ TyA Tryz.prog ts cs' := by
  obtain ⟨c, cs', rfl, h1, h2⟩ := tyA_cons h
  obtain ⟨s, cs1, hs, ho, h3⟩ := ty_ids (tyV_one (by kernel_rfl) h1)
  cases hs
  exact ⟨s, cs', rfl, ho, h2⟩
end Op
end Go.CM

/-
  Powers in the group, as a contract for the runner.
-/
namespace Go.CM
open Go Go.Proofs
set_option linter.unusedVariables false
set_option linter.unusedSimpArgs false
set_option maxRecDepth 100000
open Sha Op
def pmk (a n : Nat) : Nat → Nat
  | 0 => 1
  | k + 1 => match Nat.beq (n / 2 ^ (63 - k) % 2) 1 with
    | true => ((pmk a n k) ^ 2 % 1000000007) * a % 1000000007
    | false => (pmk a n k) ^ 2 % 1000000007
theorem pmk_eq (a n : Nat) (hn : n < 2 ^ 64) : ∀ k, k ≤ 64 → pmk a n k = powM a (n / 2 ^ (64 - k))
  | 0, _ => by
    have : n / 2 ^ (64 - 0) = 0 := Nat.div_eq_of_lt hn
    rw [this]; rfl
  | k + 1, hk => by
    have ih := pmk_eq a n hn k (by omega)
    have hb := half_bit n k (by omega)
    have e : 64 - (k + 1) = 63 - k := by omega
    rw [e]
    unfold pmk
    rw [ih, Nat.pow_two, powM_two]
    split
    · rename_i h
      have h1 := Nat.eq_of_beq_eq_true h
      rw [powM_odd, hb, h1]
    · rename_i h
      have h1 : n / 2 ^ (63 - k) % 2 ≠ 1 := fun hh => by rw [hh] at h; cases h
      rw [hb]
      congr 1; omega
def powF : List CV → Option CV
  | [.int .u32 x, .int .u64 n] => match decide (0 ≤ x) && (decide (x < 4294967296) && (decide (0 ≤ n) && decide (n < 18446744073709551616))) with
    | true => some (.int .u32 ((pmk x.toNat n.toNat 64 : Nat) : Int))
    | false => none
  | _ => none
abbrev powO : FuncId × Bool × (List CV → Option CV) := (183, false, powF)
theorem powO_ok : OrcP Tryz.prog GS powO := by
  intro args r h
  refine ⟨?_, fun h => by cases h⟩
  simp only [powF] at h
  split at h
  · rename_i x n
    split at h
    · rename_i hc
      cases h
      simp only [Bool.and_eq_true, decide_eq_true_eq] at hc
      obtain ⟨h1, h2, h3, h4⟩ := hc
      have hx : (CV.int .u32 x) = e32 (BitVec.ofNat 32 x.toNat) := by
        have : ((BitVec.ofNat 32 x.toNat).toNat : Int) = x := by
          rw [BitVec.toNat_ofNat, Nat.mod_eq_of_lt (by omega)]; omega
        simp [e32, u]; omega
      have hn : (CV.int .u64 n) = e64 (BitVec.ofNat 64 n.toNat) := by
        have : ((BitVec.ofNat 64 n.toNat).toNat : Int) = n := by
          rw [BitVec.toNat_ofNat, Nat.mod_eq_of_lt (by omega)]; omega
        simp [e64, u]; omega
      have hp := pow_ok (BitVec.ofNat 32 x.toNat) (BitVec.ofNat 64 n.toNat)
      have hr : e32 (powW (BitVec.ofNat 32 x.toNat) (BitVec.ofNat 64 n.toNat).toNat) = .int .u32 ((pmk x.toNat n.toNat 64 : Nat) : Int) := by
        have e1 : (BitVec.ofNat 32 x.toNat).toNat = x.toNat := by rw [BitVec.toNat_ofNat, Nat.mod_eq_of_lt (by omega)]
        have e2 : (BitVec.ofNat 64 n.toNat).toNat = n.toNat := by rw [BitVec.toNat_ofNat, Nat.mod_eq_of_lt (by omega)]
        show CV.int .u32 (u _) = _
        unfold u
        rw [powW_nat, e1, e2, pmk_eq _ _ (by omega) 64 (Nat.le_refl _)]
        simp
      rw [hx, hn, ← hr]
      exact hp
    · cases h
  · cases h
def lsOf : List (List CV) → Option (List Bs)
  | [] => some []
  | [c] :: r => match bytOf c with
    | some s => match Nat.ble s.l.length 10000 with
      | true => match lsOf r with | some l => some (s :: l) | none => none
      | false => none
    | none => none
  | _ => none
theorem lsOf_ok : ∀ {es : List (List CV)} {l : List Bs}, lsOf es = some l → (es = l.map fun s => [encBs s]) ∧ ∀ s ∈ l, s.l.length ≤ 10000
  | [], l, h => by cases h; exact ⟨rfl, fun s hs => by cases hs⟩
  | e :: r, l, h => by
    unfold lsOf at h
    split at h
    · rename_i e1; cases e1
    · rename_i c r' e1
      cases e1
      split at h
      · rename_i s hs
        split at h
        · rename_i hb
          split at h
          · rename_i l' hl
            cases h
            obtain ⟨h1, h2⟩ := lsOf_ok hl
            refine ⟨by rw [bytOf_ok hs, h1]; rfl, fun x hx => ?_⟩
            rcases List.mem_cons.1 hx with h3 | h3
            · rw [h3]; exact Nat.le_of_ble_eq_true hb
            · exact h2 x h3
          · cases h
        · cases h
      · cases h
    · cases h
def piecesF : List CV → Option CV
  | [.rsl 1 es] => match lsOf es with
    | some ls => match Nat.ble ls.length 20 with
      | true => some (.tu [idC (sha (bytesOf ls)), .int .i64 0])
      | false => none
    | none => none
  | _ => none
abbrev piecesO : FuncId × Bool × (List CV → Option CV) := (111, false, piecesF)
theorem piecesO_ok : OrcP Tryz.prog GS piecesO := by
  intro args r h
  refine ⟨?_, fun h => by cases h⟩
  simp only [piecesF] at h
  split at h
  · split at h
    · rename_i es ls hls
      split at h
      · rename_i hn
        cases h
        obtain ⟨h1, h2⟩ := lsOf_ok hls
        rw [h1]
        exact pieces_ok ls (Nat.le_of_ble_eq_true hn) h2
      · cases h
    · cases h
  · cases h
end Go.CM

/-
  Rows of one's own: one element is set, the rest is cleared and cut off; a copy; what a condition says is left out.
-/
namespace Go.CM
open Go Go.Proofs
set_option linter.unusedVariables false
set_option linter.unusedSimpArgs false
set_option maxRecDepth 100000
namespace Op
open Sha
section
variable {α : Type} {z : Nat} {enc : α → List CV}
theorem ow_cut {l : Hl} {v : CV} {j k : Nat} {ys : List α} {zr : List CV} (hzr : zr.length = z) (h : OwnS z l v j (ys.map enc)) (hk : k < ys.length) :
    ∃ v3 l3 r, sliceM (.sl z) v (some (.int .i64 (k : Int))) none none = some v3 ∧ clearL zr l v3 = some l3 ∧ sliceM (.sl z) v none (some (.int .i64 (k : Int))) none = some r ∧
      OwnS z l3 r j ((ys.take k).map enc) ∧ isNilS r = false ∧ l3.length = l.length ∧ ∀ b, b ≠ j → l3[b]? = l[b]? := by
  generalize he : ys.map enc = es at h
  cases h with
  | nil j => rw [List.map_eq_nil_iff] at he; subst he; simp at hk
  | sl j n cap sz cs es hb hl hn hz hc hcap hcs =>
    subst he
    have hn' : ys.length = n := by simpa using hn
    have hb1 : boundC (.int .i64 (k : Int)) n = some k := by
      show (if 0 ≤ (k : Int) ∧ (k : Int) ≤ (n : Int) then some (k : Int).toNat else none) = some k
      rw [if_pos ⟨by omega, by omega⟩]; simp
    have hb2 : boundC (.int .i64 (k : Int)) cap = some k := by
      show (if 0 ≤ (k : Int) ∧ (k : Int) ≤ (cap : Int) then some (k : Int).toNat else none) = some k
      rw [if_pos ⟨by omega, by omega⟩]; simp
    have b1 : boundsC n cap (some (.int .i64 (k : Int))) none none = some (k, n, cap) := by
      show (match boundC (.int .i64 (k : Int)) n with | none => none | some l => some (l, n, cap)) = _
      rw [hb1]
    have b2 : boundsC n cap none (some (.int .i64 (k : Int))) none = some (0, k, cap) := by
      show (match boundC (.int .i64 (k : Int)) cap with | none => none | some h => some (0, h, cap)) = _
      rw [hb2]
    have hck : ¬ cap = k := by omega
    have hc0 : ¬ cap = 0 := by omega
    have hjl : j < l.length := get_lt hb
    have hm1 : k * z ≤ n * z := Nat.mul_le_mul_right _ (by omega)
    have hm2 : n * z ≤ cap * z := Nat.mul_le_mul_right _ hc
    have hrl : (repeatC zr (n - k)).length = (n - k) * z := by rw [repeatC_len', hzr]
    have hm3 : k * z + (n - k) * z = n * z := by rw [← Nat.add_mul]; congr 1; omega
    refine ⟨.sl z j (k * z) (n - k) (cap - k) sz, l.set j (.cells sz (splice cs (k * z) (repeatC zr (n - k)))), .sl z j 0 k cap sz, ?_, ?_, ?_, ?_, rfl, by simp, fun b hbj => by rw [List.getElem?_set_ne (fun h => hbj h.symm)]⟩
    · rw [sliceM_sl, b1]; simp [hck]
    · unfold clearL
      simp only
      rw [if_neg (by omega)]
      simp [hb, hzr]
    · rw [sliceM_sl, b2]; simp [hc0]
    · refine .sl j k cap sz _ _ (List.getElem?_set_self hjl) (by rw [splice_length (by omega), hrl]; omega) (by simp; omega) (fun e he => ?_) (by omega) hcap ?_
      · obtain ⟨y, hy, rfl⟩ := List.mem_map.1 he
        exact hz _ (List.mem_map_of_mem (List.mem_of_mem_take hy))
      · unfold splice
        rw [List.append_assoc, List.take_append_of_le_length (by rw [List.length_take]; omega), List.take_take, Nat.min_self]
        have e1 : cs.take (k * z) = (cs.take (n * z)).take (k * z) := by rw [List.take_take, Nat.min_eq_left hm1]
        have e2 : ys.map enc = (ys.take k).map enc ++ (ys.drop k).map enc := by rw [← List.map_append, List.take_append_drop]
        have e3 : ((ys.take k).map enc).flatten.length = k * z := by
          rw [flatten_len (z := z) (fun e he => by obtain ⟨y, hy, rfl⟩ := List.mem_map.1 he; exact hz _ (List.mem_map_of_mem (List.mem_of_mem_take hy)))]
          rw [List.length_map, List.length_take, Nat.min_eq_left (by omega)]
        rw [e1, hcs, e2, List.flatten_append, List.take_append_of_le_length (by omega), List.take_of_length_le (by omega)]
theorem ow_part {ys : List α} (hz : ∀ y ∈ ys, (enc y).length = z) (k : Nat) (hk : k ≤ ys.length) {n : Nat} (hn : ys.length = n) {cs : List CV} (hcs : cs.take (n * z) = (ys.map enc).flatten) (hl : n * z ≤ cs.length) :
    cs.take (k * z) = ((ys.take k).map enc).flatten ∧ (cs.drop (k * z)).take (n * z - k * z) = ((ys.drop k).map enc).flatten := by
  have hm1 : k * z ≤ n * z := Nat.mul_le_mul_right _ (by omega)
  have e2 : ys.map enc = (ys.take k).map enc ++ (ys.drop k).map enc := by rw [← List.map_append, List.take_append_drop]
  have e3 : ((ys.take k).map enc).flatten.length = k * z := by
    rw [flatten_len (z := z) (fun e he => by obtain ⟨y, hy, rfl⟩ := List.mem_map.1 he; exact hz _ (List.mem_of_mem_take hy))]
    rw [List.length_map, List.length_take, Nat.min_eq_left (by omega)]
  have e1 : cs.take (k * z) = (cs.take (n * z)).take (k * z) := by rw [List.take_take, Nat.min_eq_left hm1]
  constructor
  · rw [e1, hcs, e2, List.flatten_append, List.take_append_of_le_length (by omega), List.take_of_length_le (by omega)]
  · rw [← List.drop_take, hcs, e2, List.flatten_append, List.drop_append_of_le_length (by omega), List.drop_of_length_le (by omega), List.nil_append]
theorem ow_set {l : Hl} {v : CV} {j k : Nat} {ys : List α} {x : α} {X : CV} (hX : X.cells = some (enc x)) (h : OwnS z l v j (ys.map enc)) (hz : ∀ y ∈ ys, (enc y).length = z) (hk : k < ys.length) (hx : (enc x).length = z) :
    ∃ p l', iaC (.sl z) v (.int .i64 (k : Int)) = some p ∧ storeL z l p (X) = some l' ∧ OwnS z l' v j ((ys.set k x).map enc) ∧ l'.length = l.length ∧ ∀ b, b ≠ j → l'[b]? = l[b]? := by
  generalize he : ys.map enc = es at h
  cases h with
  | nil j => rw [List.map_eq_nil_iff] at he; subst he; simp at hk
  | sl j n cap sz cs es hb hl hn hz2 hc hcap hcs =>
    subst he
    have hn' : ys.length = n := by simpa using hn
    have hjl : j < l.length := get_lt hb
    have hxl := hx
    have hm1 : (k + 1) * z ≤ n * z := Nat.mul_le_mul_right _ (by omega)
    have hm2 : n * z ≤ cap * z := Nat.mul_le_mul_right _ hc
    have hs : (k + 1) * z = k * z + z := by rw [Nat.succ_mul]
    obtain ⟨f1, _⟩ := ow_part hz k (by omega) hn' hcs (by omega)
    obtain ⟨_, f2⟩ := ow_part hz (k + 1) (by omega) hn' hcs (by omega)
    refine ⟨.ptr j (k * z) sz, l.set j (.cells sz (splice cs (k * z) (enc x))), ?_, ?_, ?_, by simp, fun b hbj => by rw [List.getElem?_set_ne (fun h => hbj h.symm)]⟩
    · simp [iaC]; omega
    · unfold storeL
      simp [hb, hX, hxl]
      omega
    · refine .sl j n cap sz _ _ (List.getElem?_set_self hjl) (by rw [splice_length (by omega), hxl]; omega) (by simp; omega) (fun e he => ?_) hc hcap ?_
      · obtain ⟨y, hy, rfl⟩ := List.mem_map.1 he
        rcases List.mem_or_eq_of_mem_set hy with h | h
        · exact hz _ h
        · rw [h]; exact hxl
      · have hset : ys.set k x = ys.take k ++ (x :: ys.drop (k + 1)) := by rw [List.set_eq_take_append_cons_drop, if_pos hk]
        rw [hset, List.map_append, List.map_cons, List.flatten_append, List.flatten_cons, ← f1, ← f2]
        unfold splice
        have t1 : (cs.take (k * z)).length = k * z := by rw [List.length_take]; omega
        have u1 : (cs.take (k * z)).take (n * z) = cs.take (k * z) := List.take_of_length_le (by rw [t1]; omega)
        have u2 : (enc x).take (n * z - k * z) = enc x := List.take_of_length_le (by rw [hxl]; omega)
        rw [List.append_assoc, hxl, ← hs, List.take_append, t1, u1, List.take_append, u2, hxl, show n * z - k * z - z = n * z - (k + 1) * z by omega]
end
end Op
end Go.CM

/-
  slices.Insert of one element, at the level of the world: the ways through the library's text (printed by program).
-/
namespace Go.CM
open Go Go.Proofs Go.Shelf Go.RowKit Go.Lib
set_option linter.unusedVariables false
set_option linter.unusedSimpArgs false
set_option maxRecDepth 100000
set_option maxHeartbeats 4000000
theorem ins_fin42 (base : Option Addr) (n c vc vb voff : Nat) (r : Value) (w w' : World) (hn : n ≤ c) (h62 : n ≤ 4611686018427387904) (hnil : base = none → n = 0 ∧ c = 0)
    (hrun : (Builtin.append_ #[22, 22] 22 #[.slice base n c, .slice (some ⟨vb, voff, none⟩) 1 vc]).run Tryz.prog w = .ok r w') :
    Calls Tryz.prog 42 #[.slice base n c, .int .i64 n, .slice (some ⟨vb, voff, none⟩) 1 vc] w fun e w2 => e = .returned r ∧ w2 = w' := by
  have u0 := Tryz.underlying22
  have mixed := Tryz.checked.mixed
  go_enter Tryz.func42, Tryz.ntmps42
  cases base with
  | none =>
    obtain ⟨h0, h1⟩ := hnil rfl
    subst h0 h1
    go_wp2_with (at_builtin; refine Lib.wpList_append_run _ rfl _ _ _ _ rfl _ _ rfl rfl _ _ hrun ?_)
    go_ret
    exact ⟨rfl, rfl⟩
  | some a =>
    obtain ⟨ab, ao, asp⟩ := a
    go_wp2_with (at_builtin; refine Lib.wpList_append_run _ rfl _ _ _ _ rfl _ _ rfl rfl _ _ hrun ?_)
    all_goals (go_ret; exact ⟨rfl, rfl⟩)
theorem ins_shift42 (b off n c i vb voff vc : Nat) (k1 k2 : Value) (w W1 W2 : World) (tA tB : TypeId) (kA kB : Nat) (hi : i < n) (hroom : n + 1 ≤ c) (h62 : n ≤ 4611686018427387904) (hvb : vb ≠ b)
    (hsa : w.shape? vb = some (tA, kA)) (hsb : w.shape? b = some (tB, kB)) (hkB : kB ≠ 0) (hfa : w.frozen? ⟨vb, voff, none⟩ = false) (hfe : w.frozen? ⟨vb, kA, none⟩ = false)
    (hcp1 : (Builtin.copy_ #[22, 22] 3 #[.slice (some ⟨b, off + (i + 1) * 33, none⟩) (n - i) (c - (i + 1)), .slice (some ⟨b, off + i * 33, none⟩) (n + 1 - i) (c - i)]).run Tryz.prog w.drew = .ok k1 W1)
    (hcp2 : (Builtin.copy_ #[22, 22] 3 #[.slice (some ⟨b, off + i * 33, none⟩) (n + 1 - i) (c - i), .slice (some ⟨vb, voff, none⟩) 1 vc]).run Tryz.prog W1 = .ok k2 W2) :
    Calls Tryz.prog 42 #[.slice (some ⟨b, off, none⟩) n c, .int .i64 i, .slice (some ⟨vb, voff, none⟩) 1 vc] w fun e w2 => e = .returned (.slice (some ⟨b, off, none⟩) (n + 1) c) ∧ w2 = W2 := by
  have u0 := Tryz.underlying22
  have z0 : ∀ w, (Go.sizeOf 77).run Tryz.prog w = .ok 33 w := fun w => run_sizeOf' (by kernel_rfl)
  have mixed := Tryz.checked.mixed
  have hov : ∀ lb cb, (callFunc 77 #[.slice (some ⟨vb, voff, none⟩) 1 vc, .slice (some ⟨b, off + (i + 1) * 33, none⟩) lb cb]).run Tryz.prog w = .ok (.value (.bool false)) w := fun lb cb => by
    rw [run_callFunc_extern Tryz.func77 (by kernel_rfl) (by kernel_rfl) (by kernel_rfl) (e := Extern.SlicesOverlaps.overlaps #[22, 22] #[4]) (by kernel_rfl),
      Lib.run_overlaps_apart w 22 4 77 u0 33 z0 ⟨vb, voff, none⟩ ⟨b, off + (i + 1) * 33, none⟩ 1 vc lb cb hvb tA tB kA kB hsa hsb hkB hfa hfe]
    rfl
  have hz2 : ¬ ((i : Int) = (n : Int)) := by omega
  have hw1 : IntKind.i64.wrap ((i : Int) + 1) = (i : Int) + 1 := by rw [IntKind.wrap_i64]; omega
  have hw2 : IntKind.i64.wrap ((n : Int) + 1) = (n : Int) + 1 := by rw [IntKind.wrap_i64]; omega
  have hb1 : (0 : Int) ≤ (i : Int) + 1 := by omega
  have hin : i ≤ n := by omega
  have htn : ((i : Int) + 1).toNat = i + 1 := by omega
  have hb2 : ¬ (c = i + 1) := by omega
  have hb3 : (i : Int) ≤ (n : Int) + 1 := by omega
  have hb4 : ¬ (c = i) := by omega
  have hb5 : ¬ ((c : Int) < (n : Int) + 1) := by omega
  go_enter Tryz.func42, Tryz.ntmps42
  go_wp2_with (simp only [hov])
  go_region_law_o (refine step_copy_runI rfl _ _ 22 22 rfl _ _ (by simp [Act.eval, Act.put]) (by simp [Act.eval, Act.put]) hcp1 ?_)
  go_wp2_with (at_builtin; refine wpList_copy_runI _ rfl _ _ 22 22 rfl _ _ rfl rfl hcp2 ?_)
  go_ret
  exact ⟨rfl, rfl⟩
theorem ins_grow42 (b off n c i vb voff vc N G : Nat) (k1 k2 : Value) (w W0 W1 W2 : World) (hi : i < n) (hnc : n ≤ c) (hroom : c < n + 1) (hG : n + 1 ≤ G) (h62 : n ≤ 4611686018427387904)
    (happ : (Builtin.append_ #[22, 3] 22 #[.slice (some ⟨b, off, none⟩) i c, .int .i64 ((n : Int) + 1 - (i : Int))]).run Tryz.prog w = .ok (.slice (some ⟨N, 0, none⟩) (n + 1) G) W0)
    (hcp1 : (Builtin.copy_ #[22, 22] 3 #[.slice (some ⟨N, i * 33, none⟩) (n + 1 - i) (G - i), .slice (some ⟨vb, voff, none⟩) 1 vc]).run Tryz.prog W0 = .ok k1 W1)
    (hcp2 : (Builtin.copy_ #[22, 22] 3 #[.slice (some ⟨N, (i + 1) * 33, none⟩) (n - i) (G - (i + 1)), .slice (some ⟨b, off + i * 33, none⟩) (n - i) (c - i)]).run Tryz.prog W1.drew = .ok k2 W2) :
    Calls Tryz.prog 42 #[.slice (some ⟨b, off, none⟩) n c, .int .i64 i, .slice (some ⟨vb, voff, none⟩) 1 vc] w fun e w2 => e = .returned (.slice (some ⟨N, 0, none⟩) (n + 1) G) ∧ w2 = W2 := by
  have u0 := Tryz.underlying22
  have z0 : ∀ w, (Go.sizeOf 77).run Tryz.prog w = .ok 33 w := fun w => run_sizeOf' (by kernel_rfl)
  have mixed := Tryz.checked.mixed
  have hz2 : ¬ ((i : Int) = (n : Int)) := by omega
  have hw1 : IntKind.i64.wrap ((i : Int) + 1) = (i : Int) + 1 := by rw [IntKind.wrap_i64]; omega
  have hw2 : IntKind.i64.wrap ((n : Int) + 1) = (n : Int) + 1 := by rw [IntKind.wrap_i64]; omega
  have hw3 : IntKind.i64.wrap ((n : Int) + 1 - (i : Int)) = (n : Int) + 1 - (i : Int) := by rw [IntKind.wrap_i64]; omega
  have hb1 : (0 : Int) ≤ (i : Int) + 1 := by omega
  have hin : i ≤ n := by omega
  have htn : ((i : Int) + 1).toNat = i + 1 := by omega
  have hGi : ¬ (G = i) := by omega
  have hGim : ¬ (G = i + 1) := by omega
  have hci : ¬ (c = i) := by omega
  have hz3 : (c : Int) < (n : Int) + 1 := by omega
  have hb3 : (i : Int) ≤ (n : Int) := by omega
  have hb6 : (i : Int) ≤ (c : Int) := by omega
  go_enter Tryz.func42, Tryz.ntmps42
  go_wp2_with (first
    | (at_builtin; refine Lib.wpList_append_run _ rfl _ _ _ _ rfl _ _ rfl rfl _ _ happ ?_)
    | (at_builtin; refine wpList_copy_runI _ rfl _ _ 22 22 rfl _ _ rfl rfl hcp1 ?_))
  go_region_law_o (refine step_copy_runI rfl _ _ 22 22 rfl _ _ (by simp [Act.eval, Act.put]) (by simp [Act.eval, Act.put]) hcp2 ?_)
  go_wp2
  go_ret
  exact ⟨rfl, rfl⟩
theorem insL42 : InsL Tryz.prog 42 22 3 77 33 :=
  ⟨Tryz.underlying22, Tryz.underlying3, ins_fin42, ins_shift42, ins_grow42⟩
theorem insH42 {G : Nat → CV} (args : List CV) (h : Hp) (r : CV) (h' : Hp) (hx : insH 33 48 args h = some (r, h')) : CallS Tryz.prog G 42 args h r h' :=
  insH_ok insL42 (by kernel_rfl) (by kernel_rfl) (by kernel_rfl) (by omega) (by omega) (by kernel_rfl) args h r h' hx
def insGet (f : FuncId) : Option (Nat × Nat) := match Nat.beq f 42 with | true => some (33, 48) | false => none
theorem insGet_ok (f : FuncId) (z by_ : Nat) (h : insGet f = some (z, by_)) (args : List CV) (hp : Hp) (r : CV) (hp' : Hp) (hx : insH z by_ args hp = some (r, hp')) : CallS Tryz.prog GS f args hp r hp' := by
  unfold insGet at h
  split at h
  · rename_i hb
    have hf := Nat.eq_of_beq_eq_true hb
    subst hf
    cases h
    exact insH42 args hp r hp' hx
  cases h
instance insT : InsT Tryz.prog GS := ⟨insGet, insGet_ok⟩
end Go.CM

/-
  Sets of tags: tags compared, ids and keys looked up; walked in both texts.
-/
namespace Go.CM
open Go Go.Proofs
set_option linter.unusedVariables false
set_option linter.unusedSimpArgs false
set_option maxRecDepth 100000
namespace Op
open Sha
structure Tg where
  key : List UInt8
  id : List B
  deriving DecidableEq
def encT (t : Tg) : List CV := .str t.key :: eId t.id
abbrev Tgs := Sv Tg
def encTs (s : Tgs) : CV := encS 33 encT s
def okTs (l : List Tg) : Prop := ∀ t ∈ l, t.id.length = 32
theorem encT_len {t : Tg} (h : t.id.length = 32) : (encT t).length = 33 := by simp [encT, eId_len h]
theorem closed_encT (t : Tg) : closedL (encT t) = true := by simp [encT, closedL, CV.closed, closed_eId]
theorem closed_Ts (s : Tgs) : (encTs s).closed = true := closed_encS closed_encT s
abbrev sLt (a b : List UInt8) : Bool := Go.Op.bytesLess a b
theorem sLt_iff (a b : List UInt8) : sLt a b = true ↔ a < b := by unfold sLt; rw [Go.Proofs.bytesLess_eq]; simp
@[simp] theorem bstr_lss (a b : List UInt8) : binStr .lss a b = some (.bool (sLt a b)) := id rfl
@[simp] theorem bstr_gtr (a b : List UInt8) : binStr .gtr a b = some (.bool (!(sLt a b || decide (a = b)))) := by
  by_cases h : a = b <;> simp [binStr, h]
def cmpK (a b : List UInt8) : Int := if sLt a b then -1 else if a = b then 0 else 1
theorem notNaN (a : List UInt8) : PureC Tryz.prog GS 112 [.str a] (.bool false) := by
  refine pure_of Tryz.checked.mixed GS_closed ?_
  apply call_intro c112_eq r112_eq
  unfold c112 r112
  simp
  exact rd_eq rfl rfl
theorem cmpK_ok (a b : List UInt8) : PureC Tryz.prog GS 75 [.str a, .str b] (.int .i64 (cmpK a b)) := by
  refine pure_of Tryz.checked.mixed GS_closed ?_
  apply call_intro c75_eq r75_eq
  unfold c75 r75 cmpK
  simp
  refine pure_call (notNaN a) rfl ?_
  simp
  refine pure_call (notNaN b) rfl ?_
  cases h1 : sLt a b with
  | true =>
    simp [h1]
    exact rd_eq rfl rfl
  | false =>
    by_cases h2 : a = b
    · subst h2
      simp [h1]
      exact rd_eq rfl rfl
    · simp [h1, h2]
      exact rd_eq rfl rfl
def orI (a b : Int) : Int := if a = 0 then b else a
theorem rdH_two8 {l : Hl} {b : Nat} {x y : Int} (h : l[b]? = some (.cells 2 [.int .i64 x, .int .i64 y])) : RdH (HL l) (.sl 1 b 0 2 2 2) (.rsl 1 [[.int .i64 x], [.int .i64 y]]) := by
  refine rdH_rows (rest := []) (es := [[.int .i64 x], [.int .i64 y]]) (by simpa using h) rfl (by simp) (by simp [closedL, CV.closed])
theorem or_ok (x y : Int) : PureC Tryz.prog GS 74 [.rsl 1 [[.int .i64 x], [.int .i64 y]]] (.int .i64 (orI x y)) := by
  refine pure_of Tryz.checked.mixed GS_closed ?_
  apply call_intro c74_eq r74_eq
  unfold c74 r74 orI
  simp
  obtain ⟨X, hX⟩ : ∃ X, X = CV.rsl 1 [[.int .i64 x], [.int .i64 y]] := ⟨_, rfl⟩
  rw [← hX]
  refine loop_up 2 (fun k σ l => σ 3 = .int .i64 0 ∧ σ 6 = X ∧ σ 7 = .int .i64 2 ∧ σ 8 = .int .i64 k ∧ (1 ≤ k → x = 0) ∧ (2 ≤ k → y = 0)) ?_ (by simp [hX])
  rintro k σ l hk ⟨g3, g6, g7, g8, h1, h2⟩
  obtain ⟨σ, rfl⟩ := upds4 g3 g6 g7 g8
  clear g3 g6 g7 g8
  unfold l74_0
  rcases k with _ | _ | k
  · by_cases hx : x = 0
    · simp [hX, hx]; exact rfl
    · simp [hX, hx]; exact rd_eq rfl rfl
  · have hx := h1 (by omega)
    by_cases hy : y = 0
    · simp [hX, hx, hy]; exact rfl
    · simp [hX, hx, hy]; exact rd_eq rfl rfl
  · obtain rfl : k = 0 := by omega
    have hx := h1 (by omega)
    have hy := h2 (by omega)
    simp [hX, hx, hy]; exact rd_eq rfl rfl
def cmpT (a b : Tg) : Int := orI (cmpK a.key b.key) (cmpB a.id b.id)
def ltT (a b : Tg) : Bool := if a.key = b.key then decide (cmpB a.id b.id < 0) else sLt a.key b.key
theorem own_fld {l : Hl} {j : Nat} {c : CV} {a : List B} (ha : a.length = 32) (hj : l[j]? = some (.cells 33 (c :: eId a))) : OwnQ 1 l (.sl 1 j 1 32 32 33) j (a.map enc8) := by
  refine .sl j 1 32 32 33 (c :: eId a) _ hj (by simp [eId, ha]) (by simp [ha]) (fun e he => ?_) (Nat.le_refl _) (by omega) ?_
  · obtain ⟨x, _, rfl⟩ := List.mem_map.1 he; rfl
  · simp only [List.drop_succ_cons, List.drop_zero]
    rw [List.take_of_length_le (by simp [eId, ha]), enc8_flat]; rfl
theorem cmpT_ok (a b : Tg) (ha : a.id.length = 32) (hb : b.id.length = 32) : PureC Tryz.prog GS 41 [.ag (encT a), .ag (encT b)] (.int .i64 (cmpT a b)) := by
  refine pure_of Tryz.checked.mixed GS_closed ?_
  apply call_intro c41_eq r41_eq
  unfold c41 r41 cmpT
  have h1 := eId_len ha
  have h2 := eId_len hb
  simp [encT, h1, h2]
  refine pure_call (cmpK_ok _ _) rfl ?_
  have hc := bCompare_ok (some a.id) (some b.id) (by simp [ha, hb])
  simp
  refine pure_callB hc ?_ rfl ?_
  · exact .cons ((own_fld (j := 0) (c := .str a.key) ha rfl).rdH_enc (fun _ => rfl) (some a.id) rfl rfl) (.cons ((own_fld (j := 1) (c := .str b.key) hb rfl).rdH_enc (fun _ => rfl) (some b.id) rfl rfl) .nil)
  · simp
    refine pure_callB (or_ok (cmpK a.key b.key) (cmpB a.id b.id)) (.cons (rdH_two8 (by simp)) .nil) rfl ?_
    simp
    exact rd_eq rfl rfl
theorem lessT_ok (a b : Tg) (ha : a.id.length = 32) (hb : b.id.length = 32) : PureC Tryz.prog GS 52 [.ag (encT a), .ag (encT b)] (.bool (ltT a b)) := by
  refine pure_of Tryz.checked.mixed GS_closed ?_
  apply call_intro c52_eq r52_eq
  unfold c52 r52 ltT
  have h1 := eId_len ha
  have h2 := eId_len hb
  have hc := refCmp_ok a.id b.id ha hb
  by_cases hk : a.key = b.key
  · simp [encT, h1, h2, hk, List.take_of_length_le]
    refine pure_call hc (by have := closed_eId a.id; have := closed_eId b.id; simp_all [closedL, CV.closed, idC, eId]) ?_
    simp
    exact rd_eq (by rw [if_pos hk]) rfl
  · simp [encT, h1, h2, hk]
    exact rd_eq rfl rfl
def ixOf {α : Type} [DecidableEq α] (x : α) : List α → Nat → Int
  | [], _ => -1
  | y :: r, k => if y = x then (k : Int) else ixOf x r (k + 1)
theorem ixOf_neg {α : Type} [DecidableEq α] (x : α) : ∀ (l : List α) (k : Nat), (0 ≤ ixOf x l k) ↔ x ∈ l
  | [], k => by simp [ixOf]
  | y :: r, k => by
    unfold ixOf
    by_cases h : y = x
    · simp [h]
    · rw [if_neg h, ixOf_neg x r (k + 1)]
      simp [Ne.symm h]
theorem ixOf_at {α : Type} [DecidableEq α] {x : α} : ∀ {l : List α} {k n : Nat} {y : α}, l[k]? = some y → (∀ (j : Nat) (z : α), j < k → l[j]? = some z → z ≠ x) → y = x → ixOf x l n = ((n + k : Nat) : Int)
  | [], k, n, y, h, _, _ => by simp at h
  | w :: r, 0, n, y, h, _, hy => by
    simp at h; subst h
    unfold ixOf
    rw [if_pos hy]; simp
  | w :: r, k + 1, n, y, h, hl, hy => by
    unfold ixOf
    rw [if_neg (hl 0 w (by omega) (by simp)), ixOf_at (k := k) (n := n + 1) (by simpa using h) (fun j z hj hz => hl (j + 1) z (by omega) (by simpa using hz)) hy]
    congr 1; omega
theorem ixOf_no {α : Type} [DecidableEq α] {x : α} : ∀ {l : List α} {n : Nat}, (∀ (j : Nat) (z : α), l[j]? = some z → z ≠ x) → ixOf x l n = -1
  | [], n, _ => rfl
  | w :: r, n, hl => by
    unfold ixOf
    rw [if_neg (hl 0 w (by simp)), ixOf_no fun j z hz => hl (j + 1) z (by simpa using hz)]
theorem wIndexI_ok (s : Ids) (ho : okIds s) (hl : s.l.length ≤ 1000000) (x : List B) (hx : x.length = 32) : PureC Tryz.prog GS 80 [encIds s, .ag (eId x)] (.int .i64 (ixOf x s.l 0)) := by
  refine pure_of Tryz.checked.mixed GS_closed ?_
  apply call_intro c80_eq r80_eq
  unfold c80 r80
  simp [encIds]
  refine loop_up s.l.length (fun k σ l => l = [.cells 32 (eId x)] ∧ σ 0 = encS 32 eId s ∧ σ 3 = .ptr 0 0 32 ∧ σ 7 = .int .i64 s.l.length ∧ σ 8 = .int .i64 k ∧ ∀ (j : Nat) (z : List B), j < k → s.l[j]? = some z → z ≠ x) ?_ (by simp [encIds, eId_len hx])
  rintro k σ l hk ⟨rfl, g0, g3, g7, g8, hs⟩
  obtain ⟨σ, rfl⟩ := upds4 g0 g3 g7 g8
  clear g0 g3 g7 g8
  unfold l80_0
  simp
  refine kIf_intro (fun h => ?_) (fun h => ?_)
  · simp only [decide_eq_true_eq] at h
    obtain ⟨y, hy, hym⟩ := get_of (l := s.l) (k := k) (by omega)
    have e1 : IntKind.i64.wrap ((k : Int) + 1) = ((k + 1 : Nat) : Int) := by rw [IntKind.wrap_i64]; omega
    simp [hy, eId_len (ho y hym), eId_len hx, List.take_of_length_le, idEql hx (ho y hym)]
    by_cases he : x = y
    · have hix := ixOf_at (n := 0) hy hs he.symm
      simp [he]
      exact rd_eq (by rw [← he, hix]; simp) rfl
    · simp [he, e1]
      refine ⟨by omega, fun j z hj hz => ?_⟩
      by_cases hjk : j = k
      · subst hjk; rw [hy] at hz; obtain rfl := Option.some.inj hz; exact fun h => he h.symm
      · exact hs j z (by omega) hz
  · simp [h]
    have hk2 : k = s.l.length := by simp at h; omega
    exact rd_eq (by rw [ixOf_no fun j z hz => hs j z (by rw [hk2]; exact (List.getElem?_eq_some_iff.1 hz).1) hz]) rfl
theorem wInI_ok (s : Ids) (ho : okIds s) (hl : s.l.length ≤ 1000000) (x : List B) (hx : x.length = 32) : PureC Tryz.prog GS 45 [encIds s, .ag (eId x)] (.bool (decide (x ∈ s.l))) := by
  refine pure_of Tryz.checked.mixed GS_closed ?_
  apply call_intro c45_eq r45_eq
  unfold c45 r45
  simp [eId_len hx, List.take_of_length_le]
  refine pure_call (wIndexI_ok s ho hl x hx) (by have := closed_ids s; have := closed_eId x; simp_all [closedL, CV.closed]) ?_
  simp
  exact rd_eq (congrArg CV.bool (by simp only [ixOf_neg])) rfl
theorem rIn_ok (s : Ids) (ho : okIds s) (hl : s.l.length ≤ 1000000) (x : List B) (hx : x.length = 32) : PureC Tryz.prog GS 30 [encIds s, .ag (eId x)] (.bool (decide (x ∈ s.l))) := by
  refine pure_of Tryz.checked.mixed GS_closed ?_
  apply call_intro c30_eq r30_eq
  unfold c30 r30
  simp [encIds]
  refine loop_up s.l.length (fun k σ l => l = [.cells 32 (eId x)] ∧ σ 0 = encS 32 eId s ∧ σ 3 = .ptr 0 0 32 ∧ σ 5 = .int .i64 k ∧ ∀ (j : Nat) (z : List B), j < k → s.l[j]? = some z → z ≠ x) ?_ (by simp [encIds, eId_len hx])
  rintro k σ l hk ⟨rfl, g0, g3, g5, hs⟩
  obtain ⟨σ, rfl⟩ := upds3 g0 g3 g5
  clear g0 g3 g5
  unfold l30_0
  simp
  refine kIf_intro (fun h => ?_) (fun h => ?_)
  · simp only [decide_eq_true_eq] at h
    obtain ⟨y, hy, hym⟩ := get_of (l := s.l) (k := k) (by omega)
    have e1 : IntKind.i64.wrap ((k : Int) + 1) = ((k + 1 : Nat) : Int) := by rw [IntKind.wrap_i64]; omega
    simp [hy, eId_len (ho y hym), eId_len hx, List.take_of_length_le, idEql (ho y hym) hx]
    by_cases he : y = x
    · simp [he]
      exact rd_eq (congrArg CV.bool (decide_eq_true (by rw [← he]; exact hym)).symm) rfl
    · simp [he, e1]
      refine ⟨by omega, fun j z hj hz => ?_⟩
      by_cases hjk : j = k
      · subst hjk; rw [hy] at hz; obtain rfl := Option.some.inj hz; exact he
      · exact hs j z (by omega) hz
  · simp [h]
    have hk2 : k = s.l.length := by simp at h; omega
    refine rd_eq (congrArg CV.bool (decide_eq_false fun hm => ?_).symm) rfl
    obtain ⟨j, hj⟩ := List.mem_iff_getElem?.1 hm
    exact hs j x (by rw [hk2]; exact (List.getElem?_eq_some_iff.1 hj).1) hj rfl
def longO (o : Opr) : Bool := decide (40 < o.preds.l.length) || (decide (100 < o.act.key.length) || decide (100 < o.act.val.text.length))
theorem rLong_ok (o : Opr) : PureC Tryz.prog GS 10 [.ag (encOp o)] (.bool (longO o)) := by
  refine pure_of Tryz.checked.mixed GS_closed ?_
  apply call_intro c10_eq r10_eq
  unfold c10 r10 longO
  have hlen : lenM (.sl 32) (encIds o.preds) = some (.int .i64 o.preds.l.length) := by simp [encIds]
  by_cases h1 : 40 < o.preds.l.length
  · have h1' : (40 : Int) < (o.preds.l.length : Int) := by omega
    simp [encOp, hlen, h1, h1']
    exact rd_eq (by simp [h1]) rfl
  · have h1' : ¬ (40 : Int) < (o.preds.l.length : Int) := by omega
    by_cases h2 : 100 < o.act.key.length
    · have h2' : (100 : Int) < (o.act.key.length : Int) := by omega
      simp [encOp, hlen, h1, h1', h2, h2']
      exact rd_eq (by simp [h1, h2]) rfl
    · have h2' : ¬ (100 : Int) < (o.act.key.length : Int) := by omega
      have h3' : ((100 : Int) < (o.act.val.text.length : Int)) ↔ 100 < o.act.val.text.length := by omega
      simp [encOp, hlen, h1, h1', h2, h2', h3']
      exact rd_eq (by simp [h1, h2]) rfl
def eK (k : List UInt8) : List CV := [.str k]
def hasK (l : List Tg) (k : List UInt8) : Bool := decide (k ∈ l.map Tg.key)
end Op
end Go.CM

/-
  Sets of tags: checked, keys; walked in both texts.
-/
namespace Go.CM
open Go Go.Proofs
set_option linter.unusedVariables false
set_option linter.unusedSimpArgs false
set_option maxRecDepth 100000
namespace Op
open Sha
theorem cmpT_neg (a b : Tg) : (cmpT a b < 0) ↔ ltT a b = true := by
  unfold cmpT cmpK orI ltT
  by_cases h : a.key = b.key
  · have hi : sLt b.key b.key = false := by
      cases hb : sLt b.key b.key with
      | false => rfl
      | true => exact absurd ((sLt_iff _ _).1 hb) (List.lt_irrefl _)
    simp [h, hi]
  · cases hb : sLt a.key b.key with
    | true => simp [h]
    | false => simp [h]
def tgAt (l : List Tg) (k : Nat) : Tg := l.getD k ⟨[], []⟩
theorem tgAt_get {l : List Tg} {k : Nat} {x : Tg} (h : l[k]? = some x) : tgAt l k = x := by
  unfold tgAt; rw [List.getD_eq_getElem?_getD, h]; rfl
def goodAt (l : List Tg) (k : Nat) : Bool := keyB (tgAt l k).key && (decide (k = 0) || ltT (tgAt l (k - 1)) (tgAt l k))
def goodTs (l : List Tg) : Bool := decide (∀ k, k < l.length → goodAt l k = true)
def tagErr (l : List Tg) : Int := if 60 < l.length then 4 else if goodTs l then 0 else 8
theorem good_true {l : List Tg} (h : ∀ k, k < l.length → goodAt l k = true) : goodTs l = true := decide_eq_true h
theorem good_false {l : List Tg} {k : Nat} (hk : k < l.length) (h : goodAt l k = false) : goodTs l = false := decide_eq_false fun hh => by rw [hh k hk] at h; cases h
theorem act_add (k : List UInt8) : actB ⟨2#8, k, zeroVal⟩ = keyB k := by
  rw [act2 rfl]
  have : isZero zeroVal = true := by decide
  simp [this]
theorem spT {E : List CV} (h : E.length = 33) : splice (CV.str [] :: rep 32 (.int .u8 0)) 0 E = E := splice_full (by rw [h]; rfl)
theorem wTCheck_ok (s : Tgs) (ho : okTs s.l) (hl : s.l.length ≤ 1000000) : PureC Tryz.prog GS 18 [.ag [encTs s]] (.int .i64 (tagErr s.l)) := by
  refine pure_of Tryz.checked.mixed GS_closed ?_
  apply call_intro c18_eq r18_eq
  unfold c18 r18 tagErr
  have hlen : lenM (.sl 33) (encTs s) = some (.int .i64 s.l.length) := by simp [encTs]
  by_cases h1 : 60 < s.l.length
  · have h1' : (60 : Int) < (s.l.length : Int) := by omega
    simp [hlen, h1']
    exact rd_eq (by rw [if_pos h1]) rfl
  · have h1' : ¬ (60 : Int) < (s.l.length : Int) := by omega
    simp [hlen, h1']
    refine loop_up s.l.length (fun k σ l => (∃ r, l = .cells 1 [encTs s] :: r) ∧ σ 1 = .ptr 0 0 1 ∧ σ 10 = encTs s ∧ σ 11 = .int .i64 s.l.length ∧ σ 12 = .int .i64 k ∧ ∀ j, j < k → goodAt s.l j = true) ?_ (by simp)
    rintro k σ l hk ⟨⟨r, rfl⟩, g1, g10, g11, g12, hs⟩
    obtain ⟨σ, rfl⟩ := upds4 g1 g10 g11 g12
    clear g1 g10 g11 g12
    unfold l18_0
    simp
    refine kIf_intro (fun h => ?_) (fun h => ?_)
    · simp only [decide_eq_true_eq] at h
      obtain ⟨y, hy, hym⟩ := get_of (l := s.l) (k := k) (by omega)
      have hyl := encT_len (ho y hym)
      have e1 : IntKind.i64.wrap ((k : Int) + 1) = ((k + 1 : Nat) : Int) := by rw [IntKind.wrap_i64]; omega
      have e2 : 1 ≤ k → IntKind.i64.wrap ((k : Int) - 1) = ((k - 1 : Nat) : Int) := fun h => by rw [IntKind.wrap_i64]; omega
      have hac := checkAct_ok ⟨2#8, y.key, zeroVal⟩
      rw [act_add] at hac
      have hga : goodAt s.l k = (keyB y.key && (decide (k = 0) || ltT (tgAt s.l (k - 1)) y)) := by unfold goodAt; rw [tgAt_get hy]
      have hsp := spT hyl
      obtain ⟨E, hE⟩ : ∃ E, E = eId y.id := ⟨_, rfl⟩
      have hET : encT y = .str y.key :: E := by rw [hE]; rfl
      have hEl : E.length = 32 := by rw [hE]; exact eId_len (ho y hym)
      have hEc : closedL E = true := by rw [hE]; exact closed_eId _
      rw [hET] at hyl hsp
      simp [encTs, hy, hET, hEl, hsp, List.take_of_length_le]
      refine pure_call hac rfl ?_
      cases h5 : keyB y.key with
      | false =>
        rw [h5, Bool.false_and] at hga
        simp [errB]
        exact rd_eq (by rw [if_neg h1, good_false h hga]; rfl) rfl
      | true =>
        rw [h5, Bool.true_and] at hga
        rcases k with _ | k
        · simp [errB, e1]
          exact ⟨by omega, rfl, by rw [IntKind.wrap_i64]; omega, by rw [hga]; rfl⟩
        · obtain ⟨x, hx, hxm⟩ := get_of (l := s.l) (k := k) (by omega)
          have hxl := encT_len (ho x hxm)
          have e3 : IntKind.i64.wrap (k : Int) = (k : Int) := by rw [IntKind.wrap_i64]; omega
          have hpos : (0 : Int) < (k : Int) + 1 := by omega
          have hcm := cmpT_ok x y (ho x hxm) (ho y hym)
          rw [hET] at hcm
          simp only [Nat.add_sub_cancel, tgAt_get hx, Nat.add_eq_zero_iff, Nat.one_ne_zero, and_false, decide_false, Bool.false_or] at hga
          simp [errB, hpos, hx, hxl, e3, hEl, List.take_of_length_le]
          refine pure_call hcm (by simp [closedL, CV.closed, hEc, closed_encT]) ?_
          have hcn := cmpT_neg x y
          by_cases h6 : cmpT x y < 0
          · rw [hcn.1 h6] at hga
            have h6' : ¬ (0 : Int) ≤ cmpT x y := by omega
            simp [h6', e1]
            refine ⟨by omega, rfl, by rw [IntKind.wrap_i64]; omega, fun j hj => ?_⟩
            by_cases hjk : j = k + 1
            · rw [hjk, hga]
            · exact hs j (by omega)
          · have h6' : (0 : Int) ≤ cmpT x y := by omega
            have h7 : ltT x y = false := by
              cases h8 : ltT x y with
              | false => rfl
              | true => exact absurd (hcn.2 h8) h6
            rw [h7] at hga
            simp [h6']
            exact rd_eq (by rw [if_neg h1, good_false h hga]; rfl) rfl
    · simp [h]
      have hk2 : k = s.l.length := by simp at h; omega
      exact rd_eq (by rw [if_neg h1, if_pos (good_true fun j hj => hs j (by omega))]) rfl
end Op
end Go.CM

/-
  slices.Compact of strings: walked.
-/
namespace Go.CM
open Go Go.Proofs
set_option linter.unusedVariables false
set_option linter.unusedSimpArgs false
set_option maxRecDepth 100000
namespace Op
open Sha
abbrev kAt (l : List (List UInt8)) (k : Nat) : List UInt8 := l.getD k []
def ddKN (l : List (List UInt8)) (m : Nat) : List (List UInt8) := (List.range m).flatMap fun k => if k = 0 ∨ kAt l k ≠ kAt l (k - 1) then [kAt l k] else []
structure CmpKI (l : Hl) (v : CV) (xs : List (List UInt8)) (k : Nat) (σ : Sg) (l1 : Hl) : Prop where
  g0 : σ 0 = v
  g3 : σ 3 = .int .i64 ((k + 1 : Nat) : Int)
  hl : l1 = l
  hs : ∀ j, 1 ≤ j → j < k + 1 → kAt xs j ≠ kAt xs (j - 1)
structure CmpK2 (l : Hl) (v v2 : CV) (j : Nat) (xs : List (List UInt8)) (m i : Nat) (σ : Sg) (l2 : Hl) : Prop where
  g0 : σ 0 = v
  g4 : σ 4 = v2
  g5 : σ 5 = .int .i64 ((i + 1 : Nat) : Int)
  ex : ∃ (k : Nat) (ys : List (List UInt8)), σ 3 = .int .i64 (k : Int) ∧ OwnS 1 l2 v j (ys.map eK) ∧ ys.length = xs.length ∧ (∀ y ∈ ys, y.length = y.length) ∧ ys.take k = ddKN xs (m + i + 1) ∧ k ≤ m + i ∧ (∀ t, m + i ≤ t → kAt ys t = kAt xs t) ∧ l2.length = l.length ∧ ∀ b, b ≠ j → l2[b]? = l[b]?
end Op
end Go.CM

/-
  Sets of tags: the keys, whether a key is there, sets compared; walked in both texts.
-/
namespace Go.CM
open Go Go.Proofs
set_option linter.unusedVariables false
set_option linter.unusedSimpArgs false
set_option maxRecDepth 100000
namespace Op
open Sha
theorem rd_tu2 {l : Hl} {a b a' b' : CV} (h1 : Rd l a a') (h2 : Rd l b b') : Rd l (.tu [a, b]) (.tu [a', b']) := by
  refine .tu _ _ rfl fun j x x' hx hx' => ?_
  rcases j with _ | _ | j
  · simp at hx hx'; subst hx hx'; exact h1
  · simp at hx hx'; subst hx hx'; exact h2
  · simp at hx
theorem rd_ag1 {l : Hl} {a a' : CV} (h1 : Rd l a a') : Rd l (.ag [a]) (.ag [a']) := by
  refine .ag _ _ rfl fun j x x' hx hx' => ?_
  rcases j with _ | j
  · simp at hx hx'; subst hx hx'; exact h1
  · simp at hx
structure KeyI (s : Tgs) (k : Nat) (σ : Sg) (l : Hl) : Prop where
  g14 : σ 14 = encTs s
  g15 : σ 15 = .int .i64 s.l.length
  g16 : σ 16 = .int .i64 k
  ob : ∃ v, σ 5 = v ∧ Ob 1 eK [.cells 1 [encTs s]] l v ((s.l.map Tg.key).take k) (decide (k = 0))
theorem rTCheck_ok (s : Tgs) (ho : okTs s.l) (hl : s.l.length ≤ 1000000) : PureC Tryz.prog GS 19 [.ag [encTs s]] (.int .i64 (tagErr s.l)) := by
  refine pure_of Tryz.checked.mixed GS_closed ?_
  apply call_intro c19_eq r19_eq
  unfold c19 r19 tagErr
  have hlen : lenM (.sl 33) (encTs s) = some (.int .i64 s.l.length) := by simp [encTs]
  by_cases h1 : 60 < s.l.length
  · have h1' : (60 : Int) < (s.l.length : Int) := by omega
    simp [hlen, h1']
    exact rd_eq (by rw [if_pos h1]) rfl
  · have h1' : ¬ (60 : Int) < (s.l.length : Int) := by omega
    simp [hlen, h1']
    refine loop_up s.l.length (fun k σ l => l = [.cells 1 [encTs s]] ∧ σ 1 = .ptr 0 0 1 ∧ σ 3 = .int .i64 k ∧ ∀ j, j < k → goodAt s.l j = true) ?_ (by simp)
    rintro k σ l hk ⟨rfl, g1, g3, hs⟩
    obtain ⟨σ, rfl⟩ := upds2 g1 g3
    clear g1 g3
    unfold l19_0
    simp [hlen]
    refine kIf_intro (fun h => ?_) (fun h => ?_)
    · simp only [decide_eq_true_eq] at h
      obtain ⟨y, hy, hym⟩ := get_of (l := s.l) (k := k) (by omega)
      have hyl := encT_len (ho y hym)
      have e1 : IntKind.i64.wrap ((k : Int) + 1) = ((k + 1 : Nat) : Int) := by rw [IntKind.wrap_i64]; omega
      have hac := name_ok y.key
      have hga : goodAt s.l k = (keyB y.key && (decide (k = 0) || ltT (tgAt s.l (k - 1)) y)) := by unfold goodAt; rw [tgAt_get hy]
      obtain ⟨E, hE⟩ : ∃ E, E = eId y.id := ⟨_, rfl⟩
      have hET : encT y = .str y.key :: E := by rw [hE]; rfl
      have hEl : E.length = 32 := by rw [hE]; exact eId_len (ho y hym)
      have hEc : closedL E = true := by rw [hE]; exact closed_eId _
      simp [encTs, hy, hET]
      refine pure_call hac rfl ?_
      cases h5 : keyB y.key with
      | false =>
        rw [h5, Bool.false_and] at hga
        simp
        exact rd_eq (by rw [if_neg h1, good_false h hga]; rfl) rfl
      | true =>
        rw [h5, Bool.true_and] at hga
        rcases k with _ | k
        · simp [e1, encTs]
          and_intros <;> first | omega | rfl | (rw [IntKind.wrap_i64]; omega) | (rw [hga]; rfl)
        · obtain ⟨x, hx, hxm⟩ := get_of (l := s.l) (k := k) (by omega)
          have hxl := encT_len (ho x hxm)
          have e3 : IntKind.i64.wrap (k : Int) = (k : Int) := by rw [IntKind.wrap_i64]; omega
          have hpos : (0 : Int) < (k : Int) + 1 := by omega
          have hcm := lessT_ok x y (ho x hxm) (ho y hym)
          rw [hET] at hcm
          simp only [Nat.add_sub_cancel, tgAt_get hx, Nat.add_eq_zero_iff, Nat.one_ne_zero, and_false, decide_false, Bool.false_or] at hga
          simp [hpos, hx, hy, hET, hxl, e3, hEl, List.take_of_length_le]
          refine ⟨by omega, ?_⟩
          refine pure_call hcm (by simp [closedL, CV.closed, hEc, closed_encT]) ?_
          cases h6 : ltT x y with
          | true =>
            rw [h6] at hga
            simp [e1]
            refine ⟨by omega, rfl, by rw [IntKind.wrap_i64]; omega, fun j hj => ?_⟩
            by_cases hjk : j = k + 1
            · rw [hjk, hga]
            · exact hs j (by omega)
          | false =>
            rw [h6] at hga
            simp
            exact rd_eq (by rw [if_neg h1, good_false h hga]; rfl) rfl
    · simp [h]
      have hk2 : k = s.l.length := by simp at h; omega
      exact rd_eq (by rw [if_neg h1, if_pos (good_true fun j hj => hs j (by omega))]) rfl
end Op
end Go.CM

/-
  Sets of tags: the keys in the reference, sets compared; walked.
-/
namespace Go.CM
open Go Go.Proofs
set_option linter.unusedVariables false
set_option linter.unusedSimpArgs false
set_option maxRecDepth 100000
namespace Op
open Sha
def rKsN (l : List Tg) (m : Nat) : List (List UInt8) := (List.range m).flatMap fun k => if hasK (l.take k) (tgAt l k).key then [] else [(tgAt l k).key]
structure KeyR (s : Tgs) (k : Nat) (σ : Sg) (l : Hl) : Prop where
  g1 : σ 1 = .ptr 0 0 1
  g5 : σ 5 = .int .i64 k
  ob : ∃ v, σ 4 = v ∧ Ob 1 eK [.cells 1 [encTs s]] l v (rKsN s.l k) (decide (k = 0))
def kT : List Tk := .s :: List.replicate 32 (.i .u8)
theorem kinds_T : kindsT Tryz.prog 20 77 = some kT := by kernel_rfl
theorem okT {t : Tg} (h : t.id.length = 32) : okK kT (encT t) = true := by
  unfold kT encT
  have := okKE8 t.id
  rw [h] at this
  simp only [okK, tkOk, Bool.true_and]
  exact this
theorem beqT {a b : Tg} (ha : a.id.length = 32) (hb : b.id.length = 32) : beqL (encT a) (encT b) = decide (a = b) := by
  unfold encT eId
  simp only [beqL, CV.beq]
  rw [beqE8 a.id b.id (by omega)]
  cases a; cases b
  simp only [Tg.mk.injEq]
  rename_i k1 i1 k2 i2
  by_cases h1 : k1 = k2 <;> by_cases h2 : i1 = i2 <;> simp [h1, h2]
theorem tEql {a b : Tg} (ha : a.id.length = 32) (hb : b.id.length = 32) : binC Tryz.prog .eql 77 (.ag (encT a)) (.ag (encT b)) = some (.bool (decide (a = b))) := by
  rw [bin_plain_eql kinds_T (by kernel_rfl) (by kernel_rfl) (okT ha) (okT hb), beqT ha hb]
theorem tNeq {a b : Tg} (ha : a.id.length = 32) (hb : b.id.length = 32) : binC Tryz.prog .neq 77 (.ag (encT a)) (.ag (encT b)) = some (.bool (!decide (a = b))) := by
  rw [bin_plain_neq kinds_T (by kernel_rfl) (by kernel_rfl) (okT ha) (okT hb), beqT ha hb]
end Op
end Go.CM

/-
  Sets of tags: greatness, a copy, searching, putting in; walked.
-/
namespace Go.CM
open Go Go.Proofs
set_option linter.unusedVariables false
set_option linter.unusedSimpArgs false
set_option maxRecDepth 100000
namespace Op
open Sha
def greatT (l : List Tg) : Bool := decide (∃ t ∈ l.take 101, 100 < t.key.length) || decide (100 < l.length)
theorem rTGreat_ok (s : Tgs) (ho : okTs s.l) : PureC Tryz.prog GS 9 [.ag [encTs s]] (.bool (greatT s.l)) := by
  refine pure_of Tryz.checked.mixed GS_closed ?_
  apply call_intro c9_eq r9_eq
  unfold c9 r9
  have hlen : lenM (.sl 33) (encTs s) = some (.int .i64 s.l.length) := by simp [encTs]
  simp
  refine loop_up (min s.l.length 101) (fun k σ l => l = [.cells 1 [encTs s]] ∧ σ 1 = .ptr 0 0 1 ∧ σ 3 = .int .i64 k ∧ ∀ (j : Nat) (t : Tg), j < k → s.l[j]? = some t → t.key.length ≤ 100) ?_ (by simp)
  rintro k σ l hk ⟨rfl, g1, g3, hs⟩
  obtain ⟨σ, rfl⟩ := upds2 g1 g3
  clear g1 g3
  unfold l9_0
  by_cases h : k < s.l.length
  · have h' : (k : Int) < (s.l.length : Int) := by omega
    by_cases h2 : k ≤ 100
    · have h2' : (k : Int) ≤ 100 := by omega
      obtain ⟨y, hy, hym⟩ := get_of (l := s.l) (k := k) h
      have hia : iaC (.sl 33) (encTs s) (.int .i64 (k : Int)) = some (.rptr (encT y) 0) := by simp [encTs, hy]
      have e1 : IntKind.i64.wrap ((k : Int) + 1) = ((k + 1 : Nat) : Int) := by rw [IntKind.wrap_i64]; omega
      by_cases h3 : 100 < y.key.length
      · have h3' : (100 : Int) < (y.key.length : Int) := by omega
        simp [hlen, h, h2, h', h2', hia, encT, h3, h3']
        refine rd_eq (congrArg CV.bool ?_) rfl
        unfold greatT
        rw [decide_eq_true (⟨y, ?_, h3⟩ : ∃ t ∈ s.l.take 101, 100 < t.key.length)]; rfl
        exact List.mem_iff_getElem?.2 ⟨k, by rw [List.getElem?_take_of_lt (by omega)]; exact hy⟩
      · have h3' : ¬ (100 : Int) < (y.key.length : Int) := by omega
        simp [hlen, h, h2, h', h2', hia, encT, h3, h3', e1]
        refine ⟨by omega, fun j t hj ht => ?_⟩
        by_cases hjk : j = k
        · rw [hjk, hy] at ht; obtain rfl := Option.some.inj ht; omega
        · exact hs j t (by omega) ht
    · have h2' : ¬ (k : Int) ≤ 100 := by omega
      have h4 : 100 < s.l.length := by omega
      have h4' : (100 : Int) < (s.l.length : Int) := by omega
      simp [hlen, h, h2, h', h2', h4']
      refine rd_eq (congrArg CV.bool ?_) rfl
      unfold greatT
      simp [h4]
  · have h' : ¬ (k : Int) < (s.l.length : Int) := by omega
    have h4 : ((100 : Int) < (s.l.length : Int)) ↔ 100 < s.l.length := by omega
    simp [hlen, h, h', h4]
    refine rd_eq (congrArg CV.bool ?_) rfl
    unfold greatT
    rw [decide_eq_false (p := ∃ t ∈ s.l.take 101, 100 < t.key.length), Bool.false_or]
    rintro ⟨t, ht, ht2⟩
    obtain ⟨j, hj⟩ := List.mem_iff_getElem?.1 ht
    have hjl := (List.getElem?_eq_some_iff.1 hj).1
    rw [List.length_take] at hjl
    rw [List.getElem?_take_of_lt (by omega)] at hj
    have := hs j t (by omega) hj
    omega
theorem great_le {l : List Tg} (h : greatT l = false) : l.length ≤ 100 ∧ ∀ t ∈ l, t.key.length ≤ 100 := by
  unfold greatT at h
  rw [Bool.or_eq_false_iff, decide_eq_false_iff_not, decide_eq_false_iff_not] at h
  refine ⟨by omega, fun t ht => ?_⟩
  rw [List.take_of_length_le (by omega)] at h
  exact Nat.le_of_not_lt fun h2 => h.1 ⟨t, ht, h2⟩
theorem nilTs (s : Tgs) : binC Tryz.prog .eql 22 (encS 33 encT s) .nilS = some (.bool s.isNone) := bin_nil_eql (e := 77) (by kernel_rfl) 33 encT s
theorem flatT_len {l : List Tg} (h : okTs l) : ((l.map encT).flatten).length = l.length * 33 := by
  rw [flatten_len (z := 33) (fun e he => by obtain ⟨y, hy, rfl⟩ := List.mem_map.1 he; exact encT_len (h y hy)), List.length_map]
theorem own_ts {l : Hl} {b n : Nat} {a : List Tg} (ha : okTs a) (hn : a.length = n) (hb : l[b]? = some (.cells (n * 33) (a.map encT).flatten)) : OwnS 33 l (.sl 33 b 0 n n (n * 33)) b (a.map encT) := by
  have hfl := flatT_len ha
  refine .sl b n n (n * 33) _ _ hb (by rw [hfl, hn]) (by simp [hn]) (fun e he => ?_) (Nat.le_refl _) (Nat.le_refl _) ?_
  · obtain ⟨y, hy, rfl⟩ := List.mem_map.1 he; exact encT_len (ha y hy)
  · rw [List.take_of_length_le (by rw [hfl, hn]; omega)]
theorem cloneT_ob (s : Tgs) (ho : okTs s.l) (hs : s.l.length ≤ 1000000) {l : Hl} {K : CV → Hl → Prop} (h0 : s = none → K .nilS l)
    (h1 : ∀ a, s = some a → K (.sl 33 l.length 0 a.length a.length (a.length * 33)) (l ++ [.cells (a.length * 33) (a.map encT).flatten])) :
    CallP Tryz.prog GS 39 [encTs s] l (c := ⟨K⟩) := by
  apply call_intro c39_eq r39_eq
  unfold c39 r39
  have hr : roomMax = 140737488355328 := rfl
  cases s with
  | none =>
    simp [encTs, nilTs]
    exact h0 rfl
  | some a =>
    simp at hs
    have hfl := flatT_len (l := a) ho
    have happ : appM (l ++ [CB.cells 0 []]) 33 48 (.sl 33 l.length 0 0 0 0) (encS 33 encT (some a)) = some (.sl 33 l.length 0 a.length a.length (a.length * 33), l ++ [.cells (a.length * 33) (a.map encT).flatten]) := by
      unfold appM
      rw [contents_encS]
      simp only [Sv.l_some]
      unfold appendL
      by_cases hz : a.length = 0
      · have : a = [] := List.length_eq_zero_iff.1 hz
        subst this
        simp
      · rw [if_neg hz, if_neg (by omega)]
        simp [hr]
        exact ⟨by omega, fun h => by simp [h]⟩
    simp [encTs, nilTs, happ]
    refine AppK.keep ?_
    simp
    exact h1 a rfl
theorem orI_zero (a b : Int) : orI a b = 0 ↔ a = 0 ∧ b = 0 := by
  unfold orI
  by_cases h : a = 0 <;> simp [h]
theorem cmpK_zero (a b : List UInt8) : cmpK a b = 0 ↔ a = b := by
  unfold cmpK
  cases h : sLt a b with
  | true =>
    have h1 := (sLt_iff _ _).1 h
    simp
    rintro rfl
    exact absurd h1 (List.lt_irrefl _)
  | false =>
    by_cases h2 : a = b <;> simp [h2]
theorem cmpT_zero (a b : Tg) : cmpT a b = 0 ↔ a = b := by
  unfold cmpT
  rw [orI_zero, cmpK_zero]
  constructor
  · rintro ⟨h1, h2⟩
    have := cmpB_eq h2
    cases a; cases b; simp_all
  · rintro rfl
    exact ⟨rfl, cmpB_self _⟩
def cntT (l : List Tg) (x : Tg) : Nat := (l.takeWhile fun t => ltT t x).length
theorem cnt_of (x : Tg) : ∀ {l : List Tg} {p : Nat}, p ≤ l.length → (∀ (t : Nat) (y : Tg), t < p → l[t]? = some y → ltT y x = true) → (∀ y, l[p]? = some y → ltT y x = false) → cntT l x = p
  | [], p, hp, _, _ => by simp at hp; subst hp; rfl
  | y :: l, 0, _, _, h2 => by
    have := h2 y (by simp)
    unfold cntT
    rw [List.takeWhile_cons, this]; rfl
  | y :: l, p + 1, hp, h1, h2 => by
    have hy := h1 0 y (by omega) (by simp)
    have ih := cnt_of x (l := l) (p := p) (by simpa using hp) (fun t z ht hz => h1 (t + 1) z (by omega) (by simpa using hz)) (fun z hz => h2 z (by simpa using hz))
    unfold cntT at ih ⊢
    rw [List.takeWhile_cons, hy]
    simpa using ih
def foundT (l : List Tg) (x : Tg) : Bool := decide (cntT l x < l.length) && decide (tgAt l (cntT l x) = x)
def monoT (l : List Tg) (x : Tg) : Prop := ∀ (i j : Nat) (a b : Tg), i ≤ j → l[i]? = some a → l[j]? = some b → ltT b x = true → ltT a x = true
theorem shr1 (n : Nat) (h : n < 9223372036854775808) : binInt .shr .u64 (n : Int) .u64 1 = some (.int .u64 ((n / 2 : Nat) : Int)) := by
  have := bshrn_u64 (BitVec.ofNat 64 n) .u64 1
  have hu : (u (BitVec.ofNat 64 n) : Int) = n := by unfold u; rw [BitVec.toNat_ofNat, Nat.mod_eq_of_lt (by omega)]
  have hv : (u (BitVec.ofNat 64 n >>> 1) : Int) = ((n / 2 : Nat) : Int) := by
    unfold u; rw [BitVec.toNat_ushiftRight, BitVec.toNat_ofNat, Nat.mod_eq_of_lt (by omega), Nat.shiftRight_eq_div_pow]
  rw [hu, hv] at this
  exact this
structure BsI (s : Tgs) (X : List CV) (x : Tg) (m : Nat) (σ : Sg) (l : Hl) : Prop where
  ex : ∃ (i j : Nat), j - i = m ∧ i ≤ j ∧ j ≤ s.l.length ∧ l = [.cells 33 X] ∧ σ 0 = encTs s ∧ σ 2 = .fn 41 [] [] ∧ σ 4 = .ptr 0 0 33 ∧ σ 8 = .int .i64 s.l.length ∧ σ 9 = .int .i64 i ∧ σ 10 = .int .i64 j ∧
    (∀ (t : Nat) (y : Tg), t < i → s.l[t]? = some y → ltT y x = true) ∧ (∀ (t : Nat) (y : Tg), j ≤ t → s.l[t]? = some y → ltT y x = false)
theorem fn_cmpT : funOkB Tryz.prog 41 = true := by kernel_rfl
theorem search_ok (s : Tgs) (ho : okTs s.l) (hl : s.l.length ≤ 1000000) (x : Tg) (hx : x.id.length = 32) (hm : monoT s.l x) :
    PureC Tryz.prog GS 40 [encTs s, .ag (encT x), .fn 41 [] []] (.tu [.int .i64 (cntT s.l x), .bool (foundT s.l x)]) := by
  refine pure_of Tryz.checked.mixed GS_closed ?_
  apply call_intro c40_eq r40_eq
  unfold c40 r40
  have hlen : lenM (.sl 33) (encTs s) = some (.int .i64 s.l.length) := by simp [encTs]
  have hxl := encT_len hx
  have hxc := closed_encT x
  have hcm : ∀ y ∈ s.l, PureC Tryz.prog GS 41 [.ag (encT y), .ag (encT x)] (.int .i64 (cmpT y x)) := fun y hy => cmpT_ok y x (ho y hy) hx
  obtain ⟨X, hX⟩ : ∃ X, X = encT x := ⟨_, rfl⟩
  rw [← hX] at hxl hxc hcm ⊢
  simp [hlen]
  refine loop_fall (BsI s X x) ?_ s.l.length _ _ ⟨0, s.l.length, by omega, by omega, by omega, by simp [hxl], by simp, by simp, by simp [hxl], by simp, by simp, by simp, fun t y h => by omega, fun t y h h2 => by rw [List.getElem?_eq_none h] at h2; cases h2⟩
  rintro m σ l ⟨i, j, hm1, hij, hjl, rfl, g0, g2, g4, g8, g9, g10, h1, h2⟩
  obtain ⟨σ, rfl⟩ := upds6 g0 g2 g4 g8 g9 g10
  clear g0 g2 g4 g8 g9 g10
  unfold l40_0
  by_cases hlt : i < j
  · obtain ⟨h, hh⟩ : ∃ h, h = (i + j) / 2 := ⟨_, rfl⟩
    have w1 : IntKind.i64.wrap ((i : Int) + j) = ((i + j : Nat) : Int) := by rw [IntKind.wrap_i64]; omega
    have w2 : IntKind.u64.wrap ((i + j : Nat) : Int) = ((i + j : Nat) : Int) := by rw [wrap_u64, BitVec.ofInt_natCast]; unfold u; rw [BitVec.toNat_ofNat, Nat.mod_eq_of_lt (by omega)]
    have w3 := shr1 (i + j) (by omega)
    have w4 : IntKind.i64.wrap (h : Int) = (h : Int) := by rw [IntKind.wrap_i64]; omega
    have w5 : IntKind.i64.wrap ((h : Int) + 1) = ((h + 1 : Nat) : Int) := by rw [IntKind.wrap_i64]; omega
    have hlt' : (i : Int) < (j : Int) := by omega
    rw [← hh] at w3
    obtain ⟨y, hy, hym⟩ := get_of (l := s.l) (k := h) (by omega)
    have hyl := encT_len (ho y hym)
    have hyc := closed_encT y
    have hia : iaC (.sl 33) (encTs s) (.int .i64 (h : Int)) = some (.rptr (encT y) 0) := by simp [encTs, hy]
    have hcy := hcm y hym
    have hcn := cmpT_neg y x
    obtain ⟨Y, hY⟩ : ∃ Y, Y = encT y := ⟨_, rfl⟩
    rw [← hY] at hyl hyc hia hcy
    obtain ⟨N, hN⟩ : ∃ N, N = i + j := ⟨_, rfl⟩
    rw [← hN] at w1 w2 w3
    simp [hlt, w1, w2, w3, w4, hia, hyl, hxl, List.take_of_length_le]
    refine ⟨fn_cmpT, pure_call hcy (by simp [closedL, CV.closed, hyc, hxc]) ?_⟩
    by_cases h6 : cmpT y x < 0
    · simp [h6, w5]
      refine ⟨j - (h + 1), by omega, h + 1, j, rfl, by omega, by omega, by simp, by simp, by simp, by simp, by simp, by simp, by simp, fun t z ht hz => ?_, h2⟩
      exact hm t h z y (by omega) hz hy (hcn.1 h6)
    · simp [h6]
      refine ⟨h - i, by omega, i, h, rfl, by omega, by omega, by simp, by simp, by simp, by simp, by simp, by simp, by simp, h1, fun t z ht hz => ?_⟩
      cases h7 : ltT z x with
      | false => rfl
      | true => exact absurd (hcn.2 (hm h t y z ht hy hz h7)) h6
  · have hlt' : ¬ (i : Int) < (j : Int) := by omega
    obtain rfl : i = j := by omega
    have hc := cnt_of x (l := s.l) (p := i) hjl h1 (fun y hy => h2 i y (Nat.le_refl _) hy)
    by_cases hil : i < s.l.length
    · have hil' : (i : Int) < (s.l.length : Int) := by omega
      obtain ⟨y, hy, hym⟩ := get_of (l := s.l) (k := i) hil
      have hyl := encT_len (ho y hym)
      have hyc := closed_encT y
      have hia : iaC (.sl 33) (encTs s) (.int .i64 (i : Int)) = some (.rptr (encT y) 0) := by simp [encTs, hy]
      have hcy := hcm y hym
      have hcz := cmpT_zero y x
      obtain ⟨Y, hY⟩ : ∃ Y, Y = encT y := ⟨_, rfl⟩
      rw [← hY] at hyl hyc hia hcy
      simp [hil, hia, hyl, hxl, List.take_of_length_le]
      refine ⟨fn_cmpT, pure_call hcy (by simp [closedL, CV.closed, hyc, hxc]) ?_⟩
      simp
      refine rd_eq ?_ rfl
      unfold foundT
      rw [hc, tgAt_get hy, decide_eq_true hil, Bool.true_and]
      simp [hcz]
    · have hil' : ¬ (i : Int) < (s.l.length : Int) := by omega
      simp [hil]
      refine rd_eq ?_ rfl
      unfold foundT
      rw [hc, decide_eq_false hil, Bool.false_and]
end Op
end Go.CM

/-
  Sets of tags: a tag is put in, tags are struck; the program's Apply, walked.
-/
namespace Go.CM
open Go Go.Proofs
set_option linter.unusedVariables false
set_option linter.unusedSimpArgs false
set_option maxRecDepth 100000
namespace Op
open Sha
def insAt (l : List Tg) (i : Nat) (x : Tg) : List Tg := l.take i ++ x :: l.drop i
theorem insAt_len (l : List Tg) (i : Nat) (x : Tg) : (insAt l i x).length = l.length + 1 := by
  unfold insAt; simp; omega
theorem insAt_ok {l : List Tg} {i : Nat} {x : Tg} (h : okTs l) (hx : x.id.length = 32) : okTs (insAt l i x) := by
  intro t ht
  unfold insAt at ht
  rcases List.mem_append.1 ht with h1 | h1
  · exact h t (List.mem_of_mem_take h1)
  · rcases List.mem_cons.1 h1 with h2 | h2
    · rw [h2]; exact hx
    · exact h t (List.mem_of_mem_drop h2)
theorem insT_own {l : Hl} {b bv n i : Nat} {a : List Tg} {x : Tg} (ha : okTs a) (hx : x.id.length = 32) (hn : a.length = n) (hb : l[b]? = some (.cells (n * 33) (a.map encT).flatten)) (hbv : l[bv]? = some (.cells 33 (encT x))) (hne : bv ≠ b) (hi : i ≤ n) (hn2 : n ≤ 1000000)
    {K : CV → Hl → Prop} (hK : K (.sl 33 l.length 0 (n + 1) (n + 1) ((n + 1) * 33)) (l.set b .dead ++ [.cells ((n + 1) * 33) ((insAt a i x).map encT).flatten])) :
    CallP Tryz.prog GS 42 [.sl 33 b 0 n n (n * 33), .int .i64 i, .sl 33 bv 0 1 1 33] l (c := ⟨K⟩) := by
  have hbl := get_lt hb
  have hs := ins_callS (P := Tryz.prog) (G := GS) (h := HL l) insL42 (by kernel_rfl) (by kernel_rfl) (show bytesT Tryz.prog 77 = some 48 by kernel_rfl) (by omega) (by omega) (by kernel_rfl) (b := b) (bv := bv) (len := n) (cap := n) (i := i) (HL_cells.2 hb) (HL_cells.2 hbv) hne hi (Nat.le_refl _) (by unfold roomMax; omega)
  rw [HL_n, HL_set _ hbl, HL_push, Nat.max_eq_right (by omega)] at hs
  refine ⟨_, _, .ext hs, by simp, ?_⟩
  have hfl := flatT_len ha
  have e2 : a.map encT = (a.take i).map encT ++ (a.drop i).map encT := by rw [← List.map_append, List.take_append_drop]
  have hti : ((a.take i).map encT).flatten.length = i * 33 := by
    rw [flatT_len (fun t ht => ha t (List.mem_of_mem_take ht)), List.length_take, Nat.min_eq_left (by omega)]
  have hdi : ((a.drop i).map encT).flatten.length = (n - i) * 33 := by
    rw [flatT_len (fun t ht => ha t (List.mem_of_mem_drop ht)), List.length_drop, hn]
  have hrow : insRow 33 (a.map encT).flatten (encT x) i n = ((insAt a i x).map encT).flatten := by
    unfold insRow insAt
    have h1 : ((a.map encT).flatten).take (i * 33) = ((a.take i).map encT).flatten := by
      rw [e2, List.flatten_append, List.take_append_of_le_length (by omega), List.take_of_length_le (by omega)]
    have h2 : ((a.map encT).flatten).drop (i * 33) = ((a.drop i).map encT).flatten := by
      rw [e2, List.flatten_append, List.drop_append_of_le_length (by omega), List.drop_of_length_le (by omega), List.nil_append]
    have h3 : (((a.drop i).map encT).flatten).take ((n - i) * 33) = ((a.drop i).map encT).flatten := List.take_of_length_le (by omega)
    have h4 : ((a.map encT).flatten).drop ((n + 1) * 33) = [] := List.drop_of_length_le (by rw [hfl, hn]; omega)
    rw [h1, h2, h3, h4, List.append_nil]
    simp
  rw [hrow]
  exact hK
theorem insN_own {l : Hl} {bv : Nat} {x : Tg} (hbv : l[bv]? = some (.cells 33 (encT x))) {K : CV → Hl → Prop} (hK : K (.sl 33 l.length 0 1 1 33) (l ++ [.cells 33 (encT x)])) :
    CallP Tryz.prog GS 42 [.nilS, .int .i64 0, .sl 33 bv 0 1 1 33] l (c := ⟨K⟩) := by
  have hs := ins_callN (P := Tryz.prog) (G := GS) (h := HL l) insL42 (by kernel_rfl) (by kernel_rfl) (show bytesT Tryz.prog 77 = some 48 by kernel_rfl) (by omega) (by omega) (by kernel_rfl) (bv := bv) (HL_cells.2 hbv) (by unfold roomMax; omega)
  rw [HL_n, HL_push] at hs
  exact ⟨_, _, .ext hs, by simp, hK⟩
structure Gx (j : Nat) (l l' : Hl) : Prop where
  le : l.length ≤ l'.length
  same : ∀ b, b < l.length → b ≠ j → l'[b]? = l[b]?
theorem Gx.refl (j : Nat) (l : Hl) : Gx j l l := ⟨Nat.le_refl _, fun _ _ _ => rfl⟩
theorem Gx.trans {j : Nat} {a b c : Hl} (h1 : Gx j a b) (h2 : Gx j b c) : Gx j a c := ⟨by have := h1.le; have := h2.le; omega, fun x hx hj => by rw [h2.same x (by have := h1.le; omega) hj]; exact h1.same x hx hj⟩
def CondP (g : FuncId) (cap : List CV) (j : Nat) (l0 : Hl) (xs : List Tg) (p : Tg → Bool) : Prop :=
  ∀ x ∈ xs, ∀ l, Gx j l0 l → ∀ K : CV → Hl → Prop, (∀ l', l.length ≤ l'.length → (∀ b, b < l.length → l'[b]? = l[b]?) → K (.bool (p x)) l') → CallP Tryz.prog GS g ([] ++ [.ag (encT x)] ++ cap) l (c := ⟨K⟩)
structure IxI (l0 : Hl) (v : CV) (g : FuncId) (cap : List CV) (xs : List Tg) (p : Tg → Bool) (k : Nat) (σ : Sg) (l : Hl) : Prop where
  g0 : σ 0 = v
  g1 : σ 1 = .fn g [] cap
  g7 : σ 7 = .int .i64 xs.length
  g8 : σ 8 = .int .i64 k
  hs : ∀ (j : Nat) (z : Tg), j < k → xs[j]? = some z → p z = false
  le : l0.length ≤ l.length
  same : ∀ b, b < l0.length → l[b]? = l0[b]?
theorem indexT_own {g : FuncId} {cap : List CV} {j : Nat} {l : Hl} {v : CV} {xs : List Tg} {p : Tg → Bool} (hg : funOkB Tryz.prog g = true) (ho : OwnS 33 l v j (xs.map encT)) (hz : okTs xs) (hn : xs.length ≤ 1000000) (hp : CondP g cap j l xs p)
    {K : CV → Hl → Prop} (hK : ∀ n l', (n = -1 ∧ (∀ z ∈ xs, p z = false) ∨ ∃ k : Nat, n = (k : Int) ∧ k < xs.length ∧ (∀ (i : Nat) (z : Tg), i < k → xs[i]? = some z → p z = false) ∧ ∀ y, xs[k]? = some y → p y = true) → l.length ≤ l'.length → (∀ b, b < l.length → l'[b]? = l[b]?) → K (.int .i64 n) l') :
    CallP Tryz.prog GS 79 [v, .fn g [] cap] l (c := ⟨K⟩) := by
  apply call_intro c79_eq r79_eq
  unfold c79 r79
  have hlen := ho.len
  rw [List.length_map] at hlen
  simp [hlen]
  refine loop_up xs.length (IxI l v g cap xs p) ?_ ⟨by simp, by simp, by simp, by simp, fun j z h => by omega, Nat.le_refl _, fun _ _ => rfl⟩
  rintro k σ l1 hk ⟨g0, g1, g7, g8, hs, hle, hsm⟩
  obtain ⟨σ, rfl⟩ := upds4 g0 g1 g7 g8
  clear g0 g1 g7 g8
  unfold l79_0
  simp
  refine kIf_intro (fun h => ?_) (fun h => ?_)
  · simp only [decide_eq_true_eq] at h
    obtain ⟨y, hy, hym⟩ := get_of (l := xs) (k := k) (by omega)
    have e1 : IntKind.i64.wrap ((k : Int) + 1) = ((k + 1 : Nat) : Int) := by rw [IntKind.wrap_i64]; omega
    have ho1 : OwnS 33 l1 v j (xs.map encT) := ho.frame fun hj => hsm j hj
    obtain ⟨q, cs, o, a1, a2, a3, a4⟩ := ho1.q.get (k := .i64) (i := k) (e := encT y) (by rw [List.getElem?_map, hy]; rfl)
    simp [a1, a2, a3, a4]
    refine ⟨hg, ?_⟩
    have := hp y hym l1 ⟨hle, fun b hb _ => hsm b hb⟩
    simp at this
    refine this _ fun l2 h1 h2 => ?_
    cases h5 : p y with
    | true =>
      simp
      refine hK _ _ (.inr ⟨k, rfl, h, fun i z hi hz => hs i z hi hz, fun w hw => ?_⟩) (by omega) (fun b hb => by rw [h2 b (by omega)]; exact hsm b hb)
      rw [hy] at hw; obtain rfl := Option.some.inj hw; exact h5
    | false =>
      simp [e1]
      refine ⟨by omega, by simp, by simp, by simp, by simp, fun i z hi hz => ?_, by omega, fun b hb => by rw [h2 b (by omega)]; exact hsm b hb⟩
      by_cases hik : i = k
      · rw [hik, hy] at hz; obtain rfl := Option.some.inj hz; exact h5
      · exact hs i z (by omega) hz
  · simp [h]
    have hk2 : k = xs.length := by simp at h; omega
    refine hK _ _ (.inl ⟨rfl, fun z hz => ?_⟩) hle hsm
    obtain ⟨i, hi⟩ := List.mem_iff_getElem?.1 hz
    exact hs i z (by rw [hk2]; exact (List.getElem?_eq_some_iff.1 hi).1) hi
structure DelI (l0 : Hl) (v : CV) (g : FuncId) (cap : List CV) (j : Nat) (xs : List Tg) (p : Tg → Bool) (k : Nat) (σ : Sg) (l : Hl) : Prop where
  g0 : σ 0 = v
  g1 : σ 1 = .fn g [] cap
  g6 : σ 6 = .int .i64 k
  gx : Gx j l0 l
  ex : ∃ (q : Nat) (ys : List Tg), σ 5 = .int .i64 (q : Int) ∧ OwnS 33 l v j (ys.map encT) ∧ ys.length = xs.length ∧ okTs ys ∧ ys.take q = (xs.take k).filter (fun t => !p t) ∧ q < k ∧ ∀ t, k ≤ t → ys[t]? = xs[t]?
theorem filter_all {p : Tg → Bool} {l : List Tg} (h : ∀ z ∈ l, p z = false) : l.filter (fun t => !p t) = l := by
  rw [List.filter_eq_self]
  intro a ha; rw [h a ha]; rfl
theorem filter_take {p : Tg → Bool} {l : List Tg} {k : Nat} (h : ∀ (i : Nat) (z : Tg), i < k → l[i]? = some z → p z = false) : (l.take k).filter (fun t => !p t) = l.take k := by
  refine filter_all fun z hz => ?_
  obtain ⟨i, hi⟩ := List.mem_iff_getElem?.1 hz
  have hil := (List.getElem?_eq_some_iff.1 hi).1
  rw [List.length_take] at hil
  rw [List.getElem?_take_of_lt (by omega)] at hi
  exact h i z (by omega) hi
theorem filter_step {p : Tg → Bool} {l : List Tg} {k : Nat} {y : Tg} (h : l[k]? = some y) : (l.take (k + 1)).filter (fun t => !p t) = (l.take k).filter (fun t => !p t) ++ (if p y then [] else [y]) := by
  rw [List.take_add_one, h, List.filter_append]
  cases hp : p y <;> simp [hp]
set_option maxHeartbeats 1000000 in
theorem deleteT_own {g : FuncId} {cap : List CV} {j : Nat} {l : Hl} {v : CV} {xs : List Tg} {p : Tg → Bool} (hg : funOkB Tryz.prog g = true) (ho : OwnS 33 l v j (xs.map encT)) (hz : okTs xs) (hn : xs.length ≤ 1000000) (hp : CondP g cap j l xs p)
    {K : CV → Hl → Prop} (hK : ∀ r l', OwnS 33 l' r j ((xs.filter fun t => !p t).map encT) → Gx j l l' → isNilS r = isNilS v → K r l') :
    CallP Tryz.prog GS 43 [v, .fn g [] cap] l (c := ⟨K⟩) := by
  apply call_intro c43_eq r43_eq
  unfold c43 r43
  have hlen := ho.len
  rw [List.length_map] at hlen
  simp
  refine indexT_own hg ho hz hn hp fun n l1 hcase hle hsm => ?_
  rcases hcase with ⟨rfl, hall⟩ | ⟨k0, rfl, hk0, hlo, hat⟩
  · simp
    refine hK _ _ ?_ ⟨hle, fun b hb _ => hsm b hb⟩ rfl
    rw [filter_all hall]
    exact ho.frame fun hj => hsm j hj
  · have hne : ¬ ((k0 : Int) = -1) := by omega
    have e1 : IntKind.i64.wrap ((k0 : Int) + 1) = ((k0 + 1 : Nat) : Int) := by rw [IntKind.wrap_i64]; omega
    have ho1 : OwnS 33 l1 v j (xs.map encT) := ho.frame fun hj => hsm j hj
    have hv : isNilS v = false := by
      cases hnv : isNilS v with
      | false => rfl
      | true =>
        have := isNil_iff.1 hnv
        subst this
        have := ho.q.nil_of
        rw [List.map_eq_nil_iff] at this
        rw [this] at hk0; simp at hk0
    simp [hne, e1]
    refine loop_up (xs.length - (k0 + 1)) (fun m => DelI l v g cap j xs p (k0 + 1 + m)) ?_ ⟨by simp, by simp, by simp, ⟨hle, fun b hb _ => hsm b hb⟩, k0, xs, by simp, ho1, rfl, hz, ?_, by omega, fun _ _ => rfl⟩
    · rintro m σ l2 hm ⟨g0, g1, g6, hgx, q, ys, g5, hq, hyl, hyz, htk, hqk, hsame⟩
      obtain ⟨k, hk⟩ : ∃ k, k = k0 + 1 + m := ⟨_, rfl⟩
      rw [show k0 + 1 + (m + 1) = k + 1 by omega]
      rw [← hk] at g6 htk hqk hsame
      obtain ⟨σ, rfl⟩ := upds4 g0 g1 g5 g6
      clear g0 g1 g5 g6
      unfold l43_0
      have hlq := hq.len
      rw [List.length_map, hyl] at hlq
      by_cases hlt : k < xs.length
      · have hlt' : (k : Int) < (xs.length : Int) := by omega
        obtain ⟨y, hy, hym⟩ := get_of (l := xs) (k := k) hlt
        have hyid := hz y hym
        have hYl := encT_len hyid
        have hsp := spT hYl
        have e2 : IntKind.i64.wrap ((k : Int) + 1) = ((k + 1 : Nat) : Int) := by rw [IntKind.wrap_i64]; omega
        have e3 : IntKind.i64.wrap ((q : Int) + 1) = ((q + 1 : Nat) : Int) := by rw [IntKind.wrap_i64]; omega
        have hyk : ys[k]? = some y := by rw [hsame k (Nat.le_refl _)]; exact hy
        obtain ⟨pp, cs, o, a1, a2, a3, a4⟩ := hq.q.get (k := .i64) (i := k) (e := encT y) (by rw [List.getElem?_map, hyk]; rfl)
        have hgx3 : Gx j l (l2 ++ [CB.cells 33 (encT y)]) := ⟨by have := hgx.le; simp; omega, fun b hb hbj => by rw [List.getElem?_append_left (by have := hgx.le; omega)]; exact hgx.same b hb hbj⟩
        have hcall := hp y hym _ hgx3
        have hfs := filter_step (p := p) hy
        have hsetL := fun (l4 : Hl) (h : OwnS 33 l4 v j (ys.map encT)) => ow_set (X := .ag (encT y)) rfl h (fun t ht => encT_len (hyz t ht)) (k := q) (x := y) (by omega) hYl
        simp at hcall
        obtain ⟨Y, hY⟩ : ∃ Y, Y = encT y := ⟨_, rfl⟩
        rw [← hY] at hYl hsp a4 hcall hsetL
        simp [hlq, hlt', a1, a2, a3, a4, hYl, hsp, List.take_of_length_le]
        refine ⟨hg, ?_⟩
        refine hcall _ fun l4 h1 h2 => ?_
        have hl24 : l2.length < l4.length := by omega
        have hs24 : ∀ b, b < l2.length → l4[b]? = l2[b]? := fun b hb => by rw [h2 b (by omega), List.getElem?_append_left hb]
        have hq4 : OwnS 33 l4 v j (ys.map encT) := hq.frame fun hj => hs24 j hj
        have hat4 : l4[l2.length]? = some (.cells 33 Y) := by rw [h2 _ (by simp)]; simp
        have hgx4 : Gx j l l4 := ⟨by have := hgx.le; omega, fun b hb hbj => by rw [hs24 b (by have := hgx.le; omega)]; exact hgx.same b hb hbj⟩
        cases h5 : p y with
        | true =>
          rw [h5, if_pos rfl, List.append_nil] at hfs
          simp [e2]
          refine ⟨by omega, by simp, by simp, by simp, hgx4, q, ys, by simp, hq4, hyl, hyz, by rw [hfs]; exact htk, by omega, fun t ht => hsame t (by omega)⟩
        | false =>
          rw [h5, if_neg (by simp)] at hfs
          obtain ⟨p5, l5, z1, z2, z3, z4, z5⟩ := hsetL l4 hq4
          simp [hat4, hYl, z1, z2, e2, e3, List.take_of_length_le]
          refine ⟨by omega, by simp, by simp, by simp, ⟨by have := hgx4.le; omega, fun b hb hbj => by rw [z5 b hbj]; exact hgx4.same b hb hbj⟩, q + 1, ys.set q y, by simp, z3, by simp [hyl], fun t ht => ?_, ?_, by omega, fun t ht => ?_⟩
          · rcases List.mem_or_eq_of_mem_set ht with h | h
            · exact hyz _ h
            · rw [h]; exact hyid
          · have tl : (ys.take q).length = q := by rw [List.length_take]; omega
            rw [List.set_eq_take_append_cons_drop, if_pos (by omega), List.take_append, tl, List.take_of_length_le (by omega), show q + 1 - q = 1 by omega, hfs, ← htk]; simp
          · rw [List.getElem?_set_ne (by omega)]; exact hsame t (by omega)
      · have hlt' : ¬ (k : Int) < (xs.length : Int) := by omega
        have hkl : k = xs.length := by omega
        obtain ⟨v3, l3, r, z1, z2, z3, z4, z5, z6, z7⟩ := ow_cut (z := 33) (zr := CV.str [] :: rep 32 (.int .u8 0)) rfl hq (k := q) (by omega)
        simp [hlq, hlt', z1, z2, z3]
        rw [hkl, List.take_length] at htk
        rw [htk] at z4
        exact hK _ _ z4 ⟨by have := hgx.le; omega, fun b hb hbj => by rw [z7 b hbj]; exact hgx.same b hb hbj⟩ (by rw [z5, hv])
    · rw [List.take_add_one, List.filter_append, filter_take hlo]
      obtain ⟨y, hy, _⟩ := get_of (l := xs) (k := k0) hk0
      have := hat y hy
      rw [hy]; simp [this]
end Op
end Go.CM

/-
  Sets of tags: the order of tags; the program's Apply, walked.
-/
namespace Go.CM
open Go Go.Proofs
set_option linter.unusedVariables false
set_option linter.unusedSimpArgs false
set_option maxRecDepth 100000
namespace Op
open Sha
theorem sLt_trans {a b c : List UInt8} (h1 : sLt a b = true) (h2 : sLt b c = true) : sLt a c = true :=
  (sLt_iff _ _).2 (List.lt_trans ((sLt_iff _ _).1 h1) ((sLt_iff _ _).1 h2))
theorem sLt_irrefl (a : List UInt8) : sLt a a = false := by
  cases h : sLt a a with
  | false => rfl
  | true => exact absurd ((sLt_iff _ _).1 h) (List.lt_irrefl _)
theorem ltT_trans {a b c : Tg} (h1 : ltT a b = true) (h2 : ltT b c = true) : ltT a c = true := by
  unfold ltT at *
  by_cases e1 : a.key = b.key
  · rw [if_pos e1] at h1
    by_cases e2 : b.key = c.key
    · rw [if_pos e2] at h2
      rw [if_pos (e1.trans e2)]
      simp only [decide_eq_true_eq] at *
      exact cmpB_trans _ _ _ h1 h2
    · rw [if_neg e2] at h2
      rw [if_neg (fun h => e2 (e1.symm.trans h)), e1]; exact h2
  · rw [if_neg e1] at h1
    by_cases e2 : b.key = c.key
    · rw [if_neg (fun h => e1 (h.trans e2.symm)), ← e2]; exact h1
    · rw [if_neg e2] at h2
      have := sLt_trans h1 h2
      rw [if_neg (fun h => by rw [h, sLt_irrefl] at this; cases this)]; exact this
theorem ltT_irrefl (a : Tg) : ltT a a = false := by
  unfold ltT
  rw [if_pos rfl, cmpB_self]; rfl
theorem ltT_tri {a b : Tg} (h1 : ltT a b = false) (h2 : a ≠ b) : ltT b a = true := by
  unfold ltT at *
  by_cases e1 : a.key = b.key
  · rw [if_pos e1] at h1
    rw [if_pos e1.symm]
    have h3 := cmpB_swap a.id b.id
    have h4 := cmpB_cases a.id b.id
    simp only [decide_eq_false_iff_not, decide_eq_true_eq] at *
    have h5 : cmpB a.id b.id ≠ 0 := fun h => h2 (by
      have := cmpB_eq h
      cases a; cases b; simp_all)
    omega
  · rw [if_neg e1] at h1
    rw [if_neg (fun h => e1 h.symm)]
    rw [sLt_iff]
    have h3 : ¬ a.key < b.key := fun h => by rw [(sLt_iff _ _).2 h] at h1; cases h1
    by_cases h : b.key < a.key
    · exact h
    · exact absurd (List.le_antisymm (List.not_lt.1 h) (List.not_lt.1 h3)) e1
theorem good_err {l : List Tg} (h : tagErr l = 0) : l.length ≤ 60 ∧ goodTs l = true := by
  unfold tagErr at h
  split at h
  · cases h
  · split at h
    · rename_i h1 h2; exact ⟨by omega, h2⟩
    · cases h
theorem good_step {l : List Tg} (h : goodTs l = true) {i : Nat} {a b : Tg} (ha : l[i]? = some a) (hb : l[i + 1]? = some b) : ltT a b = true := by
  have h1 := (of_decide_eq_true h) (i + 1) (List.getElem?_eq_some_iff.1 hb).1
  unfold goodAt at h1
  rw [Nat.add_sub_cancel, tgAt_get ha, tgAt_get hb, Bool.and_eq_true] at h1
  simpa using h1.2
theorem good_lt {l : List Tg} (h : goodTs l = true) : ∀ {d i : Nat} {a b : Tg}, l[i]? = some a → l[i + d + 1]? = some b → ltT a b = true
  | 0, i, a, b, ha, hb => good_step h ha hb
  | d + 1, i, a, b, ha, hb => by
    obtain ⟨c, hc, _⟩ := get_of (l := l) (k := i + d + 1) (by have := (List.getElem?_eq_some_iff.1 hb).1; omega)
    exact ltT_trans (good_lt h ha hc) (good_step h hc hb)
theorem good_mono {l : List Tg} (h : goodTs l = true) (x : Tg) : monoT l x := by
  intro i j a b hij ha hb hlt
  by_cases he : i = j
  · subst he; rw [ha] at hb; cases hb; exact hlt
  · exact ltT_trans (good_lt h (d := j - i - 1) ha (by rw [show i + (j - i - 1) + 1 = j by omega]; exact hb)) hlt
def addW (s : Tgs) (x : Tg) : Tgs × Int := if foundT s.l x then (none, 14) else if s.l.length = 60 then (none, 18) else (some (insAt s.l (cntT s.l x) x), 0)
def struck (o : Opr) (b : Ids) (t : Tg) : Bool := decide (t.key = o.act.key) && decide (t.id ∈ b.l)
def svMap (f : List Tg → List Tg) (s : Tgs) : Tgs := match s with | none => none | some l => some (f l)
def appW (s : Tgs) (o : Opr) (b : Ids) : Tgs × Int :=
  if tagErr s.l = 0 then (if opErr o = 0 then (if 60 < b.l.length then (none, 4) else
    (if o.act.kind = 2#8 then addW s ⟨o.act.key, idOf o⟩ else if o.act.kind = 3#8 then (svMap (fun l => l.filter fun t => !struck o b t) s, 0) else (s, 0))) else (none, 8)) else (none, tagErr s.l)
theorem fn_struck : funOkB Tryz.prog 44 = true := by kernel_rfl
theorem struck_cond (o : Opr) (b : Ids) (hb : okIds b) (hbl : b.l.length ≤ 1000000) {j bo bb : Nat} {l : Hl} {xs : List Tg} (hz : okTs xs) (h1 : l[bo]? = some (.cells 11 (encOp o))) (h2 : l[bb]? = some (.cells 1 [encIds b])) (hj1 : bo ≠ j) (hj2 : bb ≠ j) :
    CondP 44 [.ptr bo 0 11, .ptr bb 0 1] j l xs (struck o b) := by
  intro x hx l1 hg K hK
  apply call_intro c44_eq r44_eq
  unfold c44 r44
  have h1' : l1[bo]? = some (.cells 11 (encOp o)) := by rw [hg.same _ (get_lt h1) hj1]; exact h1
  have h2' : l1[bb]? = some (.cells 1 [encIds b]) := by rw [hg.same _ (get_lt h2) hj2]; exact h2
  have hl1 := get_lt h1'
  have hl2 := get_lt h2'
  have hid := eId_len (hz x hx)
  have hcb := closed_ids b
  have hcx := closed_eId x.id
  have hin := wInI_ok b hb hbl x.id (hz x hx)
  have g1 : ∀ c : CB, (l1 ++ [c])[bo]? = some (.cells 11 (encOp o)) := fun c => by rw [List.getElem?_append_left hl1]; exact h1'
  have g2 : ∀ c : CB, (l1 ++ [c])[bb]? = some (.cells 1 [encIds b]) := fun c => by rw [List.getElem?_append_left hl2]; exact h2'
  have g1' := g1
  simp [encOp] at g1'
  by_cases hk : x.key = o.act.key
  · simp [encT, g1', g2, hk, hid, List.take_of_length_le]
    refine pure_call hin (by simp [closedL, CV.closed, hcb, hcx]) ?_
    simp
    have : struck o b x = decide (x.id ∈ b.l) := by unfold struck; rw [decide_eq_true hk, Bool.true_and]
    rw [← this]
    exact hK _ (by simp) fun b hb => List.getElem?_append_left hb
  · simp [encT, g1', hk]
    have : struck o b x = false := by unfold struck; rw [decide_eq_false hk, Bool.false_and]
    rw [← this]
    exact hK _ (by simp) fun b hb => List.getElem?_append_left hb
end Op
end Go.CM

/-
  Sets of tags: the program's Apply, walked.
-/
namespace Go.CM
open Go Go.Proofs
set_option linter.unusedVariables false
set_option linter.unusedSimpArgs false
set_option maxRecDepth 100000
namespace Op
open Sha
theorem e_2 (o : Opr) : ((u o.act.kind : Int) = 2) ↔ o.act.kind = 2#8 := u_inj o.act.kind 2#8
theorem e_3 (o : Opr) : ((u o.act.kind : Int) = 3) ↔ o.act.kind = 3#8 := u_inj o.act.kind 3#8
theorem idOf_len (o : Opr) : (idOf o).length = 32 := by
  unfold idOf; split
  · exact sha_length _
  · simp
set_option maxHeartbeats 1000000 in
theorem wApply_ok (s : Tgs) (o : Opr) (b : Ids) (hs : okTs s.l) (hsl : s.l.length ≤ 1000000) (ho : OkOp o) (hb : okIds b) (hbl : b.l.length ≤ 1000000) :
    PureC Tryz.prog GS 11 [.ag [encTs s], .ag (encOp o), encIds b] (.tu [.ag [encTs (appW s o b).1], .int .i64 (appW s o b).2]) := by
  refine pure_of Tryz.checked.mixed GS_closed ?_
  apply call_intro c11_eq r11_eq
  unfold c11 r11
  have hcs := closed_Ts s
  have hco := closed_op o
  have hcb := closed_ids b
  have hck := wTCheck_ok s hs hsl
  have hid := wID_ok o ho
  have hil := idOf_len o
  have hbc : (encIds b).cells = some [encIds b] := by cases b <;> rfl
  have hblen : lenM (.sl 32) (encIds b) = some (.int .i64 b.l.length) := by simp [encIds]
  by_cases h0 : tagErr s.l = 0
  · by_cases h1 : opErr o = 0
    · obtain ⟨D, hD⟩ : ∃ D, D = (idOf o).map e8 := ⟨_, rfl⟩
      have hDl : D.length = 32 := by rw [hD, List.length_map, hil]
      have hDc : closedL D = true := by rw [hD]; exact closedL_map e8 (fun _ => rfl) _
      have hspD : splice (rep 32 (.int .u8 0)) 0 D = D := splice_full (by rw [hDl]; rfl)
      unfold idC at hid
      rw [← hD] at hid
      simp [encOp, hbc]
      refine pure_call hck (by simp [closedL, CV.closed, hcs]) ?_
      simp [h0]
      refine pure_call hid (show closedL [CV.ag (encOp o)] = true by simp [closedL, CV.closed, hco]) ?_
      simp [h1, hDl, hspD, hblen, List.take_of_length_le]
      by_cases h2 : 60 < b.l.length
      · have h2' : (60 : Int) < (b.l.length : Int) := by omega
        have ha : appW s o b = (none, 4) := by unfold appW; rw [if_pos h0, if_pos h1, if_pos h2]
        rw [ha]
        simp [h2']
        exact rd_eq rfl rfl
      · have h2' : ¬ (60 : Int) < (b.l.length : Int) := by omega
        simp [h2']
        have hgd := (good_err h0).2
        obtain ⟨x, hx⟩ : ∃ x : Tg, x = ⟨o.act.key, idOf o⟩ := ⟨_, rfl⟩
        have hxi : x.id.length = 32 := by rw [hx]; exact hil
        have hmo := good_mono hgd x
        have hX : encT x = .str o.act.key :: D := by rw [hx, hD]; rfl
        have hXl := encT_len hxi
        have hxc := closed_encT x
        rw [hX] at hXl
        have hspx := spT hXl
        refine cloneT_ob s hs hsl (fun hn => ?_) (fun a hsa => ?_)
        · subst hn
          by_cases k2 : o.act.kind = 2#8
          · have k2' := (e_2 o).2 k2
            have ha : appW none o b = addW none x := by unfold appW; rw [if_pos h0, if_pos h1, if_neg h2, if_pos k2, hx]
            have hse := search_ok none (by simp [okTs]) (by simp) x hxi hmo
            have hcnt : cntT (Sv.l (none : Tgs)) x = 0 := rfl
            have hfo : foundT (Sv.l (none : Tgs)) x = false := rfl
            have haw : addW none x = (some (insAt [] 0 x), 0) := rfl
            rw [hcnt, hfo, hX] at hse
            rw [ha, haw]
            simp [k2', hDl, hspD, hspx, List.take_of_length_le]
            refine pure_call hse (by simp [closedL, CV.closed, hDc, encTs, encS]) ?_
            simp [hDl, hspD, hspx, List.take_of_length_le]
            refine insN_own (bv := 7) (x := x) (by rw [hX]; rfl) ?_
            simp
            have hown : ∀ l : Hl, l[8]? = some (.cells 33 (encT x)) → Rd l (.sl 33 8 0 1 1 33) (encTs (some (insAt [] 0 x))) := fun l h => by
              have h1 := own_ts (l := l) (b := 8) (n := 1) (a := [x]) (by intro t ht; simp at ht; subst ht; exact hxi) rfl (by simpa using h)
              exact h1.q.rd_enc closed_encT (some [x]) rfl rfl
            exact rd_tu2 (rd_ag1 (hown _ (by simp))) (.same _ rfl)
          · have k2' : ¬ (u o.act.kind : Int) = 2 := fun h => k2 ((e_2 o).1 h)
            by_cases k3 : o.act.kind = 3#8
            · have k3' := (e_3 o).2 k3
              have ha : appW none o b = (none, 0) := by unfold appW; rw [if_pos h0, if_pos h1, if_neg h2, if_neg k2, if_pos k3]; rfl
              rw [ha]
              simp [k2', k3']
              refine deleteT_own (j := 100) (xs := []) (p := struck o b) fn_struck (.nil 100) (by simp [okTs]) (by simp) (fun x hx => by cases hx) fun r l' hr hgx hnr => ?_
              obtain rfl := isNil_iff.1 hnr
              have q5 : l'[5]? = some (.cells 1 [.nilS]) := by rw [hgx.same 5 (by simp) (by omega)]; rfl
              have q3 : l'[3]? = some (.cells 1 [.nilS]) := by rw [hgx.same 3 (by simp) (by omega)]; rfl
              have q6 : 6 ≤ l'.length := by have := hgx.le; simpa using this
              have s5 : (l'.set 5 (.cells 1 [.nilS]))[5]? = some (.cells 1 [.nilS]) := List.getElem?_set_self (by omega)
              have s3 : (l'.set 5 (.cells 1 [.nilS]))[3]? = some (.cells 1 [.nilS]) := by rw [List.getElem?_set_ne (by omega)]; exact q3
              have s33 : ((l'.set 5 (.cells 1 [.nilS])).set 3 (.cells 1 [.nilS]))[3]? = some (.cells 1 [.nilS]) := List.getElem?_set_self (by simp; omega)
              simp [q5, s5, s3, s33]
              exact rd_eq rfl rfl
            · have k3' : ¬ (u o.act.kind : Int) = 3 := fun h => k3 ((e_3 o).1 h)
              have ha : appW none o b = (none, 0) := by unfold appW; rw [if_pos h0, if_pos h1, if_neg h2, if_neg k2, if_neg k3]
              rw [ha]
              simp [k2', k3']
              exact rd_eq rfl rfl
        · subst hsa
          obtain ⟨n, hn⟩ : ∃ n, n = a.length := ⟨_, rfl⟩
          have hn1 : n ≤ 1000000 := by rw [hn]; exact hsl
          rw [← hn]
          have hoa : ∀ (l : Hl) (b : Nat), l[b]? = some (.cells (n * 33) (a.map encT).flatten) → OwnS 33 l (.sl 33 b 0 n n (n * 33)) b (a.map encT) := fun l b h => own_ts hs hn.symm h
          have hslen : lenM (.sl 33) (.sl 33 5 0 n n (n * 33)) = some (.int .i64 n) := rfl
          by_cases k2 : o.act.kind = 2#8
          · have k2' := (e_2 o).2 k2
            have ha : appW (some a) o b = addW (some a) x := by unfold appW; rw [if_pos h0, if_pos h1, if_neg h2, if_pos k2, hx]
            have hse := search_ok (some a) hs hsl x hxi hmo
            rw [hX] at hse
            rw [ha]
            simp [k2', hDl, hspD, hspx, List.take_of_length_le]
            refine pure_callB hse (.cons ((hoa _ 5 (by rfl)).rdH_enc closed_encT (some a) rfl rfl) (.cons (.same _ (by rw [hX] at hxc; exact hxc)) (.cons (.same _ rfl) .nil))) rfl ?_
            cases hfo : foundT (Sv.l (some a : Tgs)) x with
            | true =>
              have haw : addW (some a) x = (none, 14) := by unfold addW; rw [hfo]; rfl
              rw [haw]
              simp
              exact rd_eq rfl rfl
            | false =>
              by_cases h60 : n = 60
              · have haw : addW (some a) x = (none, 18) := by
                  unfold addW; rw [hfo, if_neg (by simp), if_pos (show (Sv.l (some a)).length = 60 by rw [← h60, hn]; rfl)]
                rw [haw]
                have h60' : (n : Int) = 60 := by omega
                simp [h60]
                exact rd_eq rfl rfl
              · have haw : addW (some a) x = (some (insAt a (cntT a x) x), 0) := by
                  unfold addW; rw [hfo, if_neg (by simp), if_neg (show ¬ (Sv.l (some a)).length = 60 by rw [show (Sv.l (some a)).length = n from hn.symm]; exact h60)]; rfl
                rw [haw]
                have h60' : ¬ (n : Int) = 60 := by omega
                have hcn : cntT a x ≤ n := by rw [hn]; unfold cntT; exact (List.takeWhile_sublist _).length_le
                simp [hslen, h60', hDl, hspD, hspx, List.take_of_length_le]
                refine insT_own (b := 5) (bv := 8) (a := a) (x := x) hs hxi hn.symm rfl (by rw [hX]; rfl) (by omega) hcn hn1 ?_
                simp
                have hown : ∀ l : Hl, l[9]? = some (.cells ((n + 1) * 33) ((insAt a (cntT a x) x).map encT).flatten) → Rd l (.sl 33 9 0 (n + 1) (n + 1) ((n + 1) * 33)) (encTs (some (insAt a (cntT a x) x))) := fun l h => by
                  have h1 := own_ts (l := l) (b := 9) (n := n + 1) (a := insAt a (cntT a x) x) (insAt_ok hs hxi) (by rw [insAt_len, hn]) h
                  exact h1.q.rd_enc closed_encT (some _) rfl rfl
                exact rd_tu2 (rd_ag1 (hown _ (by simp))) (.same _ rfl)
          · have k2' : ¬ (u o.act.kind : Int) = 2 := fun h => k2 ((e_2 o).1 h)
            by_cases k3 : o.act.kind = 3#8
            · have k3' := (e_3 o).2 k3
              have ha : appW (some a) o b = (some (a.filter fun t => !struck o b t), 0) := by unfold appW; rw [if_pos h0, if_pos h1, if_neg h2, if_neg k2, if_pos k3]; rfl
              rw [ha]
              simp [k2', k3']
              refine deleteT_own (j := 5) (xs := a) (p := struck o b) fn_struck (hoa _ 5 (by rfl)) hs hsl (struck_cond o b hb hbl (bo := 1) (bb := 2) hs rfl rfl (by omega) (by omega)) fun r l' hr hgx hnr => ?_
              have hrc := hr.cells
              have q6 : l'[6]? = some (.cells 1 [.sl 33 5 0 n n (n * 33)]) := by rw [hgx.same 6 (by simp) (by omega)]; rfl
              have q3 : l'[3]? = some (.cells 1 [.nilS]) := by rw [hgx.same 3 (by simp) (by omega)]; rfl
              have q7 : 7 ≤ l'.length := by have := hgx.le; simpa using this
              have s5 : (l'.set 6 (.cells 1 [r]))[6]? = some (.cells 1 [r]) := List.getElem?_set_self (by omega)
              have s3 : (l'.set 6 (.cells 1 [r]))[3]? = some (.cells 1 [.nilS]) := by rw [List.getElem?_set_ne (by omega)]; exact q3
              have s33 : ((l'.set 6 (.cells 1 [r])).set 3 (.cells 1 [r]))[3]? = some (.cells 1 [r]) := List.getElem?_set_self (by simp; omega)
              simp [hrc, q6, s5, s3, s33, splice]
              have hr2 : OwnS 33 ((l'.set 6 (.cells 1 [r])).set 3 (.cells 1 [r])) r 5 ((a.filter fun t => !struck o b t).map encT) := hr.frame fun _ => by
                rw [List.getElem?_set_ne (by omega), List.getElem?_set_ne (by omega)]
              exact rd_tu2 (rd_ag1 (hr2.q.rd_enc closed_encT (some _) (by rw [hnr]; rfl) rfl)) (.same _ rfl)
            · have k3' : ¬ (u o.act.kind : Int) = 3 := fun h => k3 ((e_3 o).1 h)
              have ha : appW (some a) o b = (some a, 0) := by unfold appW; rw [if_pos h0, if_pos h1, if_neg h2, if_neg k2, if_neg k3]
              rw [ha]
              simp [k2', k3']
              exact rd_tu2 (rd_ag1 ((hoa _ 5 (by simp)).q.rd_enc closed_encT (some a) rfl rfl)) (.same _ rfl)
    · have ha : appW s o b = (none, 8) := by unfold appW; rw [if_pos h0, if_neg h1]
      rw [ha]
      have hspl : splice (rep 32 (.int .u8 0)) 0 ((idOf o).map e8) = (idOf o).map e8 := splice_full (by rw [List.length_map, hil]; rfl)
      simp [encOp, hbc]
      refine pure_call hck (by simp [closedL, CV.closed, hcs]) ?_
      simp [h0]
      refine pure_call hid (show closedL [CV.ag (encOp o)] = true by simp [closedL, CV.closed, hco]) ?_
      simp [h1, idC, hil, hspl, hblen]
      exact rd_eq rfl rfl
  · have ha : appW s o b = (none, tagErr s.l) := by unfold appW; rw [if_neg h0]
    rw [ha]
    simp [encOp, hbc]
    refine pure_call hck (by simp [closedL, CV.closed, hcs]) ?_
    simp [h0]
    exact rd_eq rfl rfl
end Op
end Go.CM

/-
  Sets of tags: the reference's put and Apply, walked.
-/
namespace Go.CM
open Go Go.Proofs
set_option linter.unusedVariables false
set_option linter.unusedSimpArgs false
set_option maxRecDepth 100000
namespace Op
open Sha
def posR (l : List Tg) (x : Tg) : Nat → Nat
  | 0 => 0
  | i + 1 => if ltT x (tgAt l i) then posR l x i else i + 1
theorem posR_le (l : List Tg) (x : Tg) : ∀ i, posR l x i ≤ i
  | 0 => Nat.le_refl _
  | i + 1 => by
    unfold posR
    split
    · have := posR_le l x i; omega
    · exact Nat.le_refl _
theorem insAt_get {l : List Tg} {i : Nat} {x : Tg} (hi : i ≤ l.length) : (insAt l i x)[i]? = some x := by
  unfold insAt
  rw [List.getElem?_append_right (by rw [List.length_take]; omega), List.length_take, Nat.min_eq_left hi]; simp
structure PutI (l : Hl) (a : List Tg) (x : Tg) (m : Nat) (σ : Sg) (l1 : Hl) : Prop where
  ex : ∃ (i : Nat) (v : CV), i = m ∧ i ≤ a.length ∧ σ 5 = v ∧ σ 6 = .int .i64 (i : Int) ∧ Ob 33 encT l l1 v (insAt a i x) false ∧ posR a x i = posR a x a.length
end Op
end Go.CM

/-
  Sets of tags: the reference's Apply, walked.
-/
namespace Go.CM
open Go Go.Proofs
set_option linter.unusedVariables false
set_option linter.unusedSimpArgs false
set_option maxRecDepth 100000
namespace Op
open Sha
def keepR (o : Opr) (b : Ids) (t : Tg) : Bool := decide (¬ o.act.kind = 3#8) || (decide (¬ t.key = o.act.key) || !decide (t.id ∈ b.l))
structure AddI (s : Tgs) (x : Tg) (L : Hl) (k : Nat) (σ : Sg) (l : Hl) : Prop where
  hl : l = L
  g3 : σ 3 = .ptr 0 0 1
  g6 : σ 6 = .ptr 2 0 1
  g8 : σ 8 = .ptr 3 0 33
  g9 : σ 9 = .int .i64 k
  hs : ∀ (j : Nat) (t : Tg), j < k → s.l[j]? = some t → t ≠ x
structure StrH (s : Tgs) (o : Opr) (b : Ids) (k : Nat) (l : Hl) : Prop where
  ex : ∃ v j, l[3]? = some (.cells 1 [v]) ∧ OwnS 33 l v j (((s.l.take k).filter (keepR o b)).map encT) ∧ (v = .nilS ∨ 4 ≤ j) ∧ isNilS v = ((s.l.take k).filter (keepR o b)).isEmpty
  len : 4 ≤ l.length
  p0 : l[0]? = some (.cells 1 [encTs s])
  p1 : l[1]? = some (.cells 11 (encOp o))
  p2 : l[2]? = some (.cells 1 [.nilS])
structure StrI (s : Tgs) (o : Opr) (b : Ids) (k : Nat) (σ : Sg) (l : Hl) : Prop where
  g2 : σ 2 = encIds b
  g3 : σ 3 = .ptr 0 0 1
  g4 : σ 4 = .ptr 1 0 11
  g6 : σ 6 = .ptr 2 0 1
  g10 : σ 10 = .ptr 3 0 1
  g11 : σ 11 = .int .i64 k
  h : StrH s o b k l
theorem opWords (o : Opr) : encOp o = [e32 o.author, encIds o.preds, e64 o.stamp, e8 o.act.kind, .str o.act.key, e8 o.act.val.kind, .int .i64 o.act.val.num, e64 o.act.val.bits, .str o.act.val.text, e32 o.e, e32 o.s] := rfl
end Op
end Go.CM

/-
  Sets of tags: both ways agree, in plain words.
-/
namespace Go.CM
open Go Go.Proofs
set_option linter.unusedVariables false
set_option linter.unusedSimpArgs false
set_option maxRecDepth 100000
namespace Op
open Sha
theorem posR_hi (l : List Tg) (x : Tg) : ∀ (n i : Nat), posR l x n ≤ i → i < n → ltT x (tgAt l i) = true
  | 0, i, _, h => by omega
  | n + 1, i, h1, h2 => by
    unfold posR at h1
    split at h1
    · rename_i h
      by_cases hi : i = n
      · rw [hi]; exact h
      · exact posR_hi l x n i h1 (by omega)
    · omega
theorem posR_lo (l : List Tg) (x : Tg) : ∀ (n i : Nat), posR l x n = i + 1 → ltT x (tgAt l i) = false
  | 0, i, h => by cases h
  | n + 1, i, h1 => by
    unfold posR at h1
    split at h1
    · exact posR_lo l x n i h1
    · rename_i h
      obtain rfl : n = i := by omega
      exact Bool.eq_false_iff.2 h
theorem pos_cnt {l : List Tg} {x : Tg} (hg : goodTs l = true) (hx : x ∉ l) : posR l x l.length = cntT l x := by
  refine (cnt_of x (posR_le l x l.length) (fun t y ht hy => ?_) (fun y hy => ?_)).symm
  · obtain ⟨i, hi⟩ : ∃ i, posR l x l.length = i + 1 := ⟨posR l x l.length - 1, by omega⟩
    have hle := posR_le l x l.length
    obtain ⟨z, hz, hzm⟩ := get_of (l := l) (k := i) (by omega)
    have h1 := posR_lo l x l.length i hi
    rw [tgAt_get hz] at h1
    have h2 := ltT_tri h1 (fun h => hx (by rw [h]; exact hzm))
    exact good_mono hg x t i y z (by omega) hy hz h2
  · have hlt := (List.getElem?_eq_some_iff.1 hy).1
    have h1 := posR_hi l x l.length _ (Nat.le_refl _) hlt
    rw [tgAt_get hy] at h1
    cases h2 : ltT y x with
    | false => rfl
    | true => have := ltT_trans h1 h2; rw [ltT_irrefl] at this; cases this
theorem found_iff {l : List Tg} {x : Tg} (hg : goodTs l = true) : foundT l x = true ↔ x ∈ l := by
  unfold foundT
  rw [Bool.and_eq_true, decide_eq_true_eq, decide_eq_true_eq]
  constructor
  · rintro ⟨h1, h2⟩
    obtain ⟨z, hz, hzm⟩ := get_of (l := l) (k := cntT l x) h1
    rw [tgAt_get hz] at h2
    rw [← h2]; exact hzm
  · intro hm
    obtain ⟨j, hj⟩ := List.mem_iff_getElem?.1 hm
    have hlt := (List.getElem?_eq_some_iff.1 hj).1
    have hc := cnt_of x (l := l) (p := j) (by omega) (fun t y ht hy => good_lt hg (d := j - t - 1) hy (by rw [show t + (j - t - 1) + 1 = j by omega]; exact hj)) (fun y hy => by
      rw [hj] at hy; obtain rfl := Option.some.inj hy; exact ltT_irrefl _)
    rw [hc]
    exact ⟨hlt, tgAt_get hj⟩
end Op
end Go.CM

/-
  Sets of tags: OrsetDoes, walked.
-/
namespace Go.CM
open Go Go.Proofs Go.RowKit
set_option linter.unusedVariables false
set_option linter.unusedSimpArgs false
set_option maxRecDepth 100000
namespace Op
open Sha
theorem ty_tag {ts : List TypeId} {cs : List CV} (h : Ty Tryz.prog (77 :: ts) cs) : ∃ (t : Tg) (cs' : List CV), cs = encT t ++ cs' ∧ t.id.length = 32 ∧ Ty Tryz.prog ts cs' := by
  have h1 := ty_struct (fs := [9, 71]) (by kernel_rfl) h
  obtain ⟨s, _, rfl, h2⟩ := ty_str (by kernel_rfl) h1
  obtain ⟨x, cs', rfl, hx, h3⟩ := ty_idm h2
  exact ⟨⟨s, x⟩, cs', rfl, hx, h3⟩
theorem tyA_tags {ts : List TypeId} {cs : List CV} (h : TyA Tryz.prog (24 :: ts) cs) : ∃ (s : Tgs) (cs' : List CV), cs = .ag [encTs s] :: cs' ∧ okTs s.l ∧ TyA Tryz.prog ts cs' := by
  obtain ⟨c, cs', rfl, h1, h2⟩ := tyA_cons h
  obtain ⟨cs, rfl, h3⟩ := tyV_agg (by kernel_rfl) h1
  have h4 := ty_struct (fs := [22]) (by kernel_rfl) h3
  obtain ⟨s, _, rfl, _, ho, h5⟩ := ty_sl (e := 77) (z := 33) (enc := encT) (Q := fun t => t.id.length = 32) (by kernel_rfl) (by kernel_rfl) (fun r hr => by
    obtain ⟨x, _, rfl, hx, h3⟩ := ty_tag hr
    rw [ty_nil h3, List.append_nil]
    exact ⟨x, rfl, hx⟩) h4
  rw [ty_nil h5]
  exact ⟨s, cs', rfl, ho, h2⟩
theorem okOp_of {o : Opr} (h : TyOp o) (hl : longO o = false) : OkOp o := by
  unfold longO at hl
  simp only [Bool.or_eq_false_iff, decide_eq_false_iff_not] at hl
  exact ⟨h.ids, by omega, ⟨h.n1, h.n2, by omega⟩, by omega⟩
theorem new_ok : PureC Tryz.prog GS 17 [] (.ag [.nilS]) := by
  refine pure_of Tryz.checked.mixed GS_closed ?_
  apply call_intro c17_eq r17_eq
  unfold c17 r17
  simp
  exact rd_eq rfl rfl
theorem appW_ok (s : Tgs) (o : Opr) (b : Ids) (hs : okTs s.l) (hl : s.l.length ≤ 1000000) : okTs (appW s o b).1.l ∧ (appW s o b).1.l.length ≤ 1000000 := by
  have h0 : okTs (Sv.l (none : Tgs)) ∧ (Sv.l (none : Tgs)).length ≤ 1000000 := ⟨fun t ht => (by cases ht), by simp⟩
  unfold appW
  split
  · rename_i ht
    have h60 := (good_err ht).1
    split
    · split
      · exact h0
      · split
        · unfold addW
          split
          · exact h0
          · split
            · exact h0
            · refine ⟨insAt_ok hs (idOf_len o), ?_⟩
              show (insAt s.l _ _).length ≤ _
              rw [insAt_len]; omega
        · split
          · cases s with
            | none => exact h0
            | some a =>
              refine ⟨fun t ht => hs t (List.mem_filter.1 ht).1, ?_⟩
              have := List.length_filter_le (fun t => !struck o b t) a
              exact Nat.le_trans this hl
          · exact ⟨hs, hl⟩
    · exact h0
  · exact h0
end Op
end Go.CM

/-
  Sets of tags: OrsetApplies, walked.
-/
namespace Go.CM
open Go Go.Proofs Go.RowKit
set_option linter.unusedVariables false
set_option linter.unusedSimpArgs false
set_option maxRecDepth 100000
namespace Op
open Sha
theorem at_ok (s : Tgs) (ho : okTs s.l) (hl : s.l.length ≤ 1000000) (x : Tg) (hx : x.id.length = 32) : PureC Tryz.prog GS 33 [encTs s, .ag (encT x)] (.bool (decide (x ∈ s.l))) := by
  refine pure_of Tryz.checked.mixed GS_closed ?_
  apply call_intro c33_eq r33_eq
  unfold c33 r33
  have hlen : lenM (.sl 33) (encTs s) = some (.int .i64 s.l.length) := by simp [encTs]
  have hxl := encT_len hx
  obtain ⟨X, hX⟩ : ∃ X, X = encT x := ⟨_, rfl⟩
  have heq : ∀ y ∈ s.l, binC Tryz.prog .eql 77 (.ag (encT y)) (.ag X) = some (.bool (decide (y = x))) := fun y hy => by rw [hX]; exact tEql (ho y hy) hx
  rw [← hX] at hxl ⊢
  simp [hlen]
  refine loop_up s.l.length (fun k σ l => l = [.cells 33 X] ∧ σ 0 = encTs s ∧ σ 3 = .ptr 0 0 33 ∧ σ 5 = .int .i64 k ∧ ∀ (j : Nat) (z : Tg), j < k → s.l[j]? = some z → z ≠ x) ?_ (by simp [hxl])
  rintro k σ l hk ⟨rfl, g0, g3, g5, hs⟩
  obtain ⟨σ, rfl⟩ := upds3 g0 g3 g5
  clear g0 g3 g5
  unfold l33_0
  simp [hlen]
  refine kIf_intro (fun h => ?_) (fun h => ?_)
  · simp only [decide_eq_true_eq] at h
    obtain ⟨y, hy, hym⟩ := get_of (l := s.l) (k := k) (by omega)
    have e1 : IntKind.i64.wrap ((k : Int) + 1) = ((k + 1 : Nat) : Int) := by rw [IntKind.wrap_i64]; omega
    have hia : iaC (.sl 33) (encTs s) (.int .i64 (k : Int)) = some (.rptr (encT y) 0) := by simp [encTs, hy]
    have hyl := encT_len (ho y hym)
    have heqy := heq y hym
    obtain ⟨Y, hY⟩ : ∃ Y, Y = encT y := ⟨_, rfl⟩
    rw [← hY] at hia hyl heqy
    simp [hia, hyl, hxl, heqy, List.take_of_length_le]
    by_cases he : y = x
    · simp [he]
      exact rd_eq (congrArg CV.bool (decide_eq_true (by rw [← he]; exact hym)).symm) rfl
    · simp [he, e1]
      refine ⟨by omega, fun j z hj hz => ?_⟩
      by_cases hjk : j = k
      · rw [hjk, hy] at hz; obtain rfl := Option.some.inj hz; exact he
      · exact hs j z (by omega) hz
  · simp [h]
    have hk2 : k = s.l.length := by simp at h; omega
    refine rd_eq (congrArg CV.bool (decide_eq_false fun hm => ?_).symm) rfl
    obtain ⟨j, hj⟩ := List.mem_iff_getElem?.1 hm
    exact hs j x (by rw [hk2]; exact (List.getElem?_eq_some_iff.1 hj).1) hj rfl
theorem good_nodup {l : List Tg} (h : goodTs l = true) {i j : Nat} {a : Tg} (hi : l[i]? = some a) (hj : l[j]? = some a) : i = j := by
  rcases Nat.lt_trichotomy i j with h1 | h1 | h1
  · have := good_lt h (d := j - i - 1) hi (by rw [show i + (j - i - 1) + 1 = j by omega]; exact hj)
    rw [ltT_irrefl] at this; cases this
  · exact h1
  · have := good_lt h (d := i - j - 1) hj (by rw [show j + (i - j - 1) + 1 = i by omega]; exact hi)
    rw [ltT_irrefl] at this; cases this
theorem app_err {s : Tgs} {o : Opr} {b : Ids} (h0 : tagErr s.l = 0) (h1 : opErr o = 0) (h2 : b.l.length ≤ 60) (he : ¬ (appW s o b).2 = 0) : o.act.kind = 2#8 ∧ ((appW s o b).2 = 14 ∨ (appW s o b).2 = 18 ∧ s.l.length = 60) := by
  unfold appW at he ⊢
  rw [if_pos h0, if_pos h1, if_neg (by omega)] at he ⊢
  by_cases k2 : o.act.kind = 2#8
  · rw [if_pos k2] at he ⊢
    refine ⟨k2, ?_⟩
    unfold addW at he ⊢
    split
    · exact .inl rfl
    · split
      · rename_i h; exact .inr ⟨rfl, h⟩
      · rename_i g1 g2
        rw [if_neg g1, if_neg g2] at he
        exact absurd rfl he
  · rw [if_neg k2] at he
    split at he <;> exact absurd rfl he
theorem app_fine {s : Tgs} {o : Opr} {b : Ids} (h0 : tagErr s.l = 0) (h1 : opErr o = 0) (h2 : b.l.length ≤ 60) (he : (appW s o b).2 = 0) :
    (o.act.kind = 2#8 ∧ (⟨o.act.key, idOf o⟩ : Tg) ∉ s.l ∧ s.l.length < 60 ∧ (appW s o b).1.l = insAt s.l (cntT s.l ⟨o.act.key, idOf o⟩) ⟨o.act.key, idOf o⟩) ∨
    (o.act.kind ≠ 2#8 ∧ (appW s o b).1.l = s.l.filter fun t => !(decide (o.act.kind = 3#8) && struck o b t)) := by
  have hg := good_err h0
  unfold appW at he ⊢
  rw [if_pos h0, if_pos h1, if_neg (by omega)] at he ⊢
  by_cases k2 : o.act.kind = 2#8
  · left
    rw [if_pos k2] at he ⊢
    have hf := found_iff (x := (⟨o.act.key, idOf o⟩ : Tg)) hg.2
    unfold addW at he ⊢
    split at he
    · cases he
    · rename_i g1
      split at he
      · cases he
      · rename_i g2
        rw [if_neg g1, if_neg g2]
        exact ⟨k2, fun hm => g1 (hf.2 hm), by have := hg.1; omega, rfl⟩
  · right
    rw [if_neg k2] at he ⊢
    refine ⟨k2, ?_⟩
    split
    · rename_i k3
      simp only [k3, decide_true, Bool.true_and]
      cases s <;> rfl
    · rename_i k3
      simp only [k3, decide_false, Bool.false_and, Bool.not_false]
      exact (List.filter_eq_self.2 fun _ _ => rfl).symm
theorem good_iff (l : List Tg) : goodTs l = true ↔ (∀ t ∈ l, keyB t.key = true) ∧ l.Pairwise fun a b => ltT a b = true := by
  constructor
  · intro h
    refine ⟨fun t ht => ?_, List.pairwise_iff_getElem.2 fun i j hi hj hij => ?_⟩
    · obtain ⟨k, hk⟩ := List.mem_iff_getElem?.1 ht
      have h1 := (of_decide_eq_true h) k (List.getElem?_eq_some_iff.1 hk).1
      unfold goodAt at h1
      rw [tgAt_get hk, Bool.and_eq_true] at h1
      exact h1.1
    · exact good_lt h (d := j - i - 1) (List.getElem?_eq_getElem hi) (by rw [show i + (j - i - 1) + 1 = j by omega]; exact List.getElem?_eq_getElem hj)
  · rintro ⟨h1, h2⟩
    refine good_true fun k hk => ?_
    unfold goodAt
    have hy := List.getElem?_eq_getElem hk
    rw [tgAt_get hy, h1 _ (List.getElem_mem hk), Bool.true_and]
    by_cases hk0 : k = 0
    · simp [hk0]
    · have hx := List.getElem?_eq_getElem (l := l) (i := k - 1) (by omega)
      rw [tgAt_get hx, (List.pairwise_iff_getElem.1 h2) (k - 1) k (by omega) hk (by omega)]; simp
theorem good_ins {l : List Tg} {x : Tg} (hg : goodTs l = true) (hx : x ∉ l) (hk : keyB x.key = true) : goodTs (insAt l (cntT l x) x) = true := by
  obtain ⟨h1, h2⟩ := (good_iff l).1 hg
  have hp := pos_cnt hg hx
  have hle := posR_le l x l.length
  refine (good_iff _).2 ⟨fun t ht => ?_, ?_⟩
  · unfold insAt at ht
    rcases List.mem_append.1 ht with h | h
    · exact h1 t (List.mem_of_mem_take h)
    · rcases List.mem_cons.1 h with h | h
      · rw [h]; exact hk
      · exact h1 t (List.mem_of_mem_drop h)
  · have hlo : ∀ a ∈ l.take (cntT l x), ltT a x = true := fun a ha => by
      have e1 : l.takeWhile (fun t => ltT t x) = l.take (cntT l x) := List.prefix_iff_eq_take.1 (List.takeWhile_prefix _)
      rw [← e1] at ha
      have := List.all_takeWhile (l := l) (p := fun t => ltT t x)
      exact List.all_eq_true.1 this a ha
    have hhi : ∀ b ∈ l.drop (cntT l x), ltT x b = true := fun b hb => by
      obtain ⟨j, hj⟩ := List.mem_iff_getElem?.1 hb
      rw [List.getElem?_drop] at hj
      have := posR_hi l x l.length (cntT l x + j) (by omega) (List.getElem?_eq_some_iff.1 hj).1
      rw [tgAt_get hj] at this; exact this
    unfold insAt
    rw [List.pairwise_append]
    refine ⟨h2.sublist (List.take_sublist _ _), List.pairwise_cons.2 ⟨hhi, h2.sublist (List.drop_sublist _ _)⟩, fun a ha b hb => ?_⟩
    rcases List.mem_cons.1 hb with h | h
    · rw [h]; exact hlo a ha
    · exact ltT_trans (hlo a ha) (hhi b h)
theorem good_filter {l : List Tg} {p : Tg → Bool} (hg : goodTs l = true) : goodTs (l.filter p) = true := by
  obtain ⟨h1, h2⟩ := (good_iff l).1 hg
  exact (good_iff _).2 ⟨fun t ht => h1 t (List.mem_filter.1 ht).1, h2.sublist List.filter_sublist⟩
theorem err_good {l : List Tg} (h1 : l.length ≤ 60) (h2 : goodTs l = true) : tagErr l = 0 := by
  unfold tagErr; rw [if_neg (by omega), h2]; rfl
def goneT (o : Opr) (b : Ids) (t : Tg) : Bool := decide (o.act.kind = 3#8) && struck o b t
structure Fine (s : Tgs) (o : Opr) (b : Ids) (t : List Tg) : Prop where
  ok : tagErr t = 0
  mem : ∀ x ∈ s.l, decide (x ∈ t) = !goneT o b x
  new : ∀ x ∈ t, x ∉ s.l → o.act.kind = 2#8 ∧ x = ⟨o.act.key, idOf o⟩
  cnt : ∃ p : Nat, (o.act.kind = 2#8 → p < t.length ∧ ∀ (i : Nat) (y : Tg), t[i]? = some y → (y ∉ s.l ↔ i = p)) ∧ (o.act.kind ≠ 2#8 → ∀ x ∈ t, x ∈ s.l)
theorem insAt_mem {l : List Tg} {i : Nat} {x y : Tg} : y ∈ insAt l i x ↔ y = x ∨ y ∈ l := by
  unfold insAt
  rw [List.mem_append, List.mem_cons]
  have : y ∈ l ↔ y ∈ l.take i ∨ y ∈ l.drop i := by rw [← List.mem_append, List.take_append_drop]
  rw [this]
  constructor
  · rintro (h | h | h)
    · exact .inr (.inl h)
    · exact .inl h
    · exact .inr (.inr h)
  · rintro (h | h | h)
    · exact .inr (.inl h)
    · exact .inl h
    · exact .inr (.inr h)
theorem fine_of {s : Tgs} {o : Opr} {b : Ids} (h0 : tagErr s.l = 0) (h1 : opErr o = 0) (h2 : b.l.length ≤ 60) (he : (appW s o b).2 = 0) : Fine s o b (appW s o b).1.l := by
  have hg := good_err h0
  rcases app_fine h0 h1 h2 he with ⟨k2, hx, hl, ht⟩ | ⟨k2, ht⟩
  · obtain ⟨x, hxe⟩ : ∃ x : Tg, x = ⟨o.act.key, idOf o⟩ := ⟨_, rfl⟩
    rw [← hxe] at hx ht
    have hkey : keyB x.key = true := by
      have := err_act h1
      rw [act2 k2, Bool.and_eq_true] at this
      rw [hxe]; exact this.1
    have hcl : cntT s.l x ≤ s.l.length := by unfold cntT; exact (List.takeWhile_sublist _).length_le
    have k3 : ¬ o.act.kind = 3#8 := by rw [k2]; decide
    have hgi := good_ins hg.2 hx hkey
    refine ⟨?_, fun y hy => ?_, fun y hy hn => ?_, cntT s.l x, fun _ => ⟨?_, fun i y hi => ?_⟩, fun h => absurd k2 h⟩
    · rw [ht]; exact err_good (by rw [insAt_len]; omega) hgi
    · rw [ht, decide_eq_true (insAt_mem.2 (.inr hy))]
      unfold goneT; simp [k3]
    · rw [ht] at hy
      rcases insAt_mem.1 hy with h | h
      · exact ⟨k2, by rw [h, hxe]⟩
      · exact absurd h hn
    · rw [ht, insAt_len]; omega
    · rw [ht] at hi
      constructor
      · intro hn
        have hym := insAt_mem.1 (List.mem_iff_getElem?.2 ⟨i, hi⟩)
        have hyx : y = x := hym.resolve_right hn
        rw [hyx] at hi
        exact good_nodup hgi hi (insAt_get hcl)
      · intro hip
        rw [hip, insAt_get hcl] at hi
        obtain rfl := Option.some.inj hi
        exact hx
  · refine ⟨?_, fun y hy => ?_, fun y hy hn => ?_, 0, fun h => absurd h k2, fun _ y hy => ?_⟩
    · rw [ht]
      refine err_good (Nat.le_trans (List.length_filter_le _ _) hg.1) (good_filter hg.2)
    · rw [ht]
      unfold goneT
      by_cases hp : (!(decide (o.act.kind = 3#8) && struck o b y)) = true
      · rw [hp, decide_eq_true (List.mem_filter.2 ⟨hy, hp⟩)]
      · rw [Bool.eq_false_iff.2 hp]
        exact decide_eq_false fun hm => hp (List.mem_filter.1 hm).2
    · rw [ht] at hy; exact absurd (List.mem_filter.1 hy).1 hn
    · rw [ht] at hy; exact (List.mem_filter.1 hy).1
end Op
end Go.CM

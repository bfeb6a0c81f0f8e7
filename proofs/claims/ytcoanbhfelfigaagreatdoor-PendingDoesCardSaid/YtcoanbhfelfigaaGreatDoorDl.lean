/-
  Buffers of sleepers: the same operation, the same sleepers, the same buffer; walked in the reference.
-/
import Derived.Test.YtcoanbhfelfigaaGreatDoorDk
set_option linter.unusedVariables false
set_option linter.unusedSimpArgs false
set_option linter.unnecessarySimpa false
namespace Go.CM
open Go Go.Proofs
set_option maxRecDepth 100000
namespace Op
open Sha
def sameO (a b : Opr) : Bool := decide (a.author = b.author) && (decide (a.preds.l = b.preds.l) && (decide (a.stamp = b.stamp) && (beqL (encA a.act) (encA b.act) && (decide (a.e = b.e) && decide (a.s = b.s)))))
theorem kinds_S : kindsT Tryz.prog 20 42 = some [.i .u32, .i .u32] := by kernel_rfl
theorem s_eql (a b c d : D) : binC Tryz.prog .eql 42 (.ag [e32 a, e32 b]) (.ag [e32 c, e32 d]) = some (.bool (decide (a = c) && decide (b = d))) := by
 rw [bin_plain_eql kinds_S (by kernel_rfl) (by kernel_rfl) rfl rfl]
 simp [beqL, CV.beq]
theorem rSameO_ok (a b : Opr) (ha : OkOp a) (hb : OkOp b) : PureC Tryz.prog GS 34 [.ag (encOp a), .ag (encOp b)] (.bool (sameO a b)) := by
 refine pure_of Tryz.checked.mixed GS_closed ?_
 apply call_intro c34_eq r34_eq
 unfold c34 r34 sameO
 have hca := closed_ids a.preds
 have hcb := closed_ids b.preds
 have hids := sameIDs_ok a.preds b.preds ha.ids hb.ids ha.len
 have hact := a_eql a.act b.act
 have hsig := s_eql a.e a.s b.e b.s
 have ham : (encIds a.preds).cells = some [encIds a.preds] := by cases a.preds <;> rfl
 have hbm : (encIds b.preds).cells = some [encIds b.preds] := by cases b.preds <;> rfl
 unfold encA at hact ⊢
 simp [encOp]
 by_cases h1 : a.author = b.author
 ·simp [h1]
  refine pure_call hids (by simp [closedL, hca, hcb]) ?_
  by_cases h2 : a.preds.l = b.preds.l
  ·by_cases h3 : a.stamp = b.stamp
   ·cases h4 : beqL [e8 a.act.kind, .str a.act.key, e8 a.act.val.kind, .int .i64 a.act.val.num, e64 a.act.val.bits, .str a.act.val.text] [e8 b.act.kind, .str b.act.key, e8 b.act.val.kind, .int .i64 b.act.val.num, e64 b.act.val.bits, .str b.act.val.text] with
    | false =>
     rw [h4] at hact
     simp [h1, h2, h3, hact]
     exact rd_eq rfl rfl
    | true =>
     rw [h4] at hact
     simp [h1, h2, h3, hact, hsig]
     exact rd_eq rfl rfl
   ·simp [h1, h2, h3]
    exact rd_eq rfl rfl
  ·simp [h1, h2]
   exact rd_eq rfl rfl
 ·simp [h1]
  exact rd_eq rfl rfl
theorem sameO_self (a : Opr) : sameO a a = true := by unfold sameO; simp [encA, beqL, CV.beq]
def sameSl (a b : Slp) : Bool := decide (a.tk = b.tk) && (decide (a.id = b.id) && (sameO a.op b.op && decide (a.miss.l = b.miss.l)))
def sameSls (a b : List Slp) : Bool := decide (a.length = b.length) && decide (∀ k, k < a.length → sameSl (slAt a k) (slAt b k) = true)
theorem sameSl_self (a : Slp) : sameSl a a = true := by unfold sameSl; simp [sameO_self]
theorem sameSls_self (l : List Slp) : sameSls l l = true := by
 unfold sameSls
 rw [decide_eq_true rfl, Bool.true_and]
 exact decide_eq_true fun k _ => sameSl_self _
structure SamI (a b : Slps) (k : Nat) (σ : Sg) (l : Hl) : Prop where
 g0 : σ 0 = encSls a
 g1 : σ 1 = encSls b
 g5 : σ 5 = .int .i64 k
 hs : ∀ j, j < k → sameSl (slAt a.l j) (slAt b.l j) = true
theorem rSameSls_ok (a b : Slps) (ha : okSls a.l) (hb : okSls b.l) (hl : a.l.length ≤ 1000000) : PureC Tryz.prog GS 25 [encSls a, encSls b] (.bool (sameSls a.l b.l)) := by
 refine pure_of Tryz.checked.mixed GS_closed ?_
 apply call_intro c25_eq r25_eq
 unfold c25 r25
 have hla : lenM (.sl 45) (encSls a) = some (.int .i64 a.l.length) := by simp [encSls]
 have hlb : lenM (.sl 45) (encSls b) = some (.int .i64 b.l.length) := by simp [encSls]
 have hca := closed_Sls a
 have hcb := closed_Sls b
 by_cases h0 : a.l.length = b.l.length
 ·simp [hla, hlb, h0]
  refine loop_up b.l.length (SamI a b) ?_ ⟨by simp, by simp, by simp, fun j h => by omega⟩
  rintro k σ l hk ⟨g0, g1, g5, hss⟩
  obtain ⟨σ, rfl⟩ := upds3 g0 g1 g5
  clear g0 g1 g5
  unfold l25_0
  simp [hla, h0]
  refine kIf_intro (fun h => ?_) (fun h => ?_)
  ·simp only [decide_eq_true_eq] at h
   obtain ⟨x, hx, hxm⟩ := get_of (l := a.l) (k := k) (by omega)
   obtain ⟨y, hy, hym⟩ := get_of (l := b.l) (k := k) (by omega)
   have hox := ha x hxm
   have hoy := hb y hym
   have hX := row_of hox
   have hY := row_of hoy
   have e1 : IntKind.i64.wrap ((k : Int) + 1) = ((k + 1 : Nat) : Int) := by rw [IntKind.wrap_i64]; omega
   have hix : iaC (.sl 45) (encSls a) (.int .i64 (k : Int)) = some (.rptr (encSl x) 0) := by simp [encSls, hx]
   have hiy : iaC (.sl 45) (encSls b) (.int .i64 (k : Int)) = some (.rptr (encSl y) 0) := by simp [encSls, hy]
   have hso := rSameO_ok x.op y.op hox.op hoy.op
   have hsm := sameIDs_ok x.miss y.miss hox.miss hoy.miss hox.len
   have hne := idNeq hox.id hoy.id
   have hxl := eId_len hox.id
   have hyl := eId_len hoy.id
   have hcox := closed_op x.op
   have hcoy := closed_op y.op
   have hcmx := closed_ids x.miss
   have hcmy := closed_ids y.miss
   have hbad : sameSl x y = false → sameSls a.l b.l = false := fun hb2 => by
    unfold sameSls
    rw [decide_eq_false (p := ∀ k, k < a.l.length → sameSl (slAt a.l k) (slAt b.l k) = true), Bool.and_false]
    intro hall
    have := hall k (by omega)
    rw [slAt_get hx, slAt_get hy, hb2] at this
    cases this
   have hga : sameSl x y = (decide (x.tk = y.tk) && (decide (x.id = y.id) && (sameO x.op y.op && decide (x.miss.l = y.miss.l)))) := rfl
   obtain ⟨X, hXe⟩ : ∃ X, X = encSl x := ⟨_, rfl⟩
   obtain ⟨Y, hYe⟩ : ∃ Y, Y = encSl y := ⟨_, rfl⟩
   obtain ⟨O, hOe⟩ : ∃ O, O = encOp x.op := ⟨_, rfl⟩
   obtain ⟨P, hPe⟩ : ∃ P, P = encOp y.op := ⟨_, rfl⟩
   rw [← hXe] at hX hix
   rw [← hYe] at hY hiy
   have x1 := hX.len
   have x2 := hX.tk
   have x3 := hX.op
   have x4 := hX.id
   have x5 := hX.miss
   have y1 := hY.len
   have y2 := hY.tk
   have y3 := hY.op
   have y4 := hY.id
   have y5 := hY.miss
   rw [← hOe] at x3 hso hcox
   rw [← hPe] at y3 hso hcoy
   have hOl : O.length = 11 := by rw [hOe]; rfl
   have hPl : P.length = 11 := by rw [hPe]; rfl
   by_cases c1 : x.tk = y.tk
   ·by_cases c2 : x.id = y.id
    ·rw [c2, decide_eq_true rfl] at hne
     simp [hix, hiy, x1, x2, x3, x4, x5, y1, y2, y3, y4, y5, hxl, hyl, hOl, hPl, hne, c1, c2, List.take_of_length_le]
     refine pure_call hso (by simp [closedL, CV.closed, hcox, hcoy]) ?_
     cases c3 : sameO x.op y.op with
     | false =>
      have hf := hbad (by rw [hga, c3]; simp)
      rw [hf]
      simp
      exact rd_eq rfl rfl
     | true =>
      simp [hix, hiy, x1, x5, y1, y5]
      refine pure_call hsm (by simp [closedL, hcmx, hcmy]) ?_
      by_cases c4 : x.miss.l = y.miss.l
      ·simp [c4, e1]
       exact ⟨by omega, by simp, by simp, by simp, fun j hj => by
        by_cases hjk : j = k
        ·rw [hjk, slAt_get hx, slAt_get hy, hga, c3]; simp [c1, c2, c4]
        ·exact hss j (by omega)⟩
      ·have hf := hbad (by rw [hga]; simp [c4])
       rw [hf]
       simp [c4]
       exact rd_eq rfl rfl
    ·have hf := hbad (by rw [hga]; simp [c2])
     rw [hf]
     simp [hix, hiy, x1, x2, x3, x4, x5, y1, y2, y3, y4, y5, hxl, hyl, hOl, hPl, hne, c1, c2, List.take_of_length_le]
     exact rd_eq rfl rfl
   ·have hf := hbad (by rw [hga]; simp [c1])
    rw [hf]
    simp [hix, hiy, x1, x2, y1, y2, c1]
    exact rd_eq rfl rfl
  ·simp [h]
   have hk2 : k = b.l.length := by simp at h; omega
   have hf : sameSls a.l b.l = true := by
    unfold sameSls
    rw [decide_eq_true h0, Bool.true_and]
    exact decide_eq_true fun j hj => hss j (by omega)
   rw [hf]
   exact rd_eq rfl rfl
 ·have h0' : ¬ (a.l.length : Int) = (b.l.length : Int) := by omega
  have hf : sameSls a.l b.l = false := by unfold sameSls; rw [decide_eq_false h0]; rfl
  rw [hf]
  simp [hla, hlb, h0, h0']
  exact rd_eq rfl rfl
theorem rSameP_ok (c c' : Int) (a b : Slps) (ha : okSls a.l) (hb : okSls b.l) (hl : a.l.length ≤ 1000000) : PureC Tryz.prog GS 16 [.ag (encP c a), .ag (encP c' b)] (.bool (decide (c = c') && sameSls a.l b.l)) := by
 refine pure_of Tryz.checked.mixed GS_closed ?_
 apply call_intro c16_eq r16_eq
 unfold c16 r16
 have hca := closed_Sls a
 have hcb := closed_Sls b
 have hsl := rSameSls_ok a b ha hb hl
 by_cases h : c = c'
 ·simp [encP, h]
  refine pure_call hsl (by simp [closedL, hca, hcb]) ?_
  cases sameSls a.l b.l <;> simp [h] <;> exact rd_eq rfl rfl
 ·simp [encP, h]
  exact rd_eq rfl rfl
theorem missV_l (l : List Slp) : (missV l).l = dd (sortB (allM l)) := by
 unfold missV
 split
 ·rename_i h; rw [h]; simp [sortB, dd, ddN]
 ·rfl
theorem missV_mem (l : List Slp) (y : List B) : y ∈ (missV l).l ↔ ∃ s ∈ l, y ∈ s.miss.l := by
 rw [missV_l, mem_dd, sortB_mem]
 unfold allM
 exact List.mem_flatMap
theorem missV_len (l : List Slp) : (missV l).l.length ≤ (allM l).length := by
 rw [missV_l]
 unfold dd
 refine Nat.le_trans (ddN_len _ _) ?_
 rw [sortB_len]; exact Nat.le_refl _
structure EndI (n : Nat) (c : Int) (s : Slps) (ids : Ids) (k : Nat) (σ : Sg) (l : Hl) : Prop where
 g2 : σ 2 = .ptr 0 0 2
 g5 : σ 5 = .bool true
 g6 : σ 6 = encIds ids
 g11 : σ 11 = .ptr n 0 2
 g13 : σ 13 = .int .i64 k
 p0 : l[0]? = some (.cells 2 (encP c s))
 n0 : 1 ≤ n
 ex : ∃ w : Slps, σ 12 = .int .i64 ((s.l.length : Int) - (w.l.length : Int)) ∧ l[n]? = some (.cells 2 (encP c w)) ∧ w.l = nowL (ids.l.take k) s.l
end Op
end Go.CM

namespace Go.CM
open Go Go.Proofs
set_option maxRecDepth 100000
namespace Op
theorem flat_len {α : Type} {enc : α → List CV} {z : Nat} {a : List α} (h : ∀ x ∈ a, (enc x).length = z) : (a.map enc).flatten.length = a.length * z := by
 rw [flatten_len (z := z) (fun e he => by obtain ⟨y, hy, rfl⟩ := List.mem_map.1 he; exact h y hy), List.length_map]
theorem app_empty {α : Type} {enc : α → List CV} {z by_ : Nat} (l : Hl) (s : Sv α) (h : ∀ x ∈ s.l, (enc x).length = z) (h0 : z ≠ 0) (hb : by_ ≠ 0) (hr : s.l.length * by_ ≤ roomMax) :
  appM (l ++ [CB.cells 0 []]) z by_ (.sl z l.length 0 0 0 0) (encS z enc s) = some (.sl z l.length 0 s.l.length s.l.length (s.l.length * z), l ++ [.cells (s.l.length * z) (s.l.map enc).flatten]) := by
 have hfl := flat_len h
 unfold appM
 rw [contents_encS]
 simp only []
 unfold appendL
 by_cases hz : s.l.length = 0
 ·have h0 : s.l = [] := List.length_eq_zero_iff.1 hz
  rw [h0]
  simp
 ·rw [if_neg hz, if_neg (by omega)]
  have hne : ¬ s.l = [] := fun h => hz (by rw [h]; rfl)
  simp [hr, h0, hz, hne]
theorem own_all {α : Type} {enc : α → List CV} {z : Nat} {l : Hl} {b n : Nat} {a : List α} (ha : ∀ x ∈ a, (enc x).length = z) (hn : a.length = n) (hb : l[b]? = some (.cells (n * z) (a.map enc).flatten)) : OwnS z l (.sl z b 0 n n (n * z)) b (a.map enc) := by
 have hfl := flat_len ha
 refine .sl b n n (n * z) _ _ hb (by rw [hfl, hn]) (by simp [hn]) (fun e he => ?_) (Nat.le_refl _) (Nat.le_refl _) ?_
 ·obtain ⟨y, hy, rfl⟩ := List.mem_map.1 he; exact ha y hy
 ·rw [List.take_of_length_le (by rw [hfl, hn]; omega)]
end Op
end Go.CM

namespace Go.CM
open Go Go.Proofs
set_option maxRecDepth 100000
namespace Op
open Sha
theorem row_set {s : Slp} (h : s.id.length = 32) (w : CV) : rowW s w = (encSl s).set 44 w := by
 have hi := eId_len h
 have hl : (encSl s).length = 45 := by unfold encSl encOp; simp [hi]
 rw [← splice_row h w, splice1 w (by omega)]
theorem rd_row {s : Slp} (h : s.id.length = 32) {l : Hl} {w : CV} (hw : Rd l w (encIds s.miss)) : Rd l (.ag (rowW s w)) (.ag (encSl s)) := by
 rw [row_set h w]
 refine .ag _ _ (by simp) fun j x x' hx hx' => ?_
 by_cases hj : j = 44
 ·subst hj
  rw [row_ms h] at hx'
  have hlt := (List.getElem?_eq_some_iff.1 (row_ms h)).1
  rw [List.getElem?_set_self hlt] at hx
  cases hx; cases hx'
  exact hw
 ·rw [List.getElem?_set_ne (fun e => hj e.symm), hx'] at hx
  cases hx
  exact .same _ (closedL_get (closed_encSl s) j _ hx')
theorem twin_val (s : Slp) (hs : OkSl s) : PureC Tryz.prog GS 35 [.ag (encSl s)] (.ag (encSl s)) := by
 refine pure_of Tryz.checked.mixed GS_closed ?_
 refine twin_ob s hs fun w l' h => ?_
 exact rd_row hs.id (h.rd closed_eId s.miss rfl rfl)
structure CpyI (c : Int) (s : Slps) (L : Hl) (k : Nat) (σ : Sg) (l : Hl) : Prop where
 g1 : σ 1 = .ptr L.length 0 2
 g2 : σ 2 = .ptr (L.length + 1) 0 2
 g3 : σ 3 = .ptr (L.length + 2) 0 2
 g10 : σ 10 = encSls s
 g11 : σ 11 = .int .i64 s.l.length
 g12 : σ 12 = .int .i64 k
 fr : ∀ b, b < L.length → l[b]? = L[b]?
 len : L.length + 3 ≤ l.length
 p1 : l[L.length + 1]? = some (.cells 2 [.int .i64 0, .nilS])
 ex : ∃ v j, l[L.length + 2]? = some (.cells 2 [.int .i64 c, v]) ∧ OwnS 45 l v j ((s.l.take k).map encSl) ∧ (v = .nilS ∨ L.length + 3 ≤ j) ∧ isNilS v = (s.l.take k).isEmpty
set_option maxHeartbeats 1000000 in
theorem copied_ob (c : Int) (s : Slps) (hs : okSls s.l) (hl : s.l.length ≤ 1000000) {L : Hl} {K : CV → Hl → Prop}
  (hK : ∀ v l' j, OwnS 45 l' v j (s.l.map encSl) → (v = .nilS ∨ L.length ≤ j) → L.length ≤ l'.length → (∀ b, b < L.length → l'[b]? = L[b]?) → isNilS v = s.l.isEmpty → K (.ag [.int .i64 c, v]) l') :
  CallP Tryz.prog GS 46 [.ag (encP c s)] L (c := ⟨K⟩) := by
 apply call_intro c46_eq r46_eq
 unfold c46 r46
 have hlen : lenM (.sl 45) (encSls s) = some (.int .i64 s.l.length) := by simp [encSls]
 have hcs := closed_Sls s
 simp [encP, hlen, List.getElem?_append, List.set_append, splice]
 refine loop_up s.l.length (CpyI c s L) ?_ ⟨by simp, by simp, by simp, by simp, by simp, by simp, fun b hb => by simp [List.getElem?_append, hb], by simp, by simp [List.getElem?_append], .nilS, 0, by simp [List.getElem?_append], .nil 0, .inl rfl, rfl⟩
 rintro k σ l hk ⟨g1, g2, g3, g10, g11, g12, fr, hll, p1, v, j, p2, o1, d1, n1⟩
 obtain ⟨σ, rfl⟩ := upds6 g1 g2 g3 g10 g11 g12
 clear g1 g2 g3 g10 g11 g12
 unfold l46_0
 simp
 refine kIf_intro (fun h => ?_) (fun h => ?_)
 ·simp only [decide_eq_true_eq] at h
  obtain ⟨y, hy, hym⟩ := get_of (l := s.l) (k := k) (by omega)
  have hoy := hs y hym
  have hR := row_of hoy
  have e1 : IntKind.i64.wrap ((k : Int) + 1) = ((k + 1 : Nat) : Int) := by rw [IntKind.wrap_i64]; omega
  have hia : iaC (.sl 45) (encSls s) (.int .i64 (k : Int)) = some (.rptr (encSl y) 0) := by simp [encSls, hy]
  have htw := twin_val y hoy
  have hcy := closed_encSl y
  have hst : s.l.take (k + 1) = s.l.take k ++ [y] := by rw [List.take_add_one, hy]; rfl
  have hkl : (s.l.take k).length ≤ 1000000 := by rw [List.length_take]; omega
  have hn0 : ∀ cb : CB, (l ++ [cb])[l.length]? = some cb := fun cb => List.getElem?_concat_length
  have hp2 : ∀ cb : CB, (l ++ [cb])[L.length + 2]? = some (.cells 2 [.int .i64 c, v]) := fun cb => by rw [List.getElem?_append_left (by omega)]; exact p2
  obtain ⟨v', j', l6, a1, b1, c1', dd, ee, ff⟩ := appSl (o1.more [.cells 45 (encSl y)]) hR.len hkl
  obtain ⟨R, hRe⟩ : ∃ R, R = encSl y := ⟨_, rfl⟩
  rw [← hRe] at hR hia htw hcy a1
  have f1 := hR.len
  have hspR := spS f1
  have hvc := o1.cells
  have hv'c := b1.cells
  simp at c1' ee
  simp [hia, f1, hspR, List.take_of_length_le, hp2]
  refine pure_call htw (by simp [closedL, CV.closed, hcy]) ?_
  simp at a1 dd
  simp [f1, hspR, List.take_of_length_le, hvc, a1, hp2]
  refine AppK.keep ?_
  have v6 : ∀ b, b < L.length + 3 → l6[b]? = l[b]? := fun b hb => by
   rw [dd b (by omega) (d1.imp id fun h => by omega), List.getElem?_append_left (by omega)]
  have r2 : l6[L.length + 2]? = some (.cells 2 [.int .i64 c, v]) := by rw [v6 _ (by omega)]; exact p2
  have hj' : v' = .nilS ∨ L.length + 3 ≤ j' := by
   rcases ee with h | ⟨h, h'⟩
   ·right; omega
   ·right; rw [h']; exact d1.resolve_left h
  simp [r2, hv'c, splice, e1]
  refine ⟨by omega, by simp, by simp, by simp, by simp, by simp, by simp, fun b hb => ?_, by simp; omega, ?_, v', j', List.getElem?_set_self (by omega), ?_, hj', ?_⟩
  ·rw [List.getElem?_set_ne (by omega), v6 b (by omega)]; exact fr b hb
  ·rw [List.getElem?_set_ne (by omega), v6 _ (by omega)]; exact p1
  ·rw [hst]
   exact b1.frame2 (hj'.imp id fun h => by rw [List.getElem?_set_ne (by omega)])
  ·rw [ff, hst]; simp
 ·simp [h]
  have hk2 : k = s.l.length := by simp at h; omega
  rw [hk2, List.take_length] at o1 n1
  have s2 : ∀ c : CB, (l.set (L.length + 1) c)[L.length + 1]? = some c := fun c => List.getElem?_set_self (by omega)
  have hvc := o1.cells
  simp [p2, p1, s2]
  refine hK v _ j (o1.frame2 (d1.imp id fun h => by rw [List.getElem?_set_ne (by omega)])) (d1.imp id fun h => by omega) (by simp; omega) (fun b hb => ?_) n1
  rw [List.getElem?_set_ne (by omega)]; exact fr b hb
def putErr (c : Int) (l : List Slp) (t : Int) (o : Opr) (m : List (List B)) : Int :=
 if penErr c l ≠ 0 then penErr c l else if opErr o ≠ 0 then 8 else if t < 0 ∨ 1000000000 < t ∨ missB o m = false then 2 else if idOf o ∈ l.map Slp.id then 14 else if t ≤ tkPrev l l.length then 32 else if (l.length : Int) = c then 18 else 0
def putW (c : Int) (l : List Slp) (t : Int) (o : Opr) (m : Ids) : CV :=
 .tu [if putErr c l t o m.l = 0 then .ag (encP c (some (l ++ [⟨t, o, idOf o, m⟩]))) else .ag [.int .i64 0, .nilS], .int .i64 (putErr c l t o m.l)]
set_option maxHeartbeats 2000000 in
theorem wPut_ok (c : Int) (s : Slps) (hs : okSls s.l) (hl : s.l.length ≤ 900000) (t : Int) (o : Opr) (ho : OkOp o) (m : Ids) (hm : okIds m) (hml : m.l.length ≤ 1000000) :
  PureC Tryz.prog GS 22 [.ag (encP c s), .int .i64 t, .ag (encOp o), encIds m] (putW c s.l t o m) := by
 refine pure_of Tryz.checked.mixed GS_closed ?_
 apply call_intro c22_eq r22_eq
 unfold c22 r22 putW
 have hlen : lenM (.sl 45) (encSls s) = some (.int .i64 s.l.length) := by simp [encSls]
 have hcs := closed_Sls s
 have hco := closed_op o
 have hcm := closed_ids m
 have hck := wPCheck_ok c s hs (by omega)
 have hwid := wID_ok o ho
 have hmis := wMiss_ok o ho m hm hml
 have hil := idOf_len6 o
 have hdl := eId_len hil
 have hpa := pAt_ok s hs (by omega) (idOf o) hil
 have hix := ixOf_neg (idOf o) (s.l.map Slp.id) 0
 have hci := closed_eId (idOf o)
 have hcp : closedL [CV.ag (encP c s)] = true := by simp [encP, closedL, CV.closed, hcs]
 have hcop : ∀ h : True, closedL [CV.ag (encP c s)] = true := fun _ => hcp
 obtain ⟨O, hO⟩ : ∃ O, O = encOp o := ⟨_, rfl⟩
 have hOl : O.length = 11 := by rw [hO]; rfl
 have hrow : encSl ⟨t, o, idOf o, m⟩ = .int .i64 t :: (O ++ (eId (idOf o) ++ [encIds m])) := by rw [hO]; rfl
 have hok1 : OkSl ⟨t, o, idOf o, m⟩ := ⟨ho, hil, hm, hml⟩
 have htw := twin_val _ hok1
 have hsl := (row_of hok1).len
 have hcr := closed_encSl ⟨t, o, idOf o, m⟩
 rw [← hO] at hwid hmis hco ⊢
 have hidC : idC (idOf o) = .ag (eId (idOf o)) := rfl
 rw [hidC] at hwid
 obtain ⟨D, hD⟩ : ∃ D, D = eId (idOf o) := ⟨_, rfl⟩
 rw [← hD] at hwid hdl hpa hci hrow
 obtain ⟨R, hRe⟩ : ∃ R, R = encSl ⟨t, o, idOf o, m⟩ := ⟨_, rfl⟩
 have hsl0 := hsl
 rw [← hRe] at hrow htw hsl hcr
 have hspD : splice (rep 32 (.int .u8 0)) 0 D = D := splice_full (by rw [hdl]; rfl)
 have hmc : (encIds m).cells = some [encIds m] := by cases m <;> rfl
 have sO : splice (CV.int .u32 0 :: CV.nilS :: CV.int .u64 0 :: CV.int .u8 0 :: CV.str [] :: CV.int .u8 0 :: CV.int .i64 0 :: CV.int .u64 0 :: CV.str [] :: CV.int .u32 0 :: CV.int .u32 0 :: (rep 32 (.int .u8 0) ++ [CV.nilS])) 0 O = O ++ (rep 32 (.int .u8 0) ++ [CV.nilS]) := by
  unfold splice; simp [hOl]
 have lO : (O ++ (rep 32 (.int .u8 0) ++ [CV.nilS])).length = 44 := by simp [hOl, rep]
 have sD : splice (O ++ (rep 32 (.int .u8 0) ++ [CV.nilS])) 11 D = O ++ (D ++ [CV.nilS]) := by
  unfold splice; simp [hOl, hdl, List.take_append, List.drop_append, rep]
 have lD : (O ++ (D ++ [CV.nilS])).length = 44 := by simp [hOl, hdl]
 have sM : splice (O ++ (D ++ [CV.nilS])) 43 [encIds m] = O ++ (D ++ [encIds m]) := by
  unfold splice; simp [hOl, hdl, List.take_append, List.drop_append, List.take_of_length_le]
 by_cases h0 : penErr c s.l = 0
 ·simp [encP, hOl]
  refine pure_call hck hcp ?_
  simp [h0, hOl, hlen, List.take_of_length_le]
  refine pure_call hwid (by simp [closedL, CV.closed, hco]) ?_
  by_cases h1 : opErr o = 0
  ·by_cases h2 : t < 0
   ·have hp : putErr c s.l t o m.l = 2 := by unfold putErr; simp [h0, h1, h2]
    rw [hp]
    simp [hdl, hspD, hlen, h1, h2, List.take_of_length_le]
    exact rd_eq rfl rfl
   ·by_cases h3 : 1000000000 < t
    ·have hp : putErr c s.l t o m.l = 2 := by unfold putErr; simp [h0, h1, h3]
     rw [hp]
     simp [hdl, hspD, hlen, h1, h2, h3, List.take_of_length_le]
     exact rd_eq rfl rfl
    ·simp [hdl, hspD, hlen, h1, h2, h3, hOl, List.take_of_length_le]
     refine pure_call hmis (by simp [closedL, CV.closed, hco, hcm]) ?_
     cases h4 : missB o m.l with
     | false =>
      have hp : putErr c s.l t o m.l = 2 := by unfold putErr; simp [h0, h1, h4]
      rw [hp]
      simp
      exact rd_eq rfl rfl
     | true =>
      simp [hdl, List.take_of_length_le]
      refine pure_call hpa (by simp [closedL, CV.closed, hcs, hci]) ?_
      by_cases h5 : idOf o ∈ s.l.map Slp.id
      ·have hp : putErr c s.l t o m.l = 14 := by unfold putErr; rw [if_neg (by omega), if_neg (by omega), if_neg (by simp [h2, h3, h4]), if_pos h5]
       have hge : 0 ≤ ixOf (idOf o) (s.l.map Slp.id) 0 := hix.2 h5
       rw [hp]
       simp [hge]
       exact rd_eq rfl rfl
      ·have hge : ¬ 0 ≤ ixOf (idOf o) (s.l.map Slp.id) 0 := fun h => h5 (hix.1 h)
       have hpre : putErr c s.l t o m.l = if t ≤ tkPrev s.l s.l.length then 32 else if (s.l.length : Int) = c then 18 else 0 := by
        unfold putErr; rw [if_neg (by omega), if_neg (by omega), if_neg (by simp [h2, h3, h4]), if_neg h5]
       have hlast : ∀ K : Prop, K → K := fun _ h => h
       by_cases h6 : t ≤ tkPrev s.l s.l.length
       ·have hp : putErr c s.l t o m.l = 32 := by rw [hpre, if_pos h6]
        have hne : s.l.length ≠ 0 := fun he => by rw [he] at h6; simp [tkPrev] at h6; omega
        obtain ⟨z, hz, hzm⟩ := get_of (l := s.l) (k := s.l.length - 1) (by omega)
        have htz : tkPrev s.l s.l.length = z.tk := by unfold tkPrev; rw [if_neg hne, slAt_get hz]
        have e3 : IntKind.i64.wrap ((s.l.length : Int) - 1) = ((s.l.length - 1 : Nat) : Int) := by rw [IntKind.wrap_i64]; omega
        have hiz : iaC (.sl 45) (encSls s) (.int .i64 ((s.l.length - 1 : Nat) : Int)) = some (.rptr (encSl z) 0) := by simp [encSls, hz]
        have hZ := row_of (hs z hzm)
        have g2 := hZ.tk
        have g1 := hZ.len
        obtain ⟨Z, hZe⟩ : ∃ Z, Z = encSl z := ⟨_, rfl⟩
        simp only [← hZe] at g1 g2 hiz
        have h6' : t ≤ z.tk := by rw [← htz]; exact h6
        have hpos : 0 < s.l.length := by omega
        rw [hp]
        simp [hge, hpos, e3, hiz, g1, g2, h6']
        exact rd_eq rfl rfl
       ·have hcond : ∀ {P : Prop}, ((s.l.length = 0 → P) ∧ (∀ z, s.l[s.l.length - 1]? = some z → z ∈ s.l → 0 < s.l.length → ¬ t ≤ z.tk → P)) → P := fun {P} ⟨ha, hb⟩ => by
         by_cases hne : s.l.length = 0
         ·exact ha hne
         ·obtain ⟨z, hz, hzm⟩ := get_of (l := s.l) (k := s.l.length - 1) (by omega)
          exact hb z hz hzm (by omega) (fun h => h6 (by unfold tkPrev; rw [if_neg hne, slAt_get hz]; exact h))
        -- what comes behind
        refine hcond ⟨fun hne => ?_, fun z hz hzm hpos h6' => ?_⟩
        rotate_left
        have e3 : IntKind.i64.wrap ((s.l.length : Int) - 1) = ((s.l.length - 1 : Nat) : Int) := by rw [IntKind.wrap_i64]; omega
        have hiz : iaC (.sl 45) (encSls s) (.int .i64 ((s.l.length - 1 : Nat) : Int)) = some (.rptr (encSl z) 0) := by simp [encSls, hz]
        have hZ := row_of (hs z hzm)
        have g2 := hZ.tk
        have g1 := hZ.len
        obtain ⟨Z, hZe⟩ : ∃ Z, Z = encSl z := ⟨_, rfl⟩
        simp only [← hZe] at g1 g2 hiz
        simp [hge, hpos, e3, hiz, g1, g2, h6']
        rotate_left
        simp [hge, hne]
        all_goals
         refine kIf_intro (fun h7 => ?_) (fun h7 => ?_)
         ·have h7' : (s.l.length : Int) = c := by simp at h7; omega
          have hp : putErr c s.l t o m.l = 18 := by rw [hpre, if_neg h6, if_pos h7']
          rw [hp]
          simp
          exact rd_eq rfl rfl
         ·have h7' : ¬ (s.l.length : Int) = c := by simp at h7; omega
          have hp : putErr c s.l t o m.l = 0 := by rw [hpre, if_neg h6, if_neg h7']
          rw [hp]
          simp
          refine copied_ob c s hs (by omega) fun v l' j ho' hj hle hsm hn => ?_
          have hll : 4 ≤ l'.length := by simpa using hle
          have w1 : ∀ cb : CB, (l' ++ [cb])[1]? = some (.cells 11 O) := fun cb => by rw [List.getElem?_append_left (by omega), hsm 1 (by simp)]; rfl
          have w2 : ∀ cb : CB, (l' ++ [cb])[2]? = some (.cells 2 [.int .i64 0, .nilS]) := fun cb => by rw [List.getElem?_append_left (by omega), hsm 2 (by simp)]; rfl
          have w3 : ∀ cb : CB, (l' ++ [cb])[3]? = some (.cells 32 D) := fun cb => by rw [List.getElem?_append_left (by omega), hsm 3 (by simp)]; rfl
          have hsl' : s.l.length ≤ 1000000 := by omega
          obtain ⟨v', j', l6, b0, b1, c1', dd, ee, ff⟩ := appSl (s := ⟨t, o, idOf o, m⟩) ((ho'.more [.cells 2 [.int .i64 c, v]])) hsl0 (by omega)
          rw [← hRe] at b0
          have hvc := ho'.cells
          have hv'c := b1.cells
          have hn0 : ∀ cb : CB, (l' ++ [cb])[l'.length]? = some cb := fun cb => List.getElem?_concat_length
          simp at b0 c1' ee dd
          simp [w1, w3, hOl, hdl, List.take_of_length_le, sO, sD, sM, lO, lD, hmc, ← hrow]
          refine pure_call htw (by simp [closedL, CV.closed, hcr]) ?_
          have hspR := spS hsl
          simp [w1, w3, hOl, hdl, List.take_of_length_le, hsl, hspR, b0, hvc]
          refine AppK.keep ?_
          have x2 : l6[2]? = some (.cells 2 [.int .i64 0, .nilS]) := by
           rw [dd 2 (by omega) (hj.imp id fun h => by simp at h; omega)]; exact w2 _
          have xn : l6[l'.length]? = some (.cells 2 [.int .i64 c, v]) := by
           rw [dd _ (by omega) (ho'.lt.imp id fun h => by omega)]
           exact hn0 _
          have hj' : 4 ≤ j' ∧ j' ≠ l'.length := by
           rcases ee with h | ⟨h, h'⟩
           ·omega
           ·have h1 := hj.resolve_left h
            have h2 := ho'.lt.resolve_left h
            simp at h1; omega
          have q0 : ∀ cb : CB, (l6.set l'.length cb)[l'.length]? = some cb := fun cb => List.getElem?_set_self (by omega)
          have q2 : ∀ cb : CB, (l6.set l'.length cb)[2]? = some (.cells 2 [.int .i64 0, .nilS]) := fun cb => by rw [List.getElem?_set_ne (by omega)]; exact x2
          have q3 : ∀ cb cb' : CB, ((l6.set l'.length cb).set 2 cb')[2]? = some cb' := fun cb cb' => List.getElem?_set_self (by simp; omega)
          simp [x2, xn, hv'c, splice, q0, q2, q3]
          refine rd_tu2 (rd_ag2 (.same _ rfl) ((b1.frame2 (.inr (by rw [List.getElem?_set_ne (by omega), List.getElem?_set_ne (by omega)]))).q.rd_enc closed_encSl (some (s.l ++ [⟨t, o, idOf o, m⟩])) (by rw [ff]; rfl) rfl)) (.same _ rfl)
  ·have hp : putErr c s.l t o m.l = 8 := by unfold putErr; simp [h0, h1]
   rw [hp]
   simp [hdl, hspD, hlen, h1, List.take_of_length_le]
   exact rd_eq rfl rfl
 ·have hp : putErr c s.l t o m.l = penErr c s.l := by unfold putErr; simp [h0]
  rw [hp]
  simp [encP, hOl]
  refine pure_call hck hcp ?_
  simp [h0]
  exact rd_eq rfl rfl
def twO (o : Opr) : Opr := { o with preds := some o.preds.l }
def twS (s : Slp) : Slp := { s with op := twO s.op, miss := some s.miss.l }
theorem twO_ok {o : Opr} (h : OkOp o) : OkOp (twO o) := ⟨h.ids, h.len, h.val, h.key⟩
theorem twS_ok {s : Slp} (h : OkSl s) : OkSl (twS s) := ⟨twO_ok h.op, h.id, h.miss, h.len⟩
theorem twinO_val (o : Opr) (ho : OkOp o) : PureC Tryz.prog GS 58 [.ag (encOp o)] (.ag (encOp (twO o))) := by
 refine pure_of Tryz.checked.mixed GS_closed ?_
 apply call_intro c58_eq r58_eq
 unfold c58 r58
 have hr : roomMax = 140737488355328 := rfl
 have hl := ho.len
 have hz : ∀ x ∈ o.preds.l, (eId x).length = 32 := fun x hx => eId_len (ho.ids x hx)
 have happ := app_empty (enc := eId) (by_ := 32) [CB.cells 11 (encOp o), CB.cells 11 [.int .u32 0, .nilS, .int .u64 0, .int .u8 0, .str [], .int .u8 0, .int .i64 0, .int .u64 0, .str [], .int .u32 0, .int .u32 0]] o.preds hz (by omega) (by omega) (by rw [hr]; omega)
 have hm : ∀ x : Ids, (encIds x).cells = some [encIds x] := fun x => by cases x <;> rfl
 have hcp := closed_ids (some o.preds.l)
 simp only [encOp, encIds, List.length_cons, List.length_nil, List.cons_append, List.nil_append] at happ
 simp [encOp, encIds, happ]
 refine AppK.frzS (by exact own_all hz rfl rfl) rfl ?_
 have he : CV.rsl 32 (o.preds.l.map eId) = encIds (some o.preds.l) := rfl
 simp [he, hm, splice]
 exact rd_eq rfl (show (CV.ag (encOp (twO o))).closed = true by have := closed_op (twO o); simpa [CV.closed] using this)
theorem fill_row {t : Int} {O D : List CV} {x : CV} (hO : O.length = 11) (hD : D.length = 32) (hx : x.cells = some [x]) :
  splice (CV.int .u32 0 :: CV.nilS :: CV.int .u64 0 :: CV.int .u8 0 :: CV.str [] :: CV.int .u8 0 :: CV.int .i64 0 :: CV.int .u64 0 :: CV.str [] :: CV.int .u32 0 :: CV.int .u32 0 :: (rep 32 (.int .u8 0) ++ [CV.nilS])) 0 O = O ++ (rep 32 (.int .u8 0) ++ [CV.nilS]) ∧
  (O ++ (rep 32 (.int .u8 0) ++ [CV.nilS])).length = 44 ∧
  splice (O ++ (rep 32 (.int .u8 0) ++ [CV.nilS])) 11 D = O ++ (D ++ [CV.nilS]) ∧
  (O ++ (D ++ [CV.nilS])).length = 44 ∧
  splice (O ++ (D ++ [CV.nilS])) 43 [x] = O ++ (D ++ [x]) := by
 refine ⟨?_, ?_, ?_, ?_, ?_⟩
 ·unfold splice; simp [hO]
 ·simp [hO, rep]
 ·unfold splice; simp [hO, hD, List.take_append, List.drop_append, rep]
 ·simp [hO, hD]
 ·unfold splice; simp [hO, hD, List.take_append, List.drop_append, List.take_of_length_le]
theorem twinS_val (s : Slp) (hs : OkSl s) : PureC Tryz.prog GS 42 [.ag (encSl s)] (.ag (encSl (twS s))) := by
 refine pure_of Tryz.checked.mixed GS_closed ?_
 apply call_intro c42_eq r42_eq
 unfold c42 r42
 have hr : roomMax = 140737488355328 := rfl
 have hR := row_of hs
 have hT := row_of (twS_ok hs)
 have htw := twinO_val s.op hs.op
 have hz : ∀ x ∈ s.miss.l, (eId x).length = 32 := fun x hx => eId_len (hs.miss x hx)
 have hml := hs.len
 have hyl := eId_len hs.id
 have hcm := closed_ids (some s.miss.l)
 have hco := closed_op s.op
 have hrow : encSl (twS s) = .int .i64 s.tk :: (encOp (twO s.op) ++ (eId s.id ++ [encIds (some s.miss.l)])) := rfl
 obtain ⟨R, hRe⟩ : ∃ R, R = encSl s := ⟨_, rfl⟩
 obtain ⟨T, hTe⟩ : ∃ T, T = encSl (twS s) := ⟨_, rfl⟩
 obtain ⟨O, hOe⟩ : ∃ O, O = encOp s.op := ⟨_, rfl⟩
 obtain ⟨U, hUe⟩ : ∃ U, U = encOp (twO s.op) := ⟨_, rfl⟩
 obtain ⟨D, hDe⟩ : ∃ D, D = eId s.id := ⟨_, rfl⟩
 rw [← hRe] at hR ⊢
 rw [← hTe] at hT hrow ⊢
 have f1 := hR.len
 have f2 := hR.tk
 have f3 := hR.op
 have f4 := hR.id
 have f5 := hR.miss
 rw [← hOe] at f3 htw hco
 rw [← hUe] at htw hrow
 rw [← hDe] at f4 hrow hyl
 have hOl : O.length = 11 := by rw [hOe]; rfl
 have hUl : U.length = 11 := by rw [hUe]; rfl
 obtain ⟨sO, lO, sD, lD, sM⟩ := fill_row (t := s.tk) hUl hyl (x := encIds (some s.miss.l)) rfl
 have hmc : (encIds (some s.miss.l)).cells = some [encIds (some s.miss.l)] := rfl
 have happ := app_empty (enc := eId) (by_ := 32) [CB.cells 45 R, CB.cells 45 (CV.int .i64 0 :: CV.int .u32 0 :: CV.nilS :: CV.int .u64 0 :: CV.int .u8 0 :: CV.str [] :: CV.int .u8 0 :: CV.int .i64 0 :: CV.int .u64 0 :: CV.str [] :: CV.int .u32 0 :: CV.int .u32 0 :: (rep 32 (.int .u8 0) ++ [CV.nilS]))] s.miss hz (by omega) (by omega) (by rw [hr]; omega)
 simp only [List.length_cons, List.length_nil, List.cons_append, List.nil_append] at happ
 have hfm : encIds s.miss = encS 32 eId s.miss := rfl
 rw [hfm] at f5
 simp [f1, f2, f3, f4, f5, hOl, hyl, List.take_of_length_le]
 refine pure_call htw (by simp [closedL, CV.closed, hco]) ?_
 simp [f1, f2, f3, f4, f5, hOl, hyl, List.take_of_length_le, happ]
 refine AppK.frzS (by exact own_all hz rfl rfl) rfl ?_
 have he : CV.rsl 32 (s.miss.l.map eId) = encIds (some s.miss.l) := rfl
 have hTl := hT.len
 simp [he, f1, f2, f3, f4, f5, hUl, hyl, hmc, sO, lO, sD, lD, sM, ← hrow, spS hTl, hTl, List.take_of_length_le]
 exact rd_eq rfl (by simp [CV.closed, hT.closed])
structure TwnI (c : Int) (s : Slps) (L : Hl) (k : Nat) (σ : Sg) (l : Hl) : Prop where
 g1 : σ 1 = .ptr L.length 0 2
 g2 : σ 2 = .ptr (L.length + 1) 0 2
 g3 : σ 3 = .ptr (L.length + 2) 0 2
 g4 : σ 4 = .int .i64 k
 fr : ∀ b, b < L.length → l[b]? = L[b]?
 len : L.length + 3 ≤ l.length
 p0 : l[L.length]? = some (.cells 2 (encP c s))
 p1 : l[L.length + 1]? = some (.cells 2 [.int .i64 0, .nilS])
 ex : ∃ v j, l[L.length + 2]? = some (.cells 2 [.int .i64 c, v]) ∧ OwnS 45 l v j (((s.l.take k).map twS).map encSl) ∧ (v = .nilS ∨ L.length + 3 ≤ j) ∧ isNilS v = (s.l.take k).isEmpty
set_option maxHeartbeats 1000000 in
theorem twinP_ob (c : Int) (s : Slps) (hs : okSls s.l) (hl : s.l.length ≤ 1000000) {L : Hl} {K : CV → Hl → Prop}
  (hK : ∀ v l' j, OwnS 45 l' v j ((s.l.map twS).map encSl) → (v = .nilS ∨ L.length ≤ j) → L.length ≤ l'.length → (∀ b, b < L.length → l'[b]? = L[b]?) → isNilS v = s.l.isEmpty → K (.ag [.int .i64 c, v]) l') :
  CallP Tryz.prog GS 19 [.ag (encP c s)] L (c := ⟨K⟩) := by
 apply call_intro c19_eq r19_eq
 unfold c19 r19
 have hlen : lenM (.sl 45) (encSls s) = some (.int .i64 s.l.length) := by simp [encSls]
 have hcs := closed_Sls s
 simp [encP, hlen, List.getElem?_append, List.set_append, splice]
 refine loop_up s.l.length (TwnI c s L) ?_ ⟨by simp, by simp, by simp, by simp, fun b hb => by simp [List.getElem?_append, hb], by simp, by simp [List.getElem?_append, encP], by simp [List.getElem?_append], .nilS, 0, by simp [List.getElem?_append], .nil 0, .inl rfl, rfl⟩
 rintro k σ l hk ⟨g1, g2, g3, g4, fr, hll, p0, p1, v, j, p2, o1, d1, n1⟩
 obtain ⟨σ, rfl⟩ := upds4 g1 g2 g3 g4
 clear g1 g2 g3 g4
 unfold l19_0
 unfold encP at p0
 simp [p0, hlen]
 refine kIf_intro (fun h => ?_) (fun h => ?_)
 ·simp only [decide_eq_true_eq] at h
  obtain ⟨y, hy, hym⟩ := get_of (l := s.l) (k := k) (by omega)
  have hoy := hs y hym
  have hoz := twS_ok hoy
  have hR := row_of hoy
  have hZ := row_of hoz
  have e1 : IntKind.i64.wrap ((k : Int) + 1) = ((k + 1 : Nat) : Int) := by rw [IntKind.wrap_i64]; omega
  have hia : iaC (.sl 45) (encSls s) (.int .i64 (k : Int)) = some (.rptr (encSl y) 0) := by simp [encSls, hy]
  have htw := twinS_val y hoy
  have hcy := closed_encSl y
  have hcz := closed_encSl (twS y)
  have hst : (s.l.take (k + 1)).map twS = (s.l.take k).map twS ++ [twS y] := by rw [List.take_add_one, hy, List.map_append]; rfl
  have hkl : ((s.l.take k).map twS).length ≤ 1000000 := by rw [List.length_map, List.length_take]; omega
  obtain ⟨v', j', l6, a1, b1, c1', dd, ee, ff⟩ := appSl o1 hZ.len hkl
  have f1 := hR.len
  have z1 := hZ.len
  obtain ⟨R, hRe⟩ : ∃ R, R = encSl y := ⟨_, rfl⟩
  obtain ⟨Z, hZe⟩ : ∃ Z, Z = encSl (twS y) := ⟨_, rfl⟩
  rw [← hRe] at f1 hia htw hcy
  rw [← hZe] at z1 htw hcz a1
  have hspZ := spS z1
  have hvc := o1.cells
  have hv'c := b1.cells
  simp at ee
  simp [p0, p2, hia, f1, List.take_of_length_le]
  refine pure_call htw (by simp [closedL, CV.closed, hcy]) ?_
  simp [z1, hspZ, List.take_of_length_le, hvc, a1, p0, p2]
  refine AppK.keep ?_
  have v6 : ∀ b, b < L.length + 3 → l6[b]? = l[b]? := fun b hb => dd b (by omega) (d1.imp id fun h => by omega)
  have r2 : l6[L.length + 2]? = some (.cells 2 [.int .i64 c, v]) := by rw [v6 _ (by omega)]; exact p2
  have hj' : v' = .nilS ∨ L.length + 3 ≤ j' := by
   rcases ee with h | ⟨h, h'⟩
   ·right; omega
   ·right; rw [h']; exact d1.resolve_left h
  simp [r2, hv'c, splice, e1]
  refine ⟨by omega, by simp, by simp, by simp, by simp, fun b hb => ?_, by simp; omega, ?_, ?_, v', j', List.getElem?_set_self (by omega), ?_, hj', ?_⟩
  ·rw [List.getElem?_set_ne (by omega), v6 b (by omega)]; exact fr b hb
  ·rw [List.getElem?_set_ne (by omega), v6 _ (by omega)]; exact p0
  ·rw [List.getElem?_set_ne (by omega), v6 _ (by omega)]; exact p1
  ·rw [hst]
   exact b1.frame2 (hj'.imp id fun h => by rw [List.getElem?_set_ne (by omega)])
  ·rw [ff, List.take_add_one, hy]; simp
 ·simp [h]
  have hk2 : k = s.l.length := by simp at h; omega
  rw [hk2, List.take_length] at o1 n1
  have s2 : ∀ c : CB, (l.set (L.length + 1) c)[L.length + 1]? = some c := fun c => List.getElem?_set_self (by omega)
  have hvc := o1.cells
  simp [p2, p1, s2]
  refine hK v _ j (o1.frame2 (d1.imp id fun h => by rw [List.getElem?_set_ne (by omega)])) (d1.imp id fun h => by omega) (by simp; omega) (fun b hb => ?_) n1
  rw [List.getElem?_set_ne (by omega)]; exact fr b hb
theorem twinP_val (c : Int) (s : Slps) (hs : okSls s.l) (hl : s.l.length ≤ 1000000) : PureC Tryz.prog GS 19 [.ag (encP c s)] (.ag (encP c (svS (s.l.map twS)))) := by
 refine pure_of Tryz.checked.mixed GS_closed ?_
 refine twinP_ob c s hs hl fun v l' j h1 h2 h3 h4 h5 => ?_
 exact rd_ag2 (.same _ rfl) (h1.q.rd_enc closed_encSl (svS (s.l.map twS)) (by rw [h5, svS_none]; simp) (svS_l _))
def svI (l : List (List B)) : Ids := match l with | [] => none | a :: r => some (a :: r)
theorem svI_l (l : List (List B)) : (svI l).l = l := by cases l <;> rfl
theorem svI_none (l : List (List B)) : (svI l).isNone = l.isEmpty := by cases l <;> rfl
theorem keepI_step {p : List B → Bool} {l : List (List B)} {k : Nat} {y : List B} (h : l[k]? = some y) : (l.take (k + 1)).filter p = (l.take k).filter p ++ (if p y then [y] else []) := by
 rw [List.take_add_one, h, List.filter_append]
 cases hp : p y <;> simp [hp]
structure WitI (m : Ids) (x : List B) (k : Nat) (σ : Sg) (l : Hl) : Prop where
 g0 : σ 0 = encIds m
 g3 : σ 3 = .ptr 0 0 32
 g6 : σ 6 = .int .i64 k
 p0 : l[0]? = some (.cells 32 (eId x))
 ex : ∃ v j, σ 5 = v ∧ OwnS 32 l v j (((m.l.take k).filter (notX x)).map eId) ∧ (v = .nilS ∨ 1 ≤ j) ∧ isNilS v = ((m.l.take k).filter (notX x)).isEmpty
theorem rWithout_ok (m : Ids) (hm : okIds m) (hl : m.l.length ≤ 1000000) (x : List B) (hx : x.length = 32) : PureC Tryz.prog GS 47 [encIds m, .ag (eId x)] (encIds (svI (m.l.filter (notX x)))) := by
 refine pure_of Tryz.checked.mixed GS_closed ?_
 apply call_intro c47_eq r47_eq
 unfold c47 r47
 have hlen : lenM (.sl 32) (encIds m) = some (.int .i64 m.l.length) := by simp [encIds]
 have hxl := eId_len hx
 simp [hxl]
 refine loop_up m.l.length (WitI m x) ?_ ⟨by simp, by simp, by simp, rfl, .nilS, 0, by simp, .nil 0, .inl rfl, rfl⟩
 rintro k σ l hk ⟨g0, g3, g6, p0, v, j, g5, o1, d1, n1⟩
 obtain ⟨σ, rfl⟩ := upds4 g0 g3 g5 g6
 clear g0 g3 g5 g6
 unfold l47_0
 simp [hlen]
 refine kIf_intro (fun h => ?_) (fun h => ?_)
 ·simp only [decide_eq_true_eq] at h
  obtain ⟨y, hy, hym⟩ := get_of (l := m.l) (k := k) (by omega)
  have hyl := eId_len (hm y hym)
  have e1 : IntKind.i64.wrap ((k : Int) + 1) = ((k + 1 : Nat) : Int) := by rw [IntKind.wrap_i64]; omega
  have hia : iaC (.sl 32) (encIds m) (.int .i64 (k : Int)) = some (.rptr (eId y) 0) := by simp [encIds, hy]
  have hne := idNeq (hm y hym) hx
  have hst := keepI_step (p := notX x) hy
  have hkl : ((m.l.take k).filter (notX x)).length ≤ 1000000 := by
   refine Nat.le_trans (List.length_filter_le _ _) ?_
   rw [List.length_take]; omega
  obtain ⟨v', j', l6, a1, b1, c1', dd, ee, ff⟩ := appId o1 hyl hkl
  obtain ⟨Y, hY⟩ : ∃ Y, Y = eId y := ⟨_, rfl⟩
  rw [← hY] at hyl hia hne a1
  have hspY : splice (rep 32 (.int .u8 0)) 0 Y = Y := splice_full (by rw [hyl]; rfl)
  by_cases he : y = x
  ·have hn : notX x y = false := by unfold notX; simp [he]
   rw [hn, if_neg (by simp), List.append_nil] at hst
   rw [he] at hne
   simp [hia, hyl, p0, hxl, hne, List.take_of_length_le, e1]
   exact ⟨by omega, by simp, by simp, by simp, p0, v, j, by simp, by rw [hst]; exact o1, d1, by rw [hst]; exact n1⟩
  ·have hn : notX x y = true := by unfold notX; simp [he]
   rw [hn, if_pos rfl] at hst
   simp [hia, hyl, p0, hxl, hne, he, hspY, List.take_of_length_le, a1]
   refine AppK.keep ?_
   simp [e1]
   refine ⟨by omega, by simp, by simp, by simp, ?_, v', j', by simp, by rw [hst]; exact b1, ?_, by rw [ff, hst]; simp⟩
   ·rw [dd 0 (get_lt p0) (d1.imp id fun h => by omega)]; exact p0
   ·have := get_lt p0
    rcases ee with h | ⟨h, h'⟩
    ·right; omega
    ·right; rw [h']; exact d1.resolve_left h
 ·simp [h]
  have hk2 : k = m.l.length := by simp at h; omega
  rw [hk2, List.take_length] at o1 n1
  exact o1.q.rd_enc closed_eId (svI _) (by rw [n1, svI_none]) (svI_l _)
def strikeR (x : List B) (s : Slp) : Slp := { twS s with miss := svI (s.miss.l.filter (notX x)) }
def freedR (x : List B) (l : List Slp) : List Slp := (l.map (strikeR x)).filter gone
def nextR (x : List B) (l : List Slp) : List Slp := (l.map (strikeR x)).filter fun s => !gone s
theorem strikeR_ok {x : List B} {s : Slp} (h : OkSl s) : OkSl (strikeR x s) := by
 refine ⟨twO_ok h.op, h.id, fun y hy => ?_, ?_⟩
 ·have : y ∈ (svI (s.miss.l.filter (notX x))).l := hy
  rw [svI_l] at this
  exact h.miss y (List.mem_filter.1 this).1
 ·show (svI (s.miss.l.filter (notX x))).l.length ≤ _
  rw [svI_l]
  exact Nat.le_trans (List.length_filter_le _ _) h.len
def comeR (c : Int) (l : List Slp) (x : List B) : CV :=
 if penErr c l = 0 then .tu [.ag (encP c (svS (nextR x l))), encSls (svS (freedR x l)), .int .i64 0] else .tu [.ag [.int .i64 0, .nilS], .nilS, .int .i64 (penErr c l)]
structure CmrH (c : Int) (s : Slps) (x : List B) (k : Nat) (v1 : CV) (l : Hl) : Prop where
 p0 : l[0]? = some (.cells 2 (encP c s))
 p1 : l[1]? = some (.cells 32 (eId x))
 p2 : l[2]? = some (.cells 2 [.int .i64 0, .nilS])
 ex : ∃ v2 j1 j2, l[3]? = some (.cells 2 [.int .i64 c, v2]) ∧ OwnS 45 l v1 j1 ((freedR x (s.l.take k)).map encSl) ∧ OwnS 45 l v2 j2 ((nextR x (s.l.take k)).map encSl) ∧ (v1 = .nilS ∨ 4 ≤ j1) ∧ (v2 = .nilS ∨ 4 ≤ j2) ∧ (v1 = .nilS ∨ v2 = .nilS ∨ j1 ≠ j2) ∧
  isNilS v1 = (freedR x (s.l.take k)).isEmpty ∧ isNilS v2 = (nextR x (s.l.take k)).isEmpty
 len : 4 ≤ l.length
structure CmrI (c : Int) (s : Slps) (x : List B) (k : Nat) (σ : Sg) (l : Hl) : Prop where
 g2 : σ 2 = .ptr 0 0 2
 g3 : σ 3 = .ptr 1 0 32
 g4 : σ 4 = .ptr 2 0 2
 g7 : σ 7 = .ptr 3 0 2
 g9 : σ 9 = .int .i64 k
 h : ∃ v1, σ 8 = v1 ∧ CmrH c s x k v1 l
set_option maxHeartbeats 2000000 in
theorem rCome_ok (c : Int) (s : Slps) (hs : okSls s.l) (hl : s.l.length ≤ 1000000) (x : List B) (hx : x.length = 32) : PureC Tryz.prog GS 24 [.ag (encP c s), .ag (eId x)] (comeR c s.l x) := by
 refine pure_of Tryz.checked.mixed GS_closed ?_
 apply call_intro c24_eq r24_eq
 unfold c24 r24 comeR
 have hlen : lenM (.sl 45) (encSls s) = some (.int .i64 s.l.length) := by simp [encSls]
 have hcs := closed_Sls s
 have hcx := closed_eId x
 have hxl := eId_len hx
 have hck := rPCheck_ok c s hs hl
 have hcp : closedL [CV.ag (encP c s)] = true := by simp [encP, closedL, CV.closed, hcs]
 by_cases h0 : penErr c s.l = 0
 ·simp [encP, hxl]
  refine pure_call hck hcp ?_
  simp [h0, hlen]
  refine loop_up s.l.length (CmrI c s x) ?_ ⟨by simp, by simp, by simp, by simp, by simp, .nilS, by simp, ⟨rfl, rfl, rfl, ⟨.nilS, 0, 0, rfl, .nil 0, .nil 0, .inl rfl, .inl rfl, .inl rfl, rfl, rfl⟩, by simp⟩⟩
  rintro k σ l hk ⟨g2, g3, g4, g7, g9, v1, g8, hH⟩
  obtain ⟨σ, rfl⟩ := upds6 g2 g3 g4 g7 g8 g9
  clear g2 g3 g4 g7 g8 g9
  obtain ⟨p0, p1, p2, ⟨v2, j1, j2, p3, o1, o2, d1, d2, d3, n1, n2⟩, hll⟩ := hH
  unfold encP at p0
  unfold l24_0
  simp [p0, hlen]
  refine kIf_intro (fun h => ?_) (fun h => ?_)
  ·simp only [decide_eq_true_eq] at h
   obtain ⟨y, hy, hym⟩ := get_of (l := s.l) (k := k) (by omega)
   have hoy := hs y hym
   have hR := row_of hoy
   have hot := twS_ok hoy
   have hRt := row_of hot
   have hoz := strikeR_ok (x := x) hoy
   have hRz := row_of hoz
   have e1 : IntKind.i64.wrap ((k : Int) + 1) = ((k + 1 : Nat) : Int) := by rw [IntKind.wrap_i64]; omega
   have hia : iaC (.sl 45) (encSls s) (.int .i64 (k : Int)) = some (.rptr (encSl y) 0) := by simp [encSls, hy]
   have hsr := splice_row hot.id
   have htw := twinS_val y hoy
   have hcy := closed_encSl y
   have hwo := rWithout_ok (some y.miss.l) hoy.miss hoy.len x hx
   have hcm := closed_ids (some y.miss.l)
   obtain ⟨n, hn⟩ : ∃ n, n = l.length := ⟨_, rfl⟩
   have hrs : rowW (twS y) (encIds (svI (y.miss.l.filter (notX x)))) = encSl (strikeR x y) := rfl
   have f1 := hR.len
   have t1 := hRt.len
   have t5 := hRt.miss
   have hmx : encIds (twS y).miss = encIds (some y.miss.l) := rfl
   rw [hmx] at t5
   obtain ⟨R, hRe⟩ : ∃ R, R = encSl y := ⟨_, rfl⟩
   obtain ⟨T, hTe⟩ : ∃ T, T = encSl (twS y) := ⟨_, rfl⟩
   simp only [← hRe] at f1 hia htw hcy
   simp only [← hTe] at t1 t5 htw hsr
   have hspT := spS t1
   have hF := hsr (encIds (svI (y.miss.l.filter (notX x))))
   rw [hrs] at hF
   have q1 : ∀ cb : CB, (l ++ [cb])[1]? = some (.cells 32 (eId x)) := fun cb => by rw [List.getElem?_append_left (by omega)]; exact p1
   have q3 : ∀ cb : CB, (l ++ [cb])[3]? = some (.cells 2 [.int .i64 c, v2]) := fun cb => by rw [List.getElem?_append_left (by omega)]; exact p3
   have qn : ∀ cb : CB, (l ++ [cb])[n]? = some cb := fun cb => by rw [hn]; exact List.getElem?_concat_length
   have hws : svI ((Sv.l (some y.miss.l)).filter (notX x)) = svI (y.miss.l.filter (notX x)) := rfl
   rw [hws] at hwo
   obtain ⟨m, hm⟩ : ∃ m, m = svI (y.miss.l.filter (notX x)) := ⟨_, rfl⟩
   rw [← hm] at hF hwo
   have hmc : (encIds m).cells = some [encIds m] := by cases m <;> rfl
   have hml : lenM (.sl 32) (encIds m) = some (.int .i64 m.l.length) := by simp [encIds]
   have hzm : ∀ h : 44 < (encSl (strikeR x y)).length, (encSl (strikeR x y))[44]'h = encIds m := fun h => by rw [hRz.miss h, hm]; rfl
   have hzl := hRz.len
   have hst1 := step_list (p := gone) (f := strikeR x) hy
   have hst2 := step_list (p := fun s => !gone s) (f := strikeR x) hy
   have hgo : gone (strikeR x y) = decide (m.l.length = 0) := by
    have e : (strikeR x y).miss = m := hm.symm
    unfold gone
    rw [e]
    cases m.l <;> simp
   have hfk : (freedR x (s.l.take k)).length ≤ 1000000 := by
    unfold freedR
    refine Nat.le_trans (List.length_filter_le _ _) ?_
    rw [List.length_map, List.length_take]; omega
   have hnk : (nextR x (s.l.take k)).length ≤ 1000000 := by
    unfold nextR
    refine Nat.le_trans (List.length_filter_le _ _) ?_
    rw [List.length_map, List.length_take]; omega
   obtain ⟨L5, hL5⟩ : ∃ L5, L5 = l ++ [CB.cells 45 (encSl (strikeR x y))] := ⟨_, rfl⟩
   have u0 : L5.length = n + 1 := by rw [hL5, hn]; simp
   have w0 : ∀ b, b < n → L5[b]? = l[b]? := fun b hb => by rw [hL5, List.getElem?_append_left (by omega)]
   have u1 : OwnS 45 L5 v1 j1 ((freedR x (s.l.take k)).map encSl) := by rw [hL5]; exact o1.more _
   have u2 : OwnS 45 L5 v2 j2 ((nextR x (s.l.take k)).map encSl) := by rw [hL5]; exact o2.more _
   have w1 : L5[n]? = some (.cells 45 (encSl (strikeR x y))) := by rw [hL5]; exact qn _
   have w3 : L5[3]? = some (.cells 2 [.int .i64 c, v2]) := by rw [hL5]; exact q3 _
   simp [p0, hia, f1, List.take_of_length_le, ← hn]
   refine pure_call htw (by simp [closedL, CV.closed, hcy]) ?_
   simp [t1, hspT, t5, q1, qn, hxl, List.take_of_length_le]
   refine pure_call hwo (by simp [closedL, CV.closed, hcm, hcx]) ?_
   obtain ⟨Z, hZ⟩ : ∃ Z, Z = encSl (strikeR x y) := ⟨_, rfl⟩
   simp only [← hZ] at hF hzm hzl w1 hL5
   have hspZ := spS hzl
   have hset : (l ++ [CB.cells 45 T]).set n (CB.cells 45 Z) = L5 := by rw [hn, hL5]; simp
   simp [t1, qn, hmc, hF, hzm, hzl, hml]
   rw [← hL5]
   have w1n : L5[l.length]? = some (.cells 45 Z) := by rw [← hn]; exact w1
   by_cases hm0 : m.l.length = 0
   ·rw [hm0, decide_eq_true rfl] at hgo
    rw [hgo, if_pos rfl] at hst1
    rw [hgo] at hst2
    simp only [Bool.not_true, Bool.false_eq_true, if_false, List.append_nil] at hst2
    obtain ⟨v', j', l6, a1, b1, c1', dd, ee, ff⟩ := appSl u1 hRz.len hfk
    rw [← hZ] at a1
    have hm0' : m.l = [] := List.length_eq_zero_iff.1 hm0
    simp [w1n, hzl, hm0', hspZ, List.take_of_length_le, a1]
    refine AppK.keep ?_
    have v6 : ∀ b, b < 4 → l6[b]? = l[b]? := fun b hb => by rw [dd b (by omega) (d1.imp id fun h => by omega)]; exact w0 b (by omega)
    have hj2 := u2.lt
    have x2 : OwnS 45 l6 v2 j2 ((nextR x (s.l.take k)).map encSl) := u2.frame2 (by
     rcases hj2 with h | h
     ·exact .inl h
     ·rcases d3 with h3 | h3 | h3
      ·exact .inr (dd j2 h (.inl h3))
      ·exact .inl h3
      ·exact .inr (dd j2 h (.inr fun e => h3 e.symm)))
    simp [e1]
    refine ⟨by omega, by simp, by simp, by simp, by simp, by simp, v', by simp, ⟨by rw [v6 0 (by omega)]; exact p0, by rw [v6 1 (by omega)]; exact p1, by rw [v6 2 (by omega)]; exact p2, ⟨v2, j', j2, by rw [v6 3 (by omega)]; exact p3, ?_, ?_, .inr ?_, d2, ?_, ?_, ?_⟩, by omega⟩⟩
    ·show OwnS 45 l6 v' j' ((freedR x (s.l.take (k + 1))).map encSl)
     unfold freedR at b1 ⊢
     rw [hst1]; exact b1
    ·show OwnS 45 l6 v2 j2 ((nextR x (s.l.take (k + 1))).map encSl)
     unfold nextR at x2 ⊢
     rw [hst2]; exact x2
    ·rcases ee with h | ⟨h, h'⟩
     ·omega
     ·rw [h']; exact d1.resolve_left h
    ·right
     rcases d3 with h3 | h3 | h3
     ·rcases hj2 with h2 | h2
      ·exact .inl h2
      ·rcases ee with h | ⟨h, _⟩
       ·exact .inr (by omega)
       ·exact absurd h3 h
     ·exact .inl h3
     ·rcases hj2 with h2 | h2
      ·exact .inl h2
      ·rcases ee with h | ⟨_, h'⟩
       ·exact .inr (by omega)
       ·exact .inr (by rw [h']; exact h3)
    ·rw [ff]; unfold freedR; rw [hst1]; simp
    ·rw [n2]; unfold nextR; rw [hst2]
   ·rw [decide_eq_false hm0] at hgo
    rw [hgo, if_neg (by simp), List.append_nil] at hst1
    rw [hgo] at hst2
    simp only [Bool.not_false, if_true] at hst2
    obtain ⟨v', j', l6, a1, b1, c1', dd, ee, ff⟩ := appSl u2 hRz.len hnk
    rw [← hZ] at a1
    have hv2c := o2.cells
    have hv'c := b1.cells
    have hm0' : ¬ m.l = [] := fun h => hm0 (by rw [h]; rfl)
    simp [w1n, w3, hzl, hm0', hspZ, List.take_of_length_le, hv2c, a1]
    refine AppK.keep ?_
    have v6 : ∀ b, b < 4 → l6[b]? = l[b]? := fun b hb => by rw [dd b (by omega) (d2.imp id fun h => by omega)]; exact w0 b (by omega)
    have r3 : l6[3]? = some (.cells 2 [.int .i64 c, v2]) := by rw [v6 3 (by omega)]; exact p3
    have hj1 := u1.lt
    have hj' : 4 ≤ j' := by
     rcases ee with h | ⟨h, h'⟩
     ·omega
     ·rw [h']; exact d2.resolve_left h
    have x1 : OwnS 45 l6 v1 j1 ((freedR x (s.l.take k)).map encSl) := u1.frame2 (by
     rcases hj1 with h | h
     ·exact .inl h
     ·rcases d3 with h3 | h3 | h3
      ·exact .inl h3
      ·exact .inr (dd j1 h (.inl h3))
      ·exact .inr (dd j1 h (.inr h3)))
    simp [r3, hv'c, splice, e1]
    refine ⟨by omega, by simp, by simp, by simp, by simp, by simp, v1, by simp, ⟨by rw [List.getElem?_set_ne (by omega), v6 0 (by omega)]; exact p0, by rw [List.getElem?_set_ne (by omega), v6 1 (by omega)]; exact p1, by rw [List.getElem?_set_ne (by omega), v6 2 (by omega)]; exact p2, ⟨v', j1, j', List.getElem?_set_self (by omega), ?_, ?_, d1, .inr hj', ?_, ?_, ?_⟩, by simp; omega⟩⟩
    ·show OwnS 45 _ v1 j1 ((freedR x (s.l.take (k + 1))).map encSl)
     refine (show OwnS 45 l6 v1 j1 ((freedR x (s.l.take (k + 1))).map encSl) from ?_).frame2 (d1.imp id fun h => by rw [List.getElem?_set_ne (by omega)])
     unfold freedR at x1 ⊢
     rw [hst1]; exact x1
    ·show OwnS 45 _ v' j' ((nextR x (s.l.take (k + 1))).map encSl)
     refine (show OwnS 45 l6 v' j' ((nextR x (s.l.take (k + 1))).map encSl) from ?_).frame2 (.inr (by rw [List.getElem?_set_ne (by omega)]))
     unfold nextR at b1 ⊢
     rw [hst2]; exact b1
    ·rcases hj1 with h2 | h2
     ·exact .inl h2
     ·rcases ee with h | ⟨h, h'⟩
      ·exact .inr (.inr (by omega))
      ·rcases d3 with h3 | h3 | h3
       ·exact .inl h3
       ·exact absurd h3 h
       ·exact .inr (.inr (by rw [h']; exact h3))
    ·rw [n1]; unfold freedR; rw [hst1]
    ·rw [ff]; unfold nextR; rw [hst2]; simp
  ·simp [h]
   have hk2 : k = s.l.length := by simp at h; omega
   rw [hk2, List.take_length] at o1 o2 n1 n2
   have s2 : ∀ c : CB, (l.set 2 c)[2]? = some c := fun c => List.getElem?_set_self (by omega)
   have w1 : ∀ c : CB, OwnS 45 (l.set 2 c) v1 j1 ((freedR x s.l).map encSl) := fun c => o1.frame2 (d1.imp id fun h => by rw [List.getElem?_set_ne (by omega)])
   have w2 : ∀ c : CB, OwnS 45 (l.set 2 c) v2 j2 ((nextR x s.l).map encSl) := fun c => o2.frame2 (d2.imp id fun h => by rw [List.getElem?_set_ne (by omega)])
   simp [p3, p2, s2]
   rw [if_pos h0]
   exact rd_tu3 (rd_ag2 (.same _ rfl) ((w2 _).q.rd_enc closed_encSl (svS _) (by rw [n2, svS_none]) (svS_l _))) ((w1 _).q.rd_enc closed_encSl (svS _) (by rw [n1, svS_none]) (svS_l _)) (.same _ rfl)
 ·rw [if_neg h0]
  simp [encP, hxl]
  refine pure_call hck hcp ?_
  simp [h0]
  refine pure_call hck hcp ?_
  simp
  exact rd_eq rfl rfl
def putR (c : Int) (l : List Slp) (t : Int) (o : Opr) (m : Ids) : CV :=
 .tu [if putErr c l t o m.l = 0 then .ag (encP c (some (l.map twS ++ [twS ⟨t, o, idOf o, m⟩]))) else .ag [.int .i64 0, .nilS], .int .i64 (putErr c l t o m.l)]
theorem tk_last {c : Int} {l : List Slp} (h0 : penErr c l = 0) {t : Int} (h : ¬ t ≤ tkPrev l l.length) : ∀ s ∈ l, ¬ t ≤ s.tk := by
 obtain ⟨_, g⟩ := pen_good h0
 obtain ⟨_, g2, _⟩ := (good_split l).1 g
 intro s hs hle
 obtain ⟨j, hj⟩ := List.mem_iff_getElem?.1 hs
 have hjl := (List.getElem?_eq_some_iff.1 hj).1
 obtain ⟨z, hz, hzm⟩ := get_of (l := l) (k := l.length - 1) (by omega)
 have ht : tkPrev l l.length = z.tk := by unfold tkPrev; rw [if_neg (by omega), slAt_get hz]
 rw [ht] at h
 by_cases hjn : j = l.length - 1
 ·rw [hjn, hz] at hj; obtain rfl := Option.some.inj hj; exact h hle
 ·have := (List.pairwise_iff_getElem.1 g2) j (l.length - 1) hjl (by omega) (by omega)
  rw [(List.getElem?_eq_some_iff.1 hj).2, (List.getElem?_eq_some_iff.1 hz).2] at this
  omega
structure PutI (c : Int) (s : Slps) (t : Int) (o : Opr) (m : Ids) (L : Hl) (k : Nat) (σ : Sg) (l : Hl) : Prop where
 hl : l = L
 g1 : σ 1 = .int .i64 t
 g3 : σ 3 = encIds m
 g4 : σ 4 = .ptr 0 0 2
 g6 : σ 6 = .ptr 1 0 11
 g8 : σ 8 = .ptr 2 0 2
 g10 : σ 10 = .ptr 3 0 32
 g12 : σ 12 = .int .i64 k
 hs : ∀ (j : Nat) (z : Slp), j < k → s.l[j]? = some z → ¬ t ≤ z.tk
set_option maxHeartbeats 2000000 in
theorem rPPut_ok (c : Int) (s : Slps) (hs : okSls s.l) (hl : s.l.length ≤ 900000) (t : Int) (o : Opr) (ho : OkOp o) (m : Ids) (hm : okIds m) (hml : m.l.length ≤ 1000000) :
  PureC Tryz.prog GS 23 [.ag (encP c s), .int .i64 t, .ag (encOp o), encIds m] (putR c s.l t o m) := by
 refine pure_of Tryz.checked.mixed GS_closed ?_
 apply call_intro c23_eq r23_eq
 unfold c23 r23 putR
 have hlen : lenM (.sl 45) (encSls s) = some (.int .i64 s.l.length) := by simp [encSls]
 have hcs := closed_Sls s
 have hco := closed_op o
 have hcm := closed_ids m
 have hck := rPCheck_ok c s hs (by omega)
 have hwid := rID6_ok o ho
 have hmis := rLacks_ok o ho m hm hml
 have hil := idOf_len6 o
 have hdl := eId_len hil
 have hpa := rAt_ok c s hs (by omega) (idOf o) hil
 have hix := ixOf_neg (idOf o) (s.l.map Slp.id) 0
 have hci := closed_eId (idOf o)
 have hcp : closedL [CV.ag (encP c s)] = true := by simp [encP, closedL, CV.closed, hcs]
 obtain ⟨O, hO⟩ : ∃ O, O = encOp o := ⟨_, rfl⟩
 have hOl : O.length = 11 := by rw [hO]; rfl
 have hrow : encSl ⟨t, o, idOf o, m⟩ = .int .i64 t :: (O ++ (eId (idOf o) ++ [encIds m])) := by rw [hO]; rfl
 have hok1 : OkSl ⟨t, o, idOf o, m⟩ := ⟨ho, hil, hm, hml⟩
 have htw := twinS_val _ hok1
 have hsl := (row_of hok1).len
 have hcr := closed_encSl ⟨t, o, idOf o, m⟩
 have hzl := (row_of (twS_ok hok1)).len
 have hcz := closed_encSl (twS ⟨t, o, idOf o, m⟩)
 rw [← hO] at hwid hmis hco ⊢
 have hidC : idC (idOf o) = .ag (eId (idOf o)) := rfl
 rw [hidC] at hwid
 obtain ⟨D, hD⟩ : ∃ D, D = eId (idOf o) := ⟨_, rfl⟩
 rw [← hD] at hwid hdl hpa hci hrow
 obtain ⟨R, hRe⟩ : ∃ R, R = encSl ⟨t, o, idOf o, m⟩ := ⟨_, rfl⟩
 obtain ⟨Z, hZe⟩ : ∃ Z, Z = encSl (twS ⟨t, o, idOf o, m⟩) := ⟨_, rfl⟩
 have hzl0 := hzl
 rw [← hRe] at hrow htw hsl hcr
 rw [← hZe] at htw hzl hcz
 have hspD : splice (rep 32 (.int .u8 0)) 0 D = D := splice_full (by rw [hdl]; rfl)
 have hmc : (encIds m).cells = some [encIds m] := by cases m <;> rfl
 obtain ⟨sO, lO, sD, lD, sM⟩ := fill_row (t := t) hOl hdl hmc
 by_cases h0 : penErr c s.l = 0
 ·simp [encP, hOl]
  refine pure_call hck hcp ?_
  simp [h0, hOl, hlen, List.take_of_length_le]
  refine pure_call hwid (by simp [closedL, CV.closed, hco]) ?_
  by_cases h1 : opErr o = 0
  ·by_cases h2 : t < 0
   ·have hp : putErr c s.l t o m.l = 2 := by unfold putErr; simp [h0, h1, h2]
    rw [hp]
    simp [hdl, hspD, hlen, h1, h2, List.take_of_length_le]
    exact rd_eq rfl rfl
   ·by_cases h3 : 1000000000 < t
    ·have hp : putErr c s.l t o m.l = 2 := by unfold putErr; simp [h0, h1, h3]
     rw [hp]
     simp [hdl, hspD, hlen, h1, h2, h3, List.take_of_length_le]
     exact rd_eq rfl rfl
    ·simp [hdl, hspD, hlen, h1, h2, h3, hOl, List.take_of_length_le]
     refine pure_call hmis (by simp [closedL, CV.closed, hco, hcm]) ?_
     cases h4 : missB o m.l with
     | false =>
      have hp : putErr c s.l t o m.l = 2 := by unfold putErr; simp [h0, h1, h4]
      rw [hp]
      simp
      exact rd_eq rfl rfl
     | true =>
      simp [hdl, List.take_of_length_le]
      refine pure_call hpa (show closedL [CV.ag (encP c s), CV.ag D] = true by simp [encP, closedL, CV.closed, hcs, hci]) ?_
      by_cases h5 : idOf o ∈ s.l.map Slp.id
      ·have hp : putErr c s.l t o m.l = 14 := by unfold putErr; rw [if_neg (by omega), if_neg (by omega), if_neg (by simp [h2, h3, h4]), if_pos h5]
       have hge : 0 ≤ ixOf (idOf o) (s.l.map Slp.id) 0 := hix.2 h5
       rw [hp]
       simp [hge]
       exact rd_eq rfl rfl
      ·have hge : ¬ 0 ≤ ixOf (idOf o) (s.l.map Slp.id) 0 := fun h => h5 (hix.1 h)
       have hpre : putErr c s.l t o m.l = if t ≤ tkPrev s.l s.l.length then 32 else if (s.l.length : Int) = c then 18 else 0 := by
        unfold putErr; rw [if_neg (by omega), if_neg (by omega), if_neg (by simp [h2, h3, h4]), if_neg h5]
       simp [hge]
       obtain ⟨L, hL⟩ : ∃ L : Hl, L = [CB.cells 2 (encP c s), CB.cells 11 O, CB.cells 2 [.int .i64 0, .nilS], CB.cells 32 D] := ⟨_, rfl⟩
       have k0 : L[0]? = some (.cells 2 (encP c s)) := by rw [hL]; rfl
       have k1 : L[1]? = some (.cells 11 O) := by rw [hL]; rfl
       have k2 : L[2]? = some (.cells 2 [.int .i64 0, .nilS]) := by rw [hL]; rfl
       have k3 : L[3]? = some (.cells 32 D) := by rw [hL]; rfl
       have kl : L.length = 4 := by rw [hL]; rfl
       unfold encP at hL k0
       rw [← hL]
       have s2 : ∀ cb : CB, (L.set 2 cb)[2]? = some cb := fun cb => List.getElem?_set_self (by omega)
       refine loop_up s.l.length (PutI c s t o m L) ?_ ⟨rfl, by simp, by simp, by simp, by simp, by simp, by simp, by simp, fun j z h => by omega⟩
       rintro k σ l hk ⟨rfl, g1, g3, g4, g6, g8, g10, g12, hss⟩
       obtain ⟨σ, rfl⟩ := upds7 g1 g3 g4 g6 g8 g10 g12
       clear g1 g3 g4 g6 g8 g10 g12
       unfold l23_0
       simp [k0, hlen]
       refine kIf_intro (fun h => ?_) (fun h => ?_)
       ·simp only [decide_eq_true_eq] at h
        obtain ⟨z, hz, hzm⟩ := get_of (l := s.l) (k := k) (by omega)
        have e1 : IntKind.i64.wrap ((k : Int) + 1) = ((k + 1 : Nat) : Int) := by rw [IntKind.wrap_i64]; omega
        have hiz : iaC (.sl 45) (encSls s) (.int .i64 (k : Int)) = some (.rptr (encSl z) 0) := by simp [encSls, hz]
        have hY := row_of (hs z hzm)
        have g2 := hY.tk
        have g1 := hY.len
        obtain ⟨Y, hYe⟩ : ∃ Y, Y = encSl z := ⟨_, rfl⟩
        simp only [← hYe] at g1 g2 hiz
        by_cases h6 : t ≤ z.tk
        ·have h7 : t ≤ tkPrev s.l s.l.length := Decidable.byContradiction fun h => tk_last h0 h z hzm h6
         have hp : putErr c s.l t o m.l = 32 := by rw [hpre, if_pos h7]
         rw [hp]
         simp [k0, hiz, g1, g2, h6, k2, s2, splice]
         exact rd_eq rfl rfl
        ·simp [k0, hiz, g1, g2, h6, e1]
         exact ⟨by omega, rfl, by simp, by simp, by simp, by simp, by simp, by simp, by simp, fun j w hj hw => by
          by_cases hjk : j = k
          ·rw [hjk, hz] at hw; obtain rfl := Option.some.inj hw; exact h6
          ·exact hss j w (by omega) hw⟩
       ·have hk2 : k = s.l.length := by simp at h; omega
        have h6 : ¬ t ≤ tkPrev s.l s.l.length := fun h7 => by
         by_cases hne : s.l.length = 0
         ·rw [hne] at h7; simp [tkPrev] at h7; omega
         ·obtain ⟨z, hz, hzm⟩ := get_of (l := s.l) (k := s.l.length - 1) (by omega)
          refine hss (s.l.length - 1) z (by omega) hz ?_
          unfold tkPrev at h7; rw [if_neg hne, slAt_get hz] at h7; exact h7
        simp [h, k0, hlen]
        refine kIf_intro (fun h7 => ?_) (fun h7 => ?_)
        ·have h7' : (s.l.length : Int) = c := by simpa using h7
         have hp : putErr c s.l t o m.l = 18 := by rw [hpre, if_neg h6, if_pos h7']
         rw [hp]
         simp [k2, s2, splice]
         exact rd_eq rfl rfl
        ·have h7' : ¬ (s.l.length : Int) = c := by simpa using h7
         have hp : putErr c s.l t o m.l = 0 := by rw [hpre, if_neg h6, if_neg h7']
         rw [hp]
         simp [k0]
         refine twinP_ob c s hs (by omega) fun v l' j ho' hj hle hsm hn => ?_
         simp
         have w1 : ∀ cb : CB, (l' ++ [cb])[1]? = some (.cells 11 O) := fun cb => by rw [List.getElem?_append_left (by omega), hsm 1 (by omega)]; exact k1
         have w2 : ∀ cb : CB, (l' ++ [cb])[2]? = some (.cells 2 [.int .i64 0, .nilS]) := fun cb => by rw [List.getElem?_append_left (by omega), hsm 2 (by omega)]; exact k2
         have w3 : ∀ cb : CB, (l' ++ [cb])[3]? = some (.cells 32 D) := fun cb => by rw [List.getElem?_append_left (by omega), hsm 3 (by omega)]; exact k3
         obtain ⟨v', j', l6, b0, b1, c1', dd, ee, ff⟩ := appSl (s := twS ⟨t, o, idOf o, m⟩) ((ho'.more [.cells 2 [.int .i64 c, v]])) hzl0 (by rw [List.length_map]; omega)
         rw [← hZe] at b0
         have hvc := ho'.cells
         have hv'c := b1.cells
         have hn0 : ∀ cb : CB, (l' ++ [cb])[l'.length]? = some cb := fun cb => List.getElem?_concat_length
         simp at b0 c1' ee dd
         simp [w1, w3, hOl, hdl, List.take_of_length_le, sO, sD, sM, lO, lD, hmc, ← hrow]
         refine pure_call htw (by simp [closedL, CV.closed, hcr]) ?_
         have hspZ := spS hzl
         simp [w1, w3, hOl, hdl, List.take_of_length_le, hzl, hspZ, b0, hvc]
         refine AppK.keep ?_
         have x2 : l6[2]? = some (.cells 2 [.int .i64 0, .nilS]) := by
          rw [dd 2 (by omega) (hj.imp id fun h => by omega)]; exact w2 _
         have xn : l6[l'.length]? = some (.cells 2 [.int .i64 c, v]) := by
          rw [dd _ (by omega) (ho'.lt.imp id fun h => by omega)]
          exact hn0 _
         have hj' : 4 ≤ j' ∧ j' ≠ l'.length := by
          rcases ee with h | ⟨h, h'⟩
          ·omega
          ·have h1 := hj.resolve_left h
           have h2 := ho'.lt.resolve_left h
           omega
         have q0 : ∀ cb : CB, (l6.set l'.length cb)[l'.length]? = some cb := fun cb => List.getElem?_set_self (by omega)
         have q2 : ∀ cb : CB, (l6.set l'.length cb)[2]? = some (.cells 2 [.int .i64 0, .nilS]) := fun cb => by rw [List.getElem?_set_ne (by omega)]; exact x2
         have q3 : ∀ cb cb' : CB, ((l6.set l'.length cb).set 2 cb')[2]? = some cb' := fun cb cb' => List.getElem?_set_self (by simp; omega)
         simp [x2, xn, hv'c, splice, q0, q2, q3]
         refine rd_tu2 (rd_ag2 (.same _ rfl) ((b1.frame2 (.inr (by rw [List.getElem?_set_ne (by omega), List.getElem?_set_ne (by omega)]))).q.rd_enc closed_encSl (some (s.l.map twS ++ [twS ⟨t, o, idOf o, m⟩])) (by rw [ff]; rfl) rfl)) (.same _ rfl)
  ·have hp : putErr c s.l t o m.l = 8 := by unfold putErr; simp [h0, h1]
   rw [hp]
   simp [hdl, hspD, hlen, h1, List.take_of_length_le]
   exact rd_eq rfl rfl
 ·have hp : putErr c s.l t o m.l = penErr c s.l := by unfold putErr; simp [h0]
  rw [hp]
  simp [encP, hOl]
  refine pure_call hck hcp ?_
  simp [h0]
  refine pure_call hck hcp ?_
  simp
  rw [if_neg h0]
  exact rd_eq rfl rfl
def hasW (c : Int) (l : List Slp) (x : List B) : CV := if penErr c l = 0 then .tu [.bool (decide (x ∈ l.map Slp.id)), .int .i64 0] else .tu [.bool false, .int .i64 (penErr c l)]
theorem wHas_ok (c : Int) (s : Slps) (hs : okSls s.l) (hl : s.l.length ≤ 1000000) (x : List B) (hx : x.length = 32) : PureC Tryz.prog GS 26 [.ag (encP c s), .ag (eId x)] (hasW c s.l x) := by
 refine pure_of Tryz.checked.mixed GS_closed ?_
 apply call_intro c26_eq r26_eq
 unfold c26 r26 hasW
 have hcs := closed_Sls s
 have hcx := closed_eId x
 have hxl := eId_len hx
 have hck := wPCheck_ok c s hs hl
 have hpa := pAt_ok s hs hl x hx
 have hix := ixOf_neg x (s.l.map Slp.id) 0
 have hcp : closedL [CV.ag (encP c s)] = true := by simp [encP, closedL, CV.closed, hcs]
 by_cases h0 : penErr c s.l = 0
 ·simp [encP, hxl]
  refine pure_call hck hcp ?_
  simp [h0, hxl, List.take_of_length_le]
  refine pure_call hpa (by simp [closedL, CV.closed, hcs, hcx]) ?_
  rw [if_pos h0]
  simp
  exact rd_eq (by simp [hix]) rfl
 ·simp [encP, hxl]
  refine pure_call hck hcp ?_
  rw [if_neg h0]
  simp [h0]
  exact rd_eq rfl rfl
theorem rHas_ok (c : Int) (s : Slps) (hs : okSls s.l) (hl : s.l.length ≤ 1000000) (x : List B) (hx : x.length = 32) : PureC Tryz.prog GS 27 [.ag (encP c s), .ag (eId x)] (hasW c s.l x) := by
 refine pure_of Tryz.checked.mixed GS_closed ?_
 apply call_intro c27_eq r27_eq
 unfold c27 r27 hasW
 have hcs := closed_Sls s
 have hcx := closed_eId x
 have hxl := eId_len hx
 have hck := rPCheck_ok c s hs hl
 have hpa := rAt_ok c s hs hl x hx
 have hix := ixOf_neg x (s.l.map Slp.id) 0
 have hcp : closedL [CV.ag (encP c s)] = true := by simp [encP, closedL, CV.closed, hcs]
 by_cases h0 : penErr c s.l = 0
 ·simp [encP, hxl]
  refine pure_call hck hcp ?_
  simp [h0, hxl, List.take_of_length_le]
  refine pure_call hpa (show closedL [CV.ag (encP c s), CV.ag (eId x)] = true by simp [encP, closedL, CV.closed, hcs, hcx]) ?_
  rw [if_pos h0]
  simp
  exact rd_eq (by simp [hix]) rfl
 ·simp [encP, hxl]
  refine pure_call hck hcp ?_
  rw [if_neg h0]
  simp [h0]
  refine pure_call hck hcp ?_
  simp
  exact rd_eq rfl rfl
def newW (n : Int) : CV := if n < 1 ∨ 8 < n then .tu [.ag (encP 0 none), .int .i64 2] else .tu [.ag (encP n none), .int .i64 0]
theorem wPNew_ok (n : Int) : PureC Tryz.prog GS 20 [.int .i64 n] (newW n) := by
 refine pure_of Tryz.checked.mixed GS_closed ?_
 apply call_intro c20_eq r20_eq
 unfold c20 r20 newW
 by_cases h1 : n < 1
 ·simp [h1]
  exact rd_eq rfl rfl
 ·by_cases h2 : 8 < n
  ·simp [h1, h2]
   exact rd_eq rfl rfl
  ·rw [if_neg (by omega)]
   simp [h1, h2, splice]
   exact rd_eq rfl rfl
theorem rPNew_ok (n : Int) : PureC Tryz.prog GS 21 [.int .i64 n] (newW n) := by
 refine pure_of Tryz.checked.mixed GS_closed ?_
 apply call_intro c21_eq r21_eq
 unfold c21 r21 newW
 by_cases h1 : n < 1
 ·simp [h1]
  exact rd_eq rfl rfl
 ·by_cases h2 : 8 < n
  ·simp [h1, h2]
   exact rd_eq rfl rfl
  ·rw [if_neg (by omega)]
   simp [h1, h2, splice]
   exact rd_eq rfl rfl
end Op
end Go.CM

namespace Go.CM
open Go Go.Proofs
set_option maxRecDepth 100000
namespace Op
section
variable {α : Type} {z : Nat} {enc : α → List CV}
theorem ob_get {l l1 : Hl} {v : CV} {a : List α} {nl : Bool} (h : Ob z enc l l1 v a nl) {k : Nat} {y : α} (hy : a[k]? = some y) :
  ∃ p cs o, iaC (.sl z) v (.int .i64 (k : Int)) = some p ∧ reachL l1 p = some (cs, o) ∧ o + z ≤ cs.length ∧ (cs.drop o).take z = enc y := by
 obtain ⟨j, ho, _⟩ := h
 exact ho.q.get (k := .i64) (i := k) (e := enc y) (by rw [List.getElem?_map, hy]; rfl)
theorem ob_set {l l1 : Hl} {v : CV} {a : List α} {nl : Bool} (h : Ob z enc l l1 v a nl) (hz : ∀ y ∈ a, (enc y).length = z) {k : Nat} {y : α} {X : CV} (hX : X.cells = some (enc y)) (hk : k < a.length) (hy : (enc y).length = z) :
  ∃ p l', iaC (.sl z) v (.int .i64 (k : Int)) = some p ∧ storeL z l1 p X = some l' ∧ Ob z enc l l' v (a.set k y) nl := by
 obtain ⟨j, ho, h2, h3, h4, h5⟩ := h
 obtain ⟨p, l', a1, a2, a3, a4, a5⟩ := ow_set hX ho hz hk hy
 refine ⟨p, l', a1, a2, j, a3, by omega, fun b hb => ?_, h4, h5⟩
 rcases h4 with h4 | h4
 ·subst h4
  have := ho.q.nil_of
  rw [List.map_eq_nil_iff] at this
  rw [this] at hk; simp at hk
 ·rw [a5 b (by omega)]; exact h3 b hb
theorem ob_push {by_ : Nat} {l l1 : Hl} {v : CV} {a : List α} {nl : Bool} (h : Ob z enc l l1 v a nl) (x : α) {b : Nat} (hb : l1[b]? = some (.cells z (enc x))) (hx : (enc x).length = z) (h0 : z ≠ 0) (hby : by_ ≠ 0) (hroom : (a.length + 1) * by_ ≤ roomMax) :
  ∃ v' l', appM l1 z by_ v (.sl z b 0 1 1 z) = some (v', l') ∧ Ob z enc l l' v' (a ++ [x]) false ∧ l1.length ≤ l'.length := by
 obtain ⟨v', l', g1, g2, g3⟩ := h.app (by_ := by_) (x := .sl z b 0 1 1 z) (xs := [x]) (by simp [contentsL, hb, hx, List.take_of_length_le]) (by simp [hx]) h0 hby (by simpa using hroom)
 exact ⟨v', l', g1, by simpa using g2, g3⟩
def insG (l : List α) (i : Nat) (x : α) : List α := l.take i ++ x :: l.drop i
theorem insG_len (l : List α) (i : Nat) (x : α) : (insG l i x).length = l.length + 1 := by
 unfold insG
 have := congrArg List.length (List.take_append_drop i l)
 simp only [List.length_append, List.length_cons] at this ⊢; omega
theorem insG_get {l : List α} {i : Nat} {x : α} (hi : i ≤ l.length) : (insG l i x)[i]? = some x := by
 unfold insG
 rw [List.getElem?_append_right (by rw [List.length_take]; omega), List.length_take, Nat.min_eq_left hi]; simp
theorem insG_lo {l : List α} {i k : Nat} {x : α} (hk : k < i) (hi : i ≤ l.length) : (insG l i x)[k]? = l[k]? := by
 unfold insG
 rw [List.getElem?_append_left (by rw [List.length_take]; omega), List.getElem?_take_of_lt hk]
theorem insG_swap {l : List α} {i : Nat} {x y : α} (hy : l[i]? = some y) : ((insG l (i + 1) x).set (i + 1) y).set i x = insG l i x := by
 have hi := (List.getElem?_eq_some_iff.1 hy).1
 have h1 : l.take (i + 1) = l.take i ++ [y] := by rw [List.take_add_one, hy]; rfl
 have h2 : l.drop i = y :: l.drop (i + 1) := by rw [List.drop_eq_getElem_cons hi, (List.getElem?_eq_some_iff.1 hy).2]
 have hl : (l.take i).length = i := by rw [List.length_take]; omega
 unfold insG
 rw [h1, h2, List.append_assoc]
 rw [List.set_append_right _ _ (by omega), List.set_append_right _ _ (by omega), hl]
 simp
theorem insG_mem {l : List α} {i : Nat} {x y : α} : y ∈ insG l i x ↔ y = x ∨ y ∈ l := by
 unfold insG
 rw [List.mem_append, List.mem_cons]
 constructor
 ·rintro (h | h | h)
  ·exact .inr (List.mem_of_mem_take h)
  ·exact .inl h
  ·exact .inr (List.mem_of_mem_drop h)
 ·rintro (h | h)
  ·exact .inr (.inl h)
  ·rw [← List.take_append_drop i l, List.mem_append] at h
   exact h.elim .inl fun h => .inr (.inr h)
theorem insG_app {s r : List α} {i : Nat} (hi : i ≤ s.length) (x : α) : insG (s ++ r) i x = insG s i x ++ r := by
 unfold insG
 rw [List.take_append_of_le_length hi, List.drop_append_of_le_length hi]; simp
def posG (lt : α → α → Bool) (l : List α) (x : α) : Nat → Nat
 | 0 => 0
 | k + 1 => match l[k]? with
  | some y => if lt x y then posG lt l x k else k + 1
  | none => k + 1
theorem posG_le (lt : α → α → Bool) (l : List α) (x : α) : ∀ k, posG lt l x k ≤ k
 | 0 => Nat.le_refl _
 | k + 1 => by
  unfold posG
  split
  ·split
   ·have := posG_le lt l x k; omega
   ·exact Nat.le_refl _
  ·exact Nat.le_refl _
theorem posG_some {lt : α → α → Bool} {l : List α} {x y : α} {k : Nat} (h : l[k]? = some y) : posG lt l x (k + 1) = if lt x y then posG lt l x k else k + 1 := by
 rw [posG, h]
theorem posG_app (lt : α → α → Bool) (s r : List α) (x : α) : ∀ k, k ≤ s.length → posG lt (s ++ r) x k = posG lt s x k
 | 0, _ => rfl
 | k + 1, hk => by
  obtain ⟨y, hy, _⟩ := get_of (l := s) (k := k) (by omega)
  rw [posG_some hy, posG_some (by rw [List.getElem?_append_left (by omega)]; exact hy), posG_app lt s r x k (by omega)]
theorem ins_sorted {lt : α → α → Bool} (htr : ∀ a b c, lt a b = true → lt b c = true → lt a c = true) {l : List α} {x : α} (hs : l.Pairwise fun a b => lt a b = true) (hx : ∀ y ∈ l, lt x y = false → lt y x = true) :
  (insG l (posG lt l x l.length) x).Pairwise fun a b => lt a b = true := by
 have key : ∀ k, k ≤ l.length → (∀ y ∈ l.drop k, lt x y = true) → (insG l (posG lt l x k) x).Pairwise fun a b => lt a b = true := by
  intro k
  induction k with
  | zero =>
   intro _ h
   show (insG l 0 x).Pairwise _
   unfold insG
   rw [List.take_zero, List.nil_append, List.drop_zero, List.pairwise_cons]
   exact ⟨h, hs⟩
  | succ k ih =>
   intro hk h
   obtain ⟨y, hy, hym⟩ := get_of (l := l) (k := k) (by omega)
   rw [posG_some hy]
   have hd : l.drop k = y :: l.drop (k + 1) := by rw [List.drop_eq_getElem_cons (by omega), (List.getElem?_eq_some_iff.1 hy).2]
   have ht : l.take (k + 1) = l.take k ++ [y] := by rw [List.take_add_one, hy]; rfl
   cases hxy : lt x y with
   | true =>
    rw [if_pos rfl]
    refine ih (by omega) fun w hw => ?_
    rw [hd] at hw
    rcases List.mem_cons.1 hw with rfl | hw
    ·exact hxy
    ·exact h w hw
   | false =>
    rw [if_neg (by simp)]
    have hyx := hx y hym hxy
    have h1 : ∀ a ∈ l.take (k + 1), lt a x = true := fun a ha => by
     rw [ht, List.mem_append, List.mem_singleton] at ha
     rcases ha with ha | rfl
     ·have h2 : (l.take k ++ y :: l.drop (k + 1)).Pairwise fun a b => lt a b = true := by rw [← hd, List.take_append_drop]; exact hs
      exact htr _ _ _ ((List.pairwise_append.1 h2).2.2 a ha y (by simp)) hyx
     ·exact hyx
    unfold insG
    have h2 := hs
    rw [← List.take_append_drop (k + 1) l] at h2
    obtain ⟨p1, p2, p3⟩ := List.pairwise_append.1 h2
    refine List.pairwise_append.2 ⟨p1, List.pairwise_cons.2 ⟨h, p2⟩, fun a ha b hb => ?_⟩
    rcases List.mem_cons.1 hb with rfl | hb
    ·exact h1 a ha
    ·exact p3 a ha b hb
 exact key _ (Nat.le_refl _) (by simp)
theorem sorted_uniq {lt : α → α → Bool} (hir : ∀ a, lt a a = false) (htr : ∀ a b c, lt a b = true → lt b c = true → lt a c = true) : ∀ {l m : List α}, l.Pairwise (fun a b => lt a b = true) → m.Pairwise (fun a b => lt a b = true) → (∀ y, y ∈ l ↔ y ∈ m) → l = m
 | [], [], _, _, _ => rfl
 | [], b :: m, _, _, h => absurd ((h b).2 (by simp)) (by simp)
 | a :: l, [], _, _, h => absurd ((h a).1 (by simp)) (by simp)
 | a :: l, b :: m, hl, hm, h => by
  obtain ⟨l1, l2⟩ := List.pairwise_cons.1 hl
  obtain ⟨m1, m2⟩ := List.pairwise_cons.1 hm
  have hab : a = b := by
   rcases List.mem_cons.1 ((h a).1 (by simp)) with e | e
   ·exact e
   ·rcases List.mem_cons.1 ((h b).2 (by simp)) with e2 | e2
    ·exact e2.symm
    ·have := htr _ _ _ (m1 a e) (l1 b e2)
     rw [hir] at this; cases this
  subst hab
  congr 1
  refine sorted_uniq hir htr l2 m2 fun y => ⟨fun hy => ?_, fun hy => ?_⟩
  ·rcases List.mem_cons.1 ((h y).1 (by simp [hy])) with e | e
   ·subst e
    have := l1 y hy
    rw [hir] at this; cases this
   ·exact e
  ·rcases List.mem_cons.1 ((h y).2 (by simp [hy])) with e | e
   ·subst e
    have := m1 y hy
    rw [hir] at this; cases this
   ·exact e
def sortG (lt : α → α → Bool) (u : List α) : Nat → List α
 | 0 => []
 | i + 1 => match u[i]? with
  | some x => insG (sortG lt u i) (posG lt (sortG lt u i) x (sortG lt u i).length) x
  | none => sortG lt u i
theorem sortG_some {lt : α → α → Bool} {u : List α} {i : Nat} {x : α} (h : u[i]? = some x) : sortG lt u (i + 1) = insG (sortG lt u i) (posG lt (sortG lt u i) x (sortG lt u i).length) x := by rw [sortG, h]
theorem sortG_len {lt : α → α → Bool} {u : List α} : ∀ {i : Nat}, i ≤ u.length → (sortG lt u i).length = i
 | 0, _ => rfl
 | i + 1, h => by
  obtain ⟨x, hx, _⟩ := get_of (l := u) (k := i) (by omega)
  rw [sortG_some hx, insG_len, sortG_len (by omega)]
theorem sortG_mem {lt : α → α → Bool} {u : List α} {y : α} : ∀ {i : Nat}, i ≤ u.length → (y ∈ sortG lt u i ↔ y ∈ u.take i)
 | 0, _ => by simp [sortG]
 | i + 1, h => by
  obtain ⟨x, hx, _⟩ := get_of (l := u) (k := i) (by omega)
  rw [sortG_some hx, insG_mem, sortG_mem (by omega), List.take_add_one, hx, List.mem_append]
  simp [or_comm]
theorem sortG_sorted {lt : α → α → Bool} (htr : ∀ a b c, lt a b = true → lt b c = true → lt a c = true) (htot : ∀ a b, a ≠ b → lt a b = false → lt b a = true) {u : List α} (hn : u.Nodup) : ∀ {i : Nat}, i ≤ u.length → (sortG lt u i).Pairwise fun a b => lt a b = true
 | 0, _ => List.Pairwise.nil
 | i + 1, h => by
  obtain ⟨x, hx, _⟩ := get_of (l := u) (k := i) (by omega)
  rw [sortG_some hx]
  refine ins_sorted htr (sortG_sorted htr htot hn (by omega)) fun y hy hxy => htot x y (fun e => ?_) hxy
  subst e
  rw [sortG_mem (by omega)] at hy
  have h2 : (u.take i ++ [x]).Nodup := by
   have : u.take (i + 1) = u.take i ++ [x] := by rw [List.take_add_one, hx]; rfl
   rw [← this]; exact hn.sublist (List.take_sublist _ _)
  exact (List.nodup_append.1 h2).2.2 x hy x (by simp) rfl
end
section
variable {α : Type} [DecidableEq α]
def uq (l : List α) : List α := l.foldl (fun a x => if x ∈ a then a else a ++ [x]) []
theorem uq_snoc (l : List α) (x : α) : uq (l ++ [x]) = if x ∈ uq l then uq l else uq l ++ [x] := by
 unfold uq; rw [List.foldl_append]; rfl
theorem mem_uq {x : α} (l : List α) : x ∈ uq l ↔ x ∈ l := by
 generalize hn : l.length = n
 induction n generalizing l x with
 | zero =>
  have : l = [] := List.length_eq_zero_iff.1 hn
  subst this; simp [uq]
 | succ n ih =>
  have hl : l ≠ [] := fun h => by rw [h] at hn; simp at hn
  rw [← List.dropLast_concat_getLast hl, uq_snoc, List.mem_append, List.mem_singleton]
  have h1 : ∀ y, y ∈ uq l.dropLast ↔ y ∈ l.dropLast := fun y => ih (x := y) l.dropLast (by rw [List.length_dropLast]; omega)
  split
  ·rename_i hm
   rw [h1]
   exact ⟨.inl, fun h => h.elim id fun e => by rw [e]; exact (h1 _).1 hm⟩
  ·rw [List.mem_append, h1, List.mem_singleton]
theorem nodup_uq (l : List α) : (uq l).Nodup := by
 generalize hn : l.length = n
 induction n generalizing l with
 | zero =>
  have : l = [] := List.length_eq_zero_iff.1 hn
  subst this; simp [uq]
 | succ n ih =>
  have hl : l ≠ [] := fun h => by rw [h] at hn; simp at hn
  rw [← List.dropLast_concat_getLast hl, uq_snoc]
  have h1 := ih l.dropLast (by rw [List.length_dropLast]; omega)
  split
  ·exact h1
  ·rename_i hm
   refine List.nodup_append.2 ⟨h1, by simp, fun a ha b hb => ?_⟩
   rw [List.mem_singleton] at hb
   subst hb
   exact fun e => hm (by rw [← e]; exact ha)
end
end Op
end Go.CM

namespace Go.CM
open Go Go.Proofs Go.Sort
set_option maxRecDepth 100000
namespace Op
open Sha
theorem ltB_self (a : List B) : ltB a a = false := by
 cases h : ltB a a with
 | false => rfl
 | true => rw [ltB_iff, cmpB_self] at h; omega
theorem ltB_trans (a b c : List B) (h1 : ltB a b = true) (h2 : ltB b c = true) : ltB a c = true := (ltB_iff _ _).2 (cmpB_trans a b c ((ltB_iff _ _).1 h1) ((ltB_iff _ _).1 h2))
theorem ltB_tot (a b : List B) (hne : a ≠ b) (h : ltB a b = false) : ltB b a = true := by
 rw [ltB_iff, cmpB_swap]
 rcases cmpB_cases a b with h1 | h1 | h1
 ·rw [(ltB_iff a b).2 (by omega)] at h; cases h
 ·exact absurd (cmpB_eq h1) hne
 ·omega
theorem ddN_sub (l : List (List B)) : ∀ m, m ≤ l.length → (ddN l m).Sublist (l.take m)
 | 0, _ => by simp [ddN]
 | m + 1, hm => by
  obtain ⟨x, hx, _⟩ := get_of (l := l) (k := m) (by omega)
  have h1 : l.take (m + 1) = l.take m ++ [x] := by rw [List.take_add_one, hx]; rfl
  rw [ddN_succ, h1, idAt_get hx]
  refine (ddN_sub l m (by omega)).append ?_
  split
  ·exact List.Sublist.refl _
  ·exact List.nil_sublist _
theorem sortB_le (l : List (List B)) : (sortB l).Pairwise fun a b => ltB b a = false := by
 unfold sortB
 have h := List.pairwise_mergeSort (le := fun x y : List B => !ltB y x) (fun a b c h1 h2 => by
  simp only [Bool.not_eq_true'] at h1 h2 ⊢
  cases h3 : ltB c a with
  | false => rfl
  | true =>
   by_cases hab : a = b
   ·subst hab; rw [h3] at h2; cases h2
   ·have h4 := ltB_tot b a (fun e => hab e.symm) h1
    have h5 := ltB_trans _ _ _ h3 h4
    rw [h5] at h2; cases h2) (fun a b => by
  cases h1 : ltB a b with
  | false => simp
  | true =>
   cases h2 : ltB b a with
   | false => simp
   | true => have := ltB_trans _ _ _ h1 h2; rw [ltB_self] at this; cases this) l
 exact h.imp fun {a b} hab => by simpa using hab
theorem dd_sorted (l : List (List B)) : (dd (sortB l)).Pairwise fun a b => ltB a b = true := by
 have hle : (dd (sortB l)).Pairwise fun a b => ltB b a = false := by
  unfold dd
  have := ddN_sub (sortB l) _ (Nat.le_refl _)
  rw [List.take_length] at this
  exact (sortB_le l).sublist this
 have hr : ris (dd (sortB l)) = true := by
  refine ris_true fun k hk h1 => ?_
  obtain ⟨k, rfl⟩ : ∃ j, k = j + 1 := ⟨k - 1, by omega⟩
  obtain ⟨a, ha, _⟩ := get_of (l := dd (sortB l)) (k := k) (by omega)
  obtain ⟨b, hb, _⟩ := get_of (l := dd (sortB l)) (k := k + 1) hk
  have hne := dd_nb _ k a b ha hb
  have h2 := (List.pairwise_iff_getElem.1 hle) k (k + 1) (by omega) hk (by omega)
  rw [(List.getElem?_eq_some_iff.1 ha).2, (List.getElem?_eq_some_iff.1 hb).2] at h2
  rw [Nat.add_sub_cancel, idAt_get ha, idAt_get hb]
  exact (ltB_iff _ _).1 (ltB_tot b a (fun e => hne e.symm) h2)
 exact ((ris_pair _).1 hr).imp fun {a b} h => (ltB_iff _ _).2 h
theorem all_same (l : List (List B)) : sortG ltB (uq l) (uq l).length = dd (sortB l) := by
 refine sorted_uniq ltB_self ltB_trans (sortG_sorted ltB_trans ltB_tot (nodup_uq l) (Nat.le_refl _)) (dd_sorted l) fun y => ?_
 rw [sortG_mem (Nat.le_refl _), List.take_length, mem_uq, mem_dd, sortB_mem]
theorem allM_step {l : List Slp} {i : Nat} {y : Slp} (h : l[i]? = some y) : allM (l.take (i + 1)) = allM (l.take i) ++ y.miss.l := by
 unfold allM; rw [List.take_add_one, h, List.flatMap_append]; simp
theorem uq_len (l : List (List B)) : (uq l).length ≤ l.length := nodup_len (nodup_uq l) fun x hx => (mem_uq l).1 hx
abbrev base1 (c : Int) (s : Slps) : Hl := [CB.cells 2 (encP c s)]
structure AoI (c : Int) (s : Slps) (k : Nat) (σ : Sg) (l : Hl) : Prop where
 g1 : σ 1 = .ptr 0 0 2
 g4 : σ 4 = .int .i64 k
 ex : ∃ v, σ 3 = v ∧ Ob 32 eId (base1 c s) l v (uq (allM (s.l.take k))) (uq (allM (s.l.take k))).isEmpty
structure AiI (c : Int) (s : Slps) (y : Slp) (i : Nat) (k : Nat) (σ : Sg) (l : Hl) : Prop where
 g1 : σ 1 = .ptr 0 0 2
 g4 : σ 4 = .int .i64 i
 g5 : σ 5 = .int .i64 k
 ex : ∃ v, σ 3 = v ∧ Ob 32 eId (base1 c s) l v (uq (allM (s.l.take i) ++ y.miss.l.take k)) (uq (allM (s.l.take i) ++ y.miss.l.take k)).isEmpty
structure AsI (c : Int) (s : Slps) (u : List (List B)) (k : Nat) (σ : Sg) (l : Hl) : Prop where
 g7 : σ 7 = .int .i64 k
 ex : ∃ v, σ 3 = v ∧ Ob 32 eId (base1 c s) l v (sortG ltB u k ++ u.drop k) u.isEmpty
structure AtI2 (c : Int) (s : Slps) (u t : List (List B)) (x : List B) (i : Nat) (m : Nat) (σ : Sg) (l : Hl) : Prop where
 g7 : σ 7 = .int .i64 i
 ex : ∃ (k : Nat) (v : CV), k = m ∧ k ≤ i ∧ σ 3 = v ∧ σ 8 = .int .i64 k ∧ Ob 32 eId (base1 c s) l v (insG t k x) u.isEmpty ∧ posG ltB t x k = posG ltB t x i
theorem ob0 {c : Int} {s : Slps} {l : Hl} {v : CV} {a : List (List B)} {nl : Bool} (h : Ob 32 eId (base1 c s) l v a nl) : l[0]? = some (.cells 2 (encP c s)) := by rw [h.same 0 (by simp)]; rfl
def allW (l : List Slp) : Ids := svI (dd (sortB (allM l)))
set_option maxHeartbeats 2000000 in
theorem rAll_ok (c : Int) (s : Slps) (hs : okSls s.l) (hl : s.l.length ≤ 1000000) (hn : (allM s.l).length ≤ 1000000) : PureC Tryz.prog GS 48 [.ag (encP c s)] (encIds (allW s.l)) := by
 refine pure_of Tryz.checked.mixed GS_closed ?_
 apply call_intro c48_eq r48_eq
 unfold c48 r48
 have hr : roomMax = 140737488355328 := rfl
 have hlen : lenM (.sl 45) (encSls s) = some (.int .i64 s.l.length) := by simp [encSls]
 have hid : ∀ i ∈ allM s.l, i.length = 32 := fun i hi => by
  unfold allM at hi
  obtain ⟨t, ht, hit⟩ := List.mem_flatMap.1 hi
  exact (hs t ht).miss i hit
 simp [encP]
 refine loop_up s.l.length (AoI c s) ?_ ⟨by simp, by simp, .nilS, by simp, ⟨0, .nil 0, by simp, fun b hb => rfl, .inl rfl, rfl⟩⟩
 rintro i σ l hi ⟨g1, g4, v, g3, hob⟩
 obtain ⟨σ, rfl⟩ := upds3 g1 g3 g4
 clear g1 g3 g4
 have q0 := ob0 hob
 unfold encP at q0
 unfold l48_1
 simp [q0, hlen]
 refine kIf_intro (fun h => ?_) (fun h => ?_)
 ·simp only [decide_eq_true_eq] at h
  obtain ⟨y, hy, hym⟩ := get_of (l := s.l) (k := i) (by omega)
  have hoy := hs y hym
  have hR := row_of hoy
  have e1 : IntKind.i64.wrap ((i : Int) + 1) = ((i + 1 : Nat) : Int) := by rw [IntKind.wrap_i64]; omega
  have hia : iaC (.sl 45) (encSls s) (.int .i64 (i : Int)) = some (.rptr (encSl y) 0) := by simp [encSls, hy]
  have hst := allM_step hy
  have hml : lenM (.sl 32) (encIds y.miss) = some (.int .i64 y.miss.l.length) := by simp [encIds]
  have hyl := hoy.len
  have hall : (allM (s.l.take i)).length + y.miss.l.length ≤ 1000000 := by
   rw [← List.length_append, ← hst]
   refine Nat.le_trans ?_ hn
   have : allM s.l = allM (s.l.take (i + 1)) ++ allM (s.l.drop (i + 1)) := by unfold allM; rw [← List.flatMap_append, List.take_append_drop]
   rw [this, List.length_append]; omega
  have hidi : ∀ z ∈ allM (s.l.take i), z.length = 32 := fun z hz => by
   unfold allM at hz
   obtain ⟨t, ht, hzt⟩ := List.mem_flatMap.1 hz
   exact (hs t (List.mem_of_mem_take ht)).miss z hzt
  have f1 := hR.len
  have f5 := hR.miss
  obtain ⟨R, hRe⟩ : ∃ R, R = encSl y := ⟨_, rfl⟩
  simp only [← hRe] at f1 f5 hia
  refine loop_up y.miss.l.length (AiI c s y i) ?_ ⟨by simp, by simp, by simp, v, by simp, by simpa using hob⟩
  clear hob q0 v
  rintro k σ l hk ⟨g1, g4, g5, v, g3, hob⟩
  obtain ⟨σ, rfl⟩ := upds4 g1 g3 g4 g5
  clear g1 g3 g4 g5
  have q0 := ob0 hob
  unfold encP at q0
  unfold l48_0
  simp [q0, hia, f1, f5, hml]
  refine kIf_intro (fun h2 => ?_) (fun h2 => ?_)
  ·simp only [decide_eq_true_eq] at h2
   obtain ⟨x, hx, hxm⟩ := get_of (l := y.miss.l) (k := k) (by omega)
   have hxo := hoy.miss x hxm
   have hxl := eId_len hxo
   have e2 : IntKind.i64.wrap ((k : Int) + 1) = ((k + 1 : Nat) : Int) := by rw [IntKind.wrap_i64]; omega
   have hix : iaC (.sl 32) (encIds y.miss) (.int .i64 (k : Int)) = some (.rptr (eId x) 0) := by simp [encIds, hx]
   obtain ⟨U, hU⟩ : ∃ U, U = uq (allM (s.l.take i) ++ y.miss.l.take k) := ⟨_, rfl⟩
   have hsn : (x ∈ U → uq (allM (s.l.take i) ++ y.miss.l.take (k + 1)) = U) ∧ (¬ x ∈ U → uq (allM (s.l.take i) ++ y.miss.l.take (k + 1)) = U ++ [x]) := by
    have h1 : allM (s.l.take i) ++ y.miss.l.take (k + 1) = (allM (s.l.take i) ++ y.miss.l.take k) ++ [x] := by rw [List.take_add_one, hx, ← List.append_assoc]; rfl
    rw [h1, uq_snoc, ← hU]
    exact ⟨fun h => if_pos h, fun h => if_neg h⟩
   rw [← hU] at hob
   have hUo : ∀ z ∈ U, z.length = 32 := fun z hz => by
    rw [hU, mem_uq, List.mem_append] at hz
    exact hz.elim (hidi z) fun h => hoy.miss z (List.mem_of_mem_take h)
   have hUl : U.length ≤ 1000000 := by
    rw [hU]
    refine Nat.le_trans (uq_len _) ?_
    rw [List.length_append, List.length_take]; omega
   have hin := rIn_ok (svI U) (by unfold okIds; rw [svI_l]; exact hUo) (by rw [svI_l]; exact hUl) x hxo
   rw [svI_l] at hin
   have hrd : ∀ cb : CB, RdH (HL (l ++ [cb])) v (encIds (svI U)) := fun cb => by
    obtain ⟨j, o1, o2, o3, o4, o5⟩ := hob
    exact (o1.more [cb]).rdH_enc closed_eId (svI U) (by rw [o5, svI_none]) (svI_l _)
   have hcx := closed_eId x
   have hob1 := hob.more [CB.cells 32 (eId x)]
   have hn0 : ∀ cb : CB, (l ++ [cb])[l.length]? = some cb := fun cb => List.getElem?_concat_length
   obtain ⟨X, hX⟩ : ∃ X, X = eId x := ⟨_, rfl⟩
   rw [← hX] at hix hxl hin hcx
   have hspX : splice (rep 32 (.int .u8 0)) 0 X = X := splice_full (by rw [hxl]; rfl)
   simp [q0, hia, f1, f5, hix, hxl, hspX, List.take_of_length_le]
   refine pure_callB hin (.cons (hrd _) (.cons (.same _ (by simp [CV.closed, hcx])) .nil)) rfl ?_
   subst hX
   by_cases hm : x ∈ U
   ·have hs1 := hsn.1 hm
    simp [hm, e2]
    exact ⟨by omega, by simp, by simp, by simp, v, by simp, by rw [hs1]; exact hob1⟩
   ·have hs1 := hsn.2 hm
    obtain ⟨v', l6, a1, hob6, c6⟩ := ob_push (by_ := 32) (hob1.more [CB.cells 32 (eId x)]) x (b := l.length + 1) (by simp) (eId_len hxo) (by omega) (by omega) (by rw [hr]; omega)
    simp at a1
    simp [hm, hn0, hxl, List.take_of_length_le, hspX, a1]
    refine AppK.keep ?_
    simp [e2]
    exact ⟨by omega, by simp, by simp, by simp, v', by simp, by rw [hs1, show (U ++ [x]).isEmpty = false by simp]; exact hob6⟩
  ·simp [h2, e1]
   have hk2 : k = y.miss.l.length := by simp at h2; omega
   rw [hk2, List.take_length, ← hst] at hob
   exact ⟨by omega, by simp, by simp, v, by simp, hob⟩
 ·have hi2 : i = s.l.length := by simp at h; omega
  rw [hi2, List.take_length] at hob
  clear q0
  obtain ⟨U, hU⟩ : ∃ U, U = uq (allM s.l) := ⟨_, rfl⟩
  rw [← hU] at hob
  simp [h]
  have hUo : ∀ z ∈ U, z.length = 32 := fun z hz => hid z (by rw [hU, mem_uq] at hz; exact hz)
  have hUl : U.length ≤ 1000000 := by rw [hU]; exact Nat.le_trans (uq_len _) hn
  refine loop_up U.length (AsI c s U) ?_ ⟨by simp, v, by simp, by simpa [sortG] using hob⟩
  clear hob v
  rintro i σ l hi ⟨g7, v, g3, hob⟩
  obtain ⟨σ, rfl⟩ := upds2 g3 g7
  clear g3 g7
  have hsl := sortG_len (lt := ltB) (u := U) hi
  have hlenv : lenM (.sl 32) v = some (.int .i64 U.length) := by
   have := hob.len
   rw [List.length_append, hsl, List.length_drop] at this
   rw [this]; congr 2; omega
  unfold l48_3
  simp [hlenv]
  refine kIf_intro (fun h => ?_) (fun h => ?_)
  ·simp only [decide_eq_true_eq] at h
   obtain ⟨x, hx, hxm⟩ := get_of (l := U) (k := i) (by omega)
   have e1 : IntKind.i64.wrap ((i : Int) + 1) = ((i + 1 : Nat) : Int) := by rw [IntKind.wrap_i64]; omega
   obtain ⟨t, ht⟩ : ∃ t, t = sortG ltB U i ++ U.drop (i + 1) := ⟨_, rfl⟩
   have htl : t.length + 1 = U.length := by rw [ht, List.length_append, hsl, List.length_drop]; omega
   have hto : ∀ z ∈ t, z.length = 32 := fun z hz => by
    rw [ht, List.mem_append] at hz
    rcases hz with hz | hz
    ·rw [sortG_mem hi] at hz; exact hUo z (List.mem_of_mem_take hz)
    ·exact hUo z (List.mem_of_mem_drop hz)
   have hini : sortG ltB U i ++ U.drop i = insG t i x := by
    have hd : U.drop i = x :: U.drop (i + 1) := by rw [List.drop_eq_getElem_cons (by omega), (List.getElem?_eq_some_iff.1 hx).2]
    rw [hd, ht, insG_app (by omega)]
    unfold insG
    rw [show (sortG ltB U i).take i = sortG ltB U i from List.take_of_length_le (by rw [hsl]; exact Nat.le_refl _), show (sortG ltB U i).drop i = [] from List.drop_of_length_le (by rw [hsl]; exact Nat.le_refl _)]; simp
   have hpos : posG ltB t x i = posG ltB (sortG ltB U i) x (sortG ltB U i).length := by rw [ht, posG_app _ _ _ _ _ (by omega), hsl]
   have hend : insG t (posG ltB t x i) x = sortG ltB U (i + 1) ++ U.drop (i + 1) := by
    rw [hpos, sortG_some hx, ht, insG_app (posG_le _ _ _ _)]
   rw [hini] at hob
   refine loop_fall (AtI2 c s U t x i) ?_ i _ _ ⟨by simp, i, v, rfl, Nat.le_refl _, by simp, by simp, hob, rfl⟩
   clear hob hlenv v
   rintro m σ l ⟨g7, k, v, rfl, hki, g3, g8, hob, hpo⟩
   obtain ⟨σ, rfl⟩ := upds3 g3 g7 g8
   clear g3 g7 g8
   unfold l48_2
   have hfin : posG ltB t x k = k → insG t k x = sortG ltB U (i + 1) ++ U.drop (i + 1) := fun h => by rw [← hend, ← hpo, h]
   have hxi : (insG t k x)[k]? = some x := insG_get (by omega)
   rcases k with _ | k
   ·rw [hfin rfl] at hob
    simp [e1]
    exact ⟨by omega, by simp, v, by simp, hob⟩
   ·obtain ⟨y, hy, hym⟩ := get_of (l := t) (k := k) (by omega)
    have hyx : (insG t (k + 1) x)[k]? = some y := by rw [insG_lo (by omega) (by omega)]; exact hy
    obtain ⟨p1, c1, o1, x1, x2, x3, x4⟩ := ob_get hob hxi
    obtain ⟨p2, c2, o2, y1, y2, y3, y4⟩ := ob_get hob hyx
    have w1 : IntKind.i64.wrap ((k : Int) + 1 - 1) = (k : Int) := by rw [IntKind.wrap_i64]; omega
    have w2 : IntKind.i64.wrap (k : Int) = (k : Int) := by rw [IntKind.wrap_i64]; omega
    have hpk : (0 : Int) < (k : Int) + 1 := by omega
    have hxo := hUo x hxm
    have hyo := hto y hym
    have hcm := refCmp_ok y x hyo hxo
    have hxc := closed_eId x
    have hyc := closed_eId y
    have hyl := eId_len hyo
    have hxl := eId_len hxo
    have hps : posG ltB t x (k + 1) = if ltB x y then posG ltB t x k else k + 1 := posG_some hy
    have hz : ∀ w ∈ insG t (k + 1) x, (eId w).length = 32 := fun w hw => by
     rcases insG_mem.1 hw with e | e
     ·rw [e]; exact hxl
     ·exact eId_len (hto w e)
    have hin : (insG t (k + 1) x).length = U.length := by rw [insG_len, htl]
    obtain ⟨p3, l4, u1, u2, hob4⟩ := ob_set (X := .ag (eId x)) hob hz rfl (k := k) (y := x) (by omega) hxl
    have hz4 : ∀ w ∈ (insG t (k + 1) x).set k x, (eId w).length = 32 := fun w hw => by
     rcases List.mem_or_eq_of_mem_set hw with h | h
     ·exact hz w h
     ·rw [h]; exact hxl
    obtain ⟨p4, l5, t1, t2, hob5⟩ := ob_set (X := .ag (eId y)) hob4 hz4 rfl (k := k + 1) (y := y) (by simp; omega) hyl
    rw [List.set_comm _ _ (by omega), insG_swap hy] at hob5
    have hcy : idC y = .ag (eId y) := rfl
    have hcx : idC x = .ag (eId x) := rfl
    rw [hcy, hcx] at hcm
    have hlt : ltB x y = decide (0 < cmpB y x) := by
     have := ltB_iff x y
     rw [cmpB_swap] at this
     cases h : ltB x y with
     | true => rw [h] at this; have := this.1 rfl; exact (decide_eq_true (by omega)).symm
     | false => rw [h] at this; refine (decide_eq_false fun h2 => ?_).symm; exact absurd (this.2 (by omega)) (by simp)
    obtain ⟨X, hX⟩ : ∃ X, X = eId x := ⟨_, rfl⟩
    obtain ⟨Y, hY⟩ : ∃ Y, Y = eId y := ⟨_, rfl⟩
    rw [← hX] at x4 hxl hxc u2 hcm
    rw [← hY] at y4 hyl hyc t2 hcm
    simp at x1 t1
    rw [y1] at u1
    obtain rfl := Option.some.inj u1
    rw [x1] at t1
    obtain rfl := Option.some.inj t1
    simp [hpk, x1, x2, x3, x4, y1, y2, y3, y4, w1, w2]
    refine pure_call hcm (by simp [closedL, CV.closed, hxc, hyc]) ?_
    by_cases h5 : 0 < cmpB y x
    ·rw [hlt, decide_eq_true h5, if_pos rfl] at hps
     simp [h5, x1, x2, x3, x4, y1, y2, y3, y4, w1, w2, u2, t2]
     exact ⟨k, by omega, by simp, k, v, rfl, by omega, by simp, by simp, hob5, by rw [← hps]; exact hpo⟩
    ·rw [hlt, decide_eq_false h5, if_neg (by simp)] at hps
     rw [hfin hps] at hob
     simp [h5, e1]
     exact ⟨by omega, by simp, v, by simp, hob⟩
  ·simp [h]
   have hi2 : i = U.length := by simp at h; omega
   rw [hi2, List.drop_length, List.append_nil, hU, all_same] at hob
   refine hob.rd closed_eId (allW s.l) ?_ (svI_l _)
   unfold allW
   rw [svI_none, ← all_same]
   have := sortG_len (lt := ltB) (u := uq (allM s.l)) (Nat.le_refl _)
   cases h1 : sortG ltB (uq (allM s.l)) (uq (allM s.l)).length <;> cases h2 : uq (allM s.l) <;> simp_all
end Op
end Go.CM

namespace Go.CM
open Go Go.Proofs
set_option maxRecDepth 100000
namespace Op
open Sha
theorem slAt_map (f : Slp → Slp) {l : List Slp} {k : Nat} (h : k < l.length) : slAt (l.map f) k = f (slAt l k) := by
 obtain ⟨y, hy, _⟩ := get_of h
 rw [slAt_get hy, slAt_get (by rw [List.getElem?_map, hy]; rfl)]
theorem goodSl_tw {l : List Slp} {k : Nat} (h : k < l.length) : goodSl (l.map twS) k = goodSl l k := by
 have h1 : tkPrev (l.map twS) k = tkPrev l k := by
  unfold tkPrev
  by_cases hk : k = 0
  ·rw [if_pos hk, if_pos hk]
  ·rw [if_neg hk, if_neg hk, slAt_map _ (by omega)]; rfl
 have h2 : ((l.map twS).take k).map Slp.id = (l.take k).map Slp.id := by
  rw [← List.map_take, List.map_map]; rfl
 unfold goodSl
 rw [h1, h2, slAt_map _ h]
 rfl
theorem penErr_tw (c : Int) (l : List Slp) : penErr c (l.map twS) = penErr c l := by
 unfold penErr
 rw [List.length_map]
 have : goodSls (l.map twS) = goodSls l := by
  unfold goodSls
  rw [List.length_map]
  congr 1
  exact propext ⟨fun h k hk => by rw [← goodSl_tw hk]; exact h k hk, fun h k hk => by rw [goodSl_tw hk]; exact h k hk⟩
 rw [this]
theorem ids_tw (l : List Slp) : (l.map twS).map Slp.id = l.map Slp.id := by rw [List.map_map]; rfl
theorem allM_tw (l : List Slp) : allM (l.map twS) = allM l := by unfold allM; rw [List.flatMap_map]; rfl
theorem putErr_tw (c : Int) (l : List Slp) (t : Int) (o : Opr) (m : List (List B)) : putErr c (l.map twS) t o m = putErr c l t o m := by
 unfold putErr
 have h1 : tkPrev (l.map twS) (l.map twS).length = tkPrev l l.length := by
  rw [List.length_map]
  unfold tkPrev
  by_cases hk : l.length = 0
  ·rw [if_pos hk, if_pos hk]
  ·rw [if_neg hk, if_neg hk, slAt_map _ (by omega)]; rfl
 rw [penErr_tw, ids_tw, h1, List.length_map]
theorem okSls_tw {l : List Slp} (h : okSls l) : okSls (l.map twS) := fun s hs => by
 obtain ⟨t, ht, rfl⟩ := List.mem_map.1 hs
 exact twS_ok (h t ht)
theorem sameSl_iff (a b : Slp) : sameSl a b = true ↔ a.tk = b.tk ∧ a.id = b.id ∧ sameO a.op b.op = true ∧ a.miss.l = b.miss.l := by
 unfold sameSl; simp only [Bool.and_eq_true, decide_eq_true_eq]
theorem sameO_tw (o : Opr) : sameO (twO o) o = true := by
 have := sameO_self o
 unfold sameO at this ⊢
 exact this
theorem sameO_wt (o : Opr) : sameO o (twO o) = true := by
 have := sameO_self o
 unfold sameO at this ⊢
 exact this
theorem sameSls_map {f g : Slp → Slp} {l : List Slp} (h : ∀ s, sameSl (f s) (g s) = true) : sameSls (l.map f) (l.map g) = true := by
 unfold sameSls
 rw [decide_eq_true (by simp), Bool.true_and]
 refine decide_eq_true fun k hk => ?_
 rw [List.length_map] at hk
 rw [slAt_map _ hk, slAt_map _ hk]; exact h _
theorem sameSls_fm {f g : Slp → Slp} {p : Slp → Bool} {l : List Slp} (h : ∀ s, sameSl (f s) (g s) = true) (hp : ∀ s, p (f s) = p (g s)) : sameSls ((l.map f).filter p) ((l.map g).filter p) = true := by
 rw [List.filter_map, List.filter_map]
 have : (p ∘ f) = (p ∘ g) := funext fun s => hp s
 rw [this]
 exact sameSls_map h
theorem sameSls_snoc {l m : List Slp} {a b : Slp} (h : sameSls l m = true) (hab : sameSl a b = true) : sameSls (l ++ [a]) (m ++ [b]) = true := by
 unfold sameSls at h ⊢
 simp only [Bool.and_eq_true, decide_eq_true_eq] at h ⊢
 obtain ⟨h1, h2⟩ := h
 refine ⟨by simp [h1], fun k hk => ?_⟩
 rw [List.length_append, List.length_singleton] at hk
 by_cases hkl : k < l.length
 ·have e1 : slAt (l ++ [a]) k = slAt l k := by
   obtain ⟨y, hy, _⟩ := get_of hkl
   rw [slAt_get hy, slAt_get (by rw [List.getElem?_append_left hkl]; exact hy)]
  have e2 : slAt (m ++ [b]) k = slAt m k := by
   obtain ⟨y, hy, _⟩ := get_of (l := m) (k := k) (by omega)
   rw [slAt_get hy, slAt_get (by rw [List.getElem?_append_left (by omega)]; exact hy)]
  rw [e1, e2]; exact h2 k hkl
 ·have hke : k = l.length := by omega
  rw [slAt_get (x := a) (by rw [hke]; simp), slAt_get (x := b) (by rw [hke, h1]; simp)]
  exact hab
theorem same_tw (l : List Slp) : sameSls (l.map twS) l = true := by
 have := sameSls_map (f := twS) (g := id) (l := l) fun s => (sameSl_iff _ _).2 ⟨rfl, rfl, sameO_tw s.op, rfl⟩
 rwa [List.map_id] at this
theorem strike_same (x : List B) (s : Slp) : sameSl (strikeS x (twS s)) (strikeR x s) = true := by
 refine (sameSl_iff _ _).2 ⟨rfl, rfl, sameO_self _, ?_⟩
 show (strikeM x (some s.miss.l)).l = (svI (s.miss.l.filter (notX x))).l
 rw [svI_l]; rfl
theorem gone_same (x : List B) (s : Slp) : gone (strikeS x (twS s)) = gone (strikeR x s) := by
 unfold gone
 rw [((sameSl_iff _ _).1 (strike_same x s)).2.2.2]
theorem next_same (x : List B) (l : List Slp) : sameSls (nextL x (l.map twS)) (nextR x l) = true := by
 unfold nextL nextR
 rw [List.map_map]
 exact sameSls_fm (f := strikeS x ∘ twS) (strike_same x) fun s => by show (!gone _) = _; rw [show gone ((strikeS x ∘ twS) s) = gone (strikeR x s) from gone_same x s]
theorem freed_same (x : List B) (l : List Slp) : sameSls (freedL x (l.map twS)) (freedR x l) = true := by
 unfold freedL freedR
 rw [List.map_map]
 exact sameSls_fm (f := strikeS x ∘ twS) (strike_same x) (gone_same x)
theorem okSls_fm {f : Slp → Slp} {p : Slp → Bool} {l : List Slp} (h : ∀ s ∈ l, OkSl (f s)) : okSls ((l.map f).filter p) := fun s hs => by
 obtain ⟨t, ht, rfl⟩ := List.mem_map.1 (List.mem_filter.1 hs).1
 exact h t ht
theorem fm_len {f : Slp → Slp} {p : Slp → Bool} (l : List Slp) : ((l.map f).filter p).length ≤ l.length := by
 refine Nat.le_trans (List.length_filter_le _ _) ?_
 rw [List.length_map]; exact Nat.le_refl _
def missR (c : Int) (l : List Slp) : CV := if penErr c l = 0 then .tu [encIds (allW l), .int .i64 0] else .tu [.nilS, .int .i64 (penErr c l)]
theorem rMissing_ok (c : Int) (s : Slps) (hs : okSls s.l) (hl : s.l.length ≤ 1000000) (hn : (allM s.l).length ≤ 1000000) : PureC Tryz.prog GS 28 [.ag (encP c s)] (missR c s.l) := by
 refine pure_of Tryz.checked.mixed GS_closed ?_
 apply call_intro c28_eq r28_eq
 unfold c28 r28 missR
 have hcs := closed_Sls s
 have hck := rPCheck_ok c s hs hl
 have hal := rAll_ok c s hs hl hn
 have hca := closed_ids (allW s.l)
 have hcp : closedL [CV.ag (encP c s)] = true := by simp [encP, closedL, CV.closed, hcs]
 by_cases h0 : penErr c s.l = 0
 ·rw [if_pos h0]
  simp [encP]
  refine pure_call hck hcp ?_
  simp [h0]
  refine pure_call hal hcp ?_
  simp
  exact rd_eq rfl (by simp [CV.closed, closedL, hca])
 ·rw [if_neg h0]
  simp [encP]
  refine pure_call hck hcp ?_
  simp [h0]
  refine pure_call hck hcp ?_
  simp
  exact rd_eq rfl rfl
theorem newW_eq (n : Int) : newW n = .tu [.ag (encP (if n < 1 ∨ 8 < n then 0 else n) none), .int .i64 (if n < 1 ∨ 8 < n then 2 else 0)] := by
 unfold newW; split <;> rfl
theorem putW_eq (c : Int) (l : List Slp) (t : Int) (o : Opr) (m : Ids) : putW c l t o m = .tu [.ag (encP (if putErr c l t o m.l = 0 then c else 0) (if putErr c l t o m.l = 0 then some (l ++ [⟨t, o, idOf o, m⟩]) else none)), .int .i64 (putErr c l t o m.l)] := by
 unfold putW; split <;> rfl
theorem putR_eq (c : Int) (l : List Slp) (t : Int) (o : Opr) (m : Ids) : putR c l t o m = .tu [.ag (encP (if putErr c l t o m.l = 0 then c else 0) (if putErr c l t o m.l = 0 then some (l.map twS ++ [twS ⟨t, o, idOf o, m⟩]) else none)), .int .i64 (putErr c l t o m.l)] := by
 unfold putR; split <;> rfl
theorem comeW_eq (c : Int) (l : List Slp) (x : List B) : comeW c l x = .tu [.ag (encP (if penErr c l = 0 then c else 0) (if penErr c l = 0 then svS (nextL x l) else none)), encSls (if penErr c l = 0 then svS (freedL x l) else none), .int .i64 (penErr c l)] := by
 unfold comeW; split
 ·rename_i h; rw [h]
 ·rfl
theorem comeR_eq (c : Int) (l : List Slp) (x : List B) : comeR c l x = .tu [.ag (encP (if penErr c l = 0 then c else 0) (if penErr c l = 0 then svS (nextR x l) else none)), encSls (if penErr c l = 0 then svS (freedR x l) else none), .int .i64 (penErr c l)] := by
 unfold comeR; split
 ·rename_i h; rw [h]
 ·rfl
theorem missW_eq (c : Int) (l : List Slp) : missW c l = .tu [encIds (if penErr c l = 0 then missV l else none), .int .i64 (penErr c l)] := by
 unfold missW; split
 ·rename_i h; rw [h]
 ·rfl
theorem missR_eq (c : Int) (l : List Slp) : missR c l = .tu [encIds (if penErr c l = 0 then allW l else none), .int .i64 (penErr c l)] := by
 unfold missR; split
 ·rename_i h; rw [h]
 ·rfl
theorem hasW_eq (c : Int) (l : List Slp) (x : List B) : hasW c l x = .tu [.bool (decide (penErr c l = 0) && decide (x ∈ l.map Slp.id)), .int .i64 (penErr c l)] := by
 unfold hasW; split
 ·rename_i h; rw [h]; simp
 ·rename_i h; simp [h]
set_option maxHeartbeats 4000000 in
theorem does_ok (n c : Int) (s : Slps) (hs : ∀ t ∈ s.l, TySl t) (tk : Int) (o : Opr) (hto : TyOp o) (m : Ids) (hm : okIds m) (x : List B) (hx : x.length = 32) :
  PureC Tryz.prog GS 5 [.int .i64 n, .ag (encP c s), .int .i64 tk, .ag (encOp o), encIds m, .ag (eId x)] (.bool true) := by
 refine pure_of Tryz.checked.mixed GS_closed ?_
 apply call_intro c5_eq r5_eq
 unfold c5 r5
 have hcs := closed_Sls s
 have hco := closed_op o
 have hcm := closed_ids m
 have hcx := closed_eId x
 have hxl := eId_len hx
 have hcp : closedL [CV.ag (encP c s)] = true := by simp [encP, closedL, CV.closed, hcs]
 have hlm : lenM (.sl 32) (encIds m) = some (.int .i64 m.l.length) := by simp [encIds]
 have hgr := rPGreat_ok c s hs
 have hlo := rLong_ok o
 obtain ⟨O, hO⟩ : ∃ O, O = encOp o := ⟨_, rfl⟩
 have hOl : O.length = 11 := by rw [hO]; rfl
 rw [← hO] at hco hlo ⊢
 simp [encP, hOl, hxl]
 refine pure_call hgr hcp ?_
 cases hg : greatP s.l with
 | true => simp; exact rd_eq rfl rfl
 | false =>
 simp [hOl, List.take_of_length_le]
 refine pure_call hlo (by simp [closedL, CV.closed, hco]) ?_
 cases hl : longO o with
 | true => simp; exact rd_eq rfl rfl
 | false =>
 by_cases h40 : 40 < m.l.length
 ·have h40' : (40 : Int) < (m.l.length : Int) := by omega
  simp [hlm, h40, h40']
  exact rd_eq rfl rfl
 have h40' : ¬ (40 : Int) < (m.l.length : Int) := by omega
 obtain ⟨h20, hb⟩ := pGreat_le hg
 have hok : okSls s.l := fun t ht => okSl_of (hs t ht) (hb t ht)
 have ho : OkOp o := by
  unfold longO at hl
  simp only [Bool.or_eq_false_iff, decide_eq_false_iff_not] at hl
  exact ⟨hto.ids, by omega, ⟨hto.n1, hto.n2, by omega⟩, by omega⟩
 have ham : (allM s.l).length ≤ s.l.length * 40 := allM_len fun t ht => by
  have := hb t ht
  unfold bigS at this
  simp only [Bool.or_eq_false_iff, decide_eq_false_iff_not] at this
  omega
 simp [hlm, h40, h40']
 -- the copy
 obtain ⟨w, hw⟩ : ∃ w, w = svS (s.l.map twS) := ⟨_, rfl⟩
 have hwl : w.l = s.l.map twS := by rw [hw, svS_l]
 have hwo : okSls w.l := by rw [hwl]; exact okSls_tw hok
 have hwn : w.l.length ≤ 20 := by rw [hwl, List.length_map]; exact h20
 have hcw := closed_Sls w
 have htw := twinP_val c s hok (by omega)
 rw [← hw] at htw
 have hcpw : closedL [CV.ag (encP c w)] = true := by simp [encP, closedL, CV.closed, hcw]
 have hpe : penErr c w.l = penErr c s.l := by rw [hwl, penErr_tw]
 refine pure_call htw hcp ?_
 simp [encP]
 -- new ones
 have hn1 := wPNew_ok n
 have hn2 := rPNew_ok n
 rw [newW_eq] at hn1 hn2
 obtain ⟨nc, hnc⟩ : ∃ nc : Int, nc = if n < 1 ∨ 8 < n then 0 else n := ⟨_, rfl⟩
 obtain ⟨ne, hne⟩ : ∃ ne : Int, ne = if n < 1 ∨ 8 < n then 2 else 0 := ⟨_, rfl⟩
 rw [← hnc, ← hne] at hn1 hn2
 refine pure_call hn1 rfl ?_
 simp [encP]
 refine pure_call hn2 rfl ?_
 simp [encP, hOl, List.take_of_length_le]
 -- put
 have hp1 := wPut_ok c w hwo (by omega) tk o ho m hm (by omega)
 have hp2 := rPPut_ok c s hok (by omega) tk o ho m hm (by omega)
 rw [putW_eq, hwl, putErr_tw] at hp1
 rw [putR_eq] at hp2
 obtain ⟨pe, hpee⟩ : ∃ pe, pe = putErr c s.l tk o m.l := ⟨_, rfl⟩
 rw [← hpee] at hp1 hp2
 obtain ⟨pc, hpc⟩ : ∃ pc : Int, pc = if pe = 0 then c else 0 := ⟨_, rfl⟩
 obtain ⟨pX, hpX⟩ : ∃ pX : Slps, pX = if pe = 0 then some (s.l.map twS ++ [⟨tk, o, idOf o, m⟩]) else none := ⟨_, rfl⟩
 obtain ⟨pY, hpY⟩ : ∃ pY : Slps, pY = if pe = 0 then some (s.l.map twS ++ [twS ⟨tk, o, idOf o, m⟩]) else none := ⟨_, rfl⟩
 rw [← hpc, ← hpX] at hp1
 rw [← hpc, ← hpY] at hp2
 rw [← hO] at hp1 hp2
 have hok1 : OkSl ⟨tk, o, idOf o, m⟩ := ⟨ho, idOf_len6 o, hm, by show m.l.length ≤ _; omega⟩
 have hpXo : okSls pX.l ∧ pX.l.length ≤ 1000000 := by
  rw [hpX]
  split
  ·refine ⟨fun t ht => ?_, by show (s.l.map twS ++ _).length ≤ _; simp; omega⟩
   rcases List.mem_append.1 ht with h | h
   ·exact okSls_tw hok t h
   ·rw [List.mem_singleton.1 h]; exact hok1
  ·exact ⟨fun t ht => (by cases ht), Nat.zero_le _⟩
 have hpYo : okSls pY.l := by
  rw [hpY]
  split
  ·intro t ht
   rcases List.mem_append.1 ht with h | h
   ·exact okSls_tw hok t h
   ·rw [List.mem_singleton.1 h]; exact twS_ok hok1
  ·exact fun t ht => (by cases ht)
 have hpS : sameSls pX.l pY.l = true := by
  rw [hpX, hpY]
  split
  ·exact sameSls_snoc (sameSls_self _) ((sameSl_iff _ _).2 ⟨rfl, rfl, sameO_wt o, rfl⟩)
  ·rfl
 have hcpX := closed_Sls pX
 have hcpY := closed_Sls pY
 refine pure_call hp1 (show closedL [CV.ag (encP c w), .int .i64 tk, .ag O, encIds m] = true by simp [encP, closedL, CV.closed, hcw, hco, hcm]) ?_
 simp [encP, hOl, List.take_of_length_le]
 refine pure_call hp2 (show closedL [CV.ag (encP c s), .int .i64 tk, .ag O, encIds m] = true by simp [encP, closedL, CV.closed, hcs, hco, hcm]) ?_
 simp [encP, hxl, List.take_of_length_le]
 -- come
 have hc1 := wCome_ok c w hwo (by omega) x hx
 have hc2 := rCome_ok c s hok (by omega) x hx
 rw [comeW_eq, hpe, hwl] at hc1
 rw [comeR_eq] at hc2
 obtain ⟨cc, hcc⟩ : ∃ cc : Int, cc = if penErr c s.l = 0 then c else 0 := ⟨_, rfl⟩
 obtain ⟨cX, hcX⟩ : ∃ v : Slps, v = if penErr c s.l = 0 then svS (nextL x (s.l.map twS)) else none := ⟨_, rfl⟩
 obtain ⟨cY, hcY⟩ : ∃ v : Slps, v = if penErr c s.l = 0 then svS (nextR x s.l) else none := ⟨_, rfl⟩
 obtain ⟨fX, hfX⟩ : ∃ v : Slps, v = if penErr c s.l = 0 then svS (freedL x (s.l.map twS)) else none := ⟨_, rfl⟩
 obtain ⟨fY, hfY⟩ : ∃ v : Slps, v = if penErr c s.l = 0 then svS (freedR x s.l) else none := ⟨_, rfl⟩
 obtain ⟨e, he⟩ : ∃ e, e = penErr c s.l := ⟨_, rfl⟩
 have hfm : ∀ (q : Prop) [Decidable q] (l : List Slp), okSls l → l.length ≤ 20 → okSls (if q then svS l else none : Slps).l ∧ (if q then svS l else none : Slps).l.length ≤ 1000000 := fun q _ l h1 h2 => by
  split
  ·rw [svS_l]; exact ⟨h1, by omega⟩
  ·exact ⟨fun t ht => (by cases ht), Nat.zero_le _⟩
 have hL1 : ∀ t ∈ s.l.map twS, OkSl (strikeS x t) := fun t ht => strike_ok (okSls_tw hok t ht)
 have hL2 : ∀ t ∈ s.l, OkSl (strikeR x t) := fun t ht => strikeR_ok (hok t ht)
 have hlt : (s.l.map twS).length ≤ 20 := by rw [List.length_map]; exact h20
 have g1 := hfm (penErr c s.l = 0) (nextL x (s.l.map twS)) (okSls_fm hL1) (Nat.le_trans (fm_len _) hlt)
 have g2 := hfm (penErr c s.l = 0) (nextR x s.l) (okSls_fm hL2) (Nat.le_trans (fm_len _) h20)
 have g3 := hfm (penErr c s.l = 0) (freedL x (s.l.map twS)) (okSls_fm hL1) (Nat.le_trans (fm_len _) hlt)
 have g4 := hfm (penErr c s.l = 0) (freedR x s.l) (okSls_fm hL2) (Nat.le_trans (fm_len _) h20)
 rw [← hcX] at g1
 rw [← hcY] at g2
 rw [← hfX] at g3
 rw [← hfY] at g4
 have hcS : sameSls cX.l cY.l = true := by
  rw [hcX, hcY]
  split
  ·rw [svS_l, svS_l]; exact next_same x s.l
  ·rfl
 have hfS : sameSls fX.l fY.l = true := by
  rw [hfX, hfY]
  split
  ·rw [svS_l, svS_l]; exact freed_same x s.l
  ·rfl
 rw [← hcc, ← hcX, ← hfX, ← he] at hc1
 rw [← hcc, ← hcY, ← hfY, ← he] at hc2
 have hccX := closed_Sls cX
 have hccY := closed_Sls cY
 have hcfX := closed_Sls fX
 have hcfY := closed_Sls fY
 have hcpx : closedL [CV.ag (encP c s), CV.ag (eId x)] = true := by simp [encP, closedL, CV.closed, hcs, hcx]
 have hcpwx : closedL [CV.ag (encP c w), CV.ag (eId x)] = true := by simp [encP, closedL, CV.closed, hcw, hcx]
 have hm1 : ∀ v : Slps, (encSls v).cells = some [encSls v] := fun v => by cases v <;> rfl
 refine pure_call hc1 hcpwx ?_
 simp [encP, hxl, List.take_of_length_le]
 refine pure_call hc2 hcpx ?_
 simp [encP, hxl, List.take_of_length_le]
 -- compared
 have k1 := rSameP_ok nc nc none none (fun t ht => by cases ht) (fun t ht => by cases ht) (Nat.zero_le _)
 have k2 := rSameP_ok pc pc pX pY hpXo.1 hpYo hpXo.2
 have k3 := rSameP_ok cc cc cX cY g1.1 g2.1 g1.2
 have k4 := rSameSls_ok fX fY g3.1 g4.1 g3.2
 rw [hpS] at k2
 rw [hcS] at k3
 rw [hfS] at k4
 simp only [sameSls_self, decide_true, Bool.and_self] at k1 k2 k3
 refine pure_call k1 (by have := closed_Sls none; simp [encP, closedL, CV.closed, this]) ?_
 simp [encP]
 refine pure_call k2 (by simp [encP, closedL, CV.closed, hcpX, hcpY]) ?_
 simp [encP]
 refine pure_call k3 (by simp [encP, closedL, CV.closed, hccX, hccY]) ?_
 simp [encP]
 refine pure_call k4 (by simp [closedL, CV.closed, hcfX, hcfY]) ?_
 simp [encP, hxl, List.take_of_length_le]
 -- has
 have h1 := wHas_ok c w hwo (by omega) x hx
 have h2 := rHas_ok c s hok (by omega) x hx
 rw [hasW_eq, hpe, hwl, ids_tw, ← he] at h1
 rw [hasW_eq, ← he] at h2
 refine pure_call h1 hcpwx ?_
 simp [encP, hxl, List.take_of_length_le]
 refine pure_call h2 hcpx ?_
 simp [encP]
 -- missing
 have m1 := wMissing_ok c w hwo (by omega) (by rw [hwl, allM_tw]; omega)
 have m2 := rMissing_ok c s hok (by omega) (by omega)
 rw [missW_eq, hpe, hwl] at m1
 rw [missR_eq] at m2
 obtain ⟨u1, hu1⟩ : ∃ v : Ids, v = if penErr c s.l = 0 then missV (s.l.map twS) else none := ⟨_, rfl⟩
 obtain ⟨u2, hu2⟩ : ∃ v : Ids, v = if penErr c s.l = 0 then allW s.l else none := ⟨_, rfl⟩
 have hul : u1.l = u2.l := by
  rw [hu1, hu2]
  split
  ·rw [missV_l, allM_tw]; unfold allW; rw [svI_l]
  ·rfl
 have huo : okIds u1 ∧ u1.l.length ≤ 1000000 := by
  rw [hu1]
  split
  ·refine ⟨fun y hy => ?_, Nat.le_trans (missV_len _) (by rw [allM_tw]; omega)⟩
   obtain ⟨t, ht, hty⟩ := (missV_mem _ y).1 hy
   exact (okSls_tw hok t ht).miss y hty
  ·exact ⟨fun t ht => (by cases ht), Nat.zero_le _⟩
 rw [← hu1, ← he] at m1
 rw [← hu2, ← he] at m2
 have hcu1 := closed_ids u1
 have hcu2 := closed_ids u2
 refine pure_call m1 hcpw ?_
 simp [encP]
 refine pure_call m2 hcp ?_
 simp [encP]
 -- the end
 have z1 := wPCheck_ok c w hwo (by omega)
 have z2 := rPCheck_ok c s hok (by omega)
 rw [hpe, ← he] at z1
 rw [← he] at z2
 have z3 := sameIDs_ok u1 u2 huo.1 (by unfold okIds; rw [← hul]; exact huo.1) huo.2
 rw [decide_eq_true hul] at z3
 have z4 := rSameP_ok c c w s hwo hok (by omega)
 rw [hwl, same_tw] at z4
 simp only [decide_true, Bool.and_self] at z4
 refine pure_call z1 hcpw ?_
 simp [encP]
 have hbe : ∀ x y : Bool, binC Tryz.prog .eql 4 (.bool x) (.bool y) = some (.bool (x == y)) := bin_bool_eql (by kernel_rfl)
 refine pure_call z2 hcp ?_
 simp [encP, hbe]
 refine pure_call z3 (by simp [closedL, CV.closed, hcu1, hcu2]) ?_
 simp [encP]
 refine pure_call z4 (by simp [encP, closedL, CV.closed, hcw, hcs]) ?_
 simp
 exact rd_eq rfl rfl
end Op
end Go.CM

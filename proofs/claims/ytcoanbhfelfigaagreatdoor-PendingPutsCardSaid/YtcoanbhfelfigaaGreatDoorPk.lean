/-
  Buffers of sleepers: the same operation, the same sleepers, the same buffer; walked in the reference.
-/
import Derived.Test.YtcoanbhfelfigaaGreatDoorPj
set_option linter.unusedVariables false
set_option linter.unusedSimpArgs false
set_option linter.unnecessarySimpa false
namespace Go.CM
open Go Go.Proofs
set_option maxRecDepth 100000
namespace Op
open Sha
def sameO (a b : Opr) : Bool := decide (a.author = b.author) && (decide (a.preds.l = b.preds.l) && (decide (a.stamp = b.stamp) && (beqL (encA a.act) (encA b.act) && (decide (a.e = b.e) && decide (a.s = b.s)))))
theorem kinds_S : kindsT Tryz.prog 20 42 = some [.i .u32, .i .u32] := by kernel_rfl
theorem s_eql (a b c d : D) : binC Tryz.prog .eql 42 (.ag [e32 a, e32 b]) (.ag [e32 c, e32 d]) = some (.bool (decide (a = c) && decide (b = d))) := by
 rw [bin_plain_eql kinds_S (by kernel_rfl) (by kernel_rfl) rfl rfl]
 simp [beqL, CV.beq]
theorem rSameO_ok (a b : Opr) (ha : OkOp a) (hb : OkOp b) : PureC Tryz.prog GS 34 [.ag (encOp a), .ag (encOp b)] (.bool (sameO a b)) := by
 refine pure_of Tryz.checked.mixed GS_closed ?_
 apply call_intro c34_eq r34_eq
 unfold c34 r34 sameO
 have hca := closed_ids a.preds
 have hcb := closed_ids b.preds
 have hids := sameIDs_ok a.preds b.preds ha.ids hb.ids ha.len
 have hact := a_eql a.act b.act
 have hsig := s_eql a.e a.s b.e b.s
 have ham : (encIds a.preds).cells = some [encIds a.preds] := by cases a.preds <;> rfl
 have hbm : (encIds b.preds).cells = some [encIds b.preds] := by cases b.preds <;> rfl
 unfold encA at hact ⊢
 simp [encOp]
 by_cases h1 : a.author = b.author
 ·simp [h1]
  refine pure_call hids (by simp [closedL, hca, hcb]) ?_
  by_cases h2 : a.preds.l = b.preds.l
  ·by_cases h3 : a.stamp = b.stamp
   ·cases h4 : beqL [e8 a.act.kind, .str a.act.key, e8 a.act.val.kind, .int .i64 a.act.val.num, e64 a.act.val.bits, .str a.act.val.text] [e8 b.act.kind, .str b.act.key, e8 b.act.val.kind, .int .i64 b.act.val.num, e64 b.act.val.bits, .str b.act.val.text] with
    | false =>
     rw [h4] at hact
     simp [h1, h2, h3, hact]
     exact rd_eq rfl rfl
    | true =>
     rw [h4] at hact
     simp [h1, h2, h3, hact, hsig]
     exact rd_eq rfl rfl
   ·simp [h1, h2, h3]
    exact rd_eq rfl rfl
  ·simp [h1, h2]
   exact rd_eq rfl rfl
 ·simp [h1]
  exact rd_eq rfl rfl
theorem sameO_self (a : Opr) : sameO a a = true := by unfold sameO; simp [encA, beqL, CV.beq]
def sameSl (a b : Slp) : Bool := decide (a.tk = b.tk) && (decide (a.id = b.id) && (sameO a.op b.op && decide (a.miss.l = b.miss.l)))
def sameSls (a b : List Slp) : Bool := decide (a.length = b.length) && decide (∀ k, k < a.length → sameSl (slAt a k) (slAt b k) = true)
theorem sameSl_self (a : Slp) : sameSl a a = true := by unfold sameSl; simp [sameO_self]
theorem sameSls_self (l : List Slp) : sameSls l l = true := by
 unfold sameSls
 rw [decide_eq_true rfl, Bool.true_and]
 exact decide_eq_true fun k _ => sameSl_self _
structure SamI (a b : Slps) (k : Nat) (σ : Sg) (l : Hl) : Prop where
 g0 : σ 0 = encSls a
 g1 : σ 1 = encSls b
 g5 : σ 5 = .int .i64 k
 hs : ∀ j, j < k → sameSl (slAt a.l j) (slAt b.l j) = true
theorem rSameSls_ok (a b : Slps) (ha : okSls a.l) (hb : okSls b.l) (hl : a.l.length ≤ 1000000) : PureC Tryz.prog GS 25 [encSls a, encSls b] (.bool (sameSls a.l b.l)) := by
 refine pure_of Tryz.checked.mixed GS_closed ?_
 apply call_intro c25_eq r25_eq
 unfold c25 r25
 have hla : lenM (.sl 45) (encSls a) = some (.int .i64 a.l.length) := by simp [encSls]
 have hlb : lenM (.sl 45) (encSls b) = some (.int .i64 b.l.length) := by simp [encSls]
 have hca := closed_Sls a
 have hcb := closed_Sls b
 by_cases h0 : a.l.length = b.l.length
 ·simp [hla, hlb, h0]
  refine loop_up b.l.length (SamI a b) ?_ ⟨by simp, by simp, by simp, fun j h => by omega⟩
  rintro k σ l hk ⟨g0, g1, g5, hss⟩
  obtain ⟨σ, rfl⟩ := upds3 g0 g1 g5
  clear g0 g1 g5
  unfold l25_0
  simp [hla, h0]
  refine kIf_intro (fun h => ?_) (fun h => ?_)
  ·simp only [decide_eq_true_eq] at h
   obtain ⟨x, hx, hxm⟩ := get_of (l := a.l) (k := k) (by omega)
   obtain ⟨y, hy, hym⟩ := get_of (l := b.l) (k := k) (by omega)
   have hox := ha x hxm
   have hoy := hb y hym
   have hX := row_of hox
   have hY := row_of hoy
   have e1 : IntKind.i64.wrap ((k : Int) + 1) = ((k + 1 : Nat) : Int) := by rw [IntKind.wrap_i64]; omega
   have hix : iaC (.sl 45) (encSls a) (.int .i64 (k : Int)) = some (.rptr (encSl x) 0) := by simp [encSls, hx]
   have hiy : iaC (.sl 45) (encSls b) (.int .i64 (k : Int)) = some (.rptr (encSl y) 0) := by simp [encSls, hy]
   have hso := rSameO_ok x.op y.op hox.op hoy.op
   have hsm := sameIDs_ok x.miss y.miss hox.miss hoy.miss hox.len
   have hne := idNeq hox.id hoy.id
   have hxl := eId_len hox.id
   have hyl := eId_len hoy.id
   have hcox := closed_op x.op
   have hcoy := closed_op y.op
   have hcmx := closed_ids x.miss
   have hcmy := closed_ids y.miss
   have hbad : sameSl x y = false → sameSls a.l b.l = false := fun hb2 => by
    unfold sameSls
    rw [decide_eq_false (p := ∀ k, k < a.l.length → sameSl (slAt a.l k) (slAt b.l k) = true), Bool.and_false]
    intro hall
    have := hall k (by omega)
    rw [slAt_get hx, slAt_get hy, hb2] at this
    cases this
   have hga : sameSl x y = (decide (x.tk = y.tk) && (decide (x.id = y.id) && (sameO x.op y.op && decide (x.miss.l = y.miss.l)))) := rfl
   obtain ⟨X, hXe⟩ : ∃ X, X = encSl x := ⟨_, rfl⟩
   obtain ⟨Y, hYe⟩ : ∃ Y, Y = encSl y := ⟨_, rfl⟩
   obtain ⟨O, hOe⟩ : ∃ O, O = encOp x.op := ⟨_, rfl⟩
   obtain ⟨P, hPe⟩ : ∃ P, P = encOp y.op := ⟨_, rfl⟩
   rw [← hXe] at hX hix
   rw [← hYe] at hY hiy
   have x1 := hX.len
   have x2 := hX.tk
   have x3 := hX.op
   have x4 := hX.id
   have x5 := hX.miss
   have y1 := hY.len
   have y2 := hY.tk
   have y3 := hY.op
   have y4 := hY.id
   have y5 := hY.miss
   rw [← hOe] at x3 hso hcox
   rw [← hPe] at y3 hso hcoy
   have hOl : O.length = 11 := by rw [hOe]; rfl
   have hPl : P.length = 11 := by rw [hPe]; rfl
   by_cases c1 : x.tk = y.tk
   ·by_cases c2 : x.id = y.id
    ·rw [c2, decide_eq_true rfl] at hne
     simp [hix, hiy, x1, x2, x3, x4, x5, y1, y2, y3, y4, y5, hxl, hyl, hOl, hPl, hne, c1, c2, List.take_of_length_le]
     refine pure_call hso (by simp [closedL, CV.closed, hcox, hcoy]) ?_
     cases c3 : sameO x.op y.op with
     | false =>
      have hf := hbad (by rw [hga, c3]; simp)
      rw [hf]
      simp
      exact rd_eq rfl rfl
     | true =>
      simp [hix, hiy, x1, x5, y1, y5]
      refine pure_call hsm (by simp [closedL, hcmx, hcmy]) ?_
      by_cases c4 : x.miss.l = y.miss.l
      ·simp [c4, e1]
       exact ⟨by omega, by simp, by simp, by simp, fun j hj => by
        by_cases hjk : j = k
        ·rw [hjk, slAt_get hx, slAt_get hy, hga, c3]; simp [c1, c2, c4]
        ·exact hss j (by omega)⟩
      ·have hf := hbad (by rw [hga]; simp [c4])
       rw [hf]
       simp [c4]
       exact rd_eq rfl rfl
    ·have hf := hbad (by rw [hga]; simp [c2])
     rw [hf]
     simp [hix, hiy, x1, x2, x3, x4, x5, y1, y2, y3, y4, y5, hxl, hyl, hOl, hPl, hne, c1, c2, List.take_of_length_le]
     exact rd_eq rfl rfl
   ·have hf := hbad (by rw [hga]; simp [c1])
    rw [hf]
    simp [hix, hiy, x1, x2, y1, y2, c1]
    exact rd_eq rfl rfl
  ·simp [h]
   have hk2 : k = b.l.length := by simp at h; omega
   have hf : sameSls a.l b.l = true := by
    unfold sameSls
    rw [decide_eq_true h0, Bool.true_and]
    exact decide_eq_true fun j hj => hss j (by omega)
   rw [hf]
   exact rd_eq rfl rfl
 ·have h0' : ¬ (a.l.length : Int) = (b.l.length : Int) := by omega
  have hf : sameSls a.l b.l = false := by unfold sameSls; rw [decide_eq_false h0]; rfl
  rw [hf]
  simp [hla, hlb, h0, h0']
  exact rd_eq rfl rfl
end Op
end Go.CM

/-
  Buffers of sleepers: in the end nothing is left; the law walked in the program's text.
-/
namespace Go.CM
open Go Go.Proofs
set_option maxRecDepth 100000
namespace Op
open Sha
structure EndI (n : Nat) (c : Int) (s : Slps) (ids : Ids) (k : Nat) (σ : Sg) (l : Hl) : Prop where
 g2 : σ 2 = .ptr 0 0 2
 g5 : σ 5 = .bool true
 g6 : σ 6 = encIds ids
 g11 : σ 11 = .ptr n 0 2
 g13 : σ 13 = .int .i64 k
 p0 : l[0]? = some (.cells 2 (encP c s))
 n0 : 1 ≤ n
 ex : ∃ w : Slps, σ 12 = .int .i64 ((s.l.length : Int) - (w.l.length : Int)) ∧ l[n]? = some (.cells 2 (encP c w)) ∧ w.l = nowL (ids.l.take k) s.l
end Op
end Go.CM

/-
  What is appended to an empty slice of one's own.
-/
namespace Go.CM
open Go Go.Proofs
set_option maxRecDepth 100000
namespace Op
theorem flat_len {α : Type} {enc : α → List CV} {z : Nat} {a : List α} (h : ∀ x ∈ a, (enc x).length = z) : (a.map enc).flatten.length = a.length * z := by
 rw [flatten_len (z := z) (fun e he => by obtain ⟨y, hy, rfl⟩ := List.mem_map.1 he; exact h y hy), List.length_map]
end Op
end Go.CM

/-
  Buffers of sleepers: a sleeper copied by value, a buffer copied, put; walked in the program's text.
-/
namespace Go.CM
open Go Go.Proofs
set_option maxRecDepth 100000
namespace Op
open Sha
theorem row_set {s : Slp} (h : s.id.length = 32) (w : CV) : rowW s w = (encSl s).set 44 w := by
 have hi := eId_len h
 have hl : (encSl s).length = 45 := by unfold encSl encOp; simp [hi]
 rw [← splice_row h w, splice1 w (by omega)]
theorem rd_row {s : Slp} (h : s.id.length = 32) {l : Hl} {w : CV} (hw : Rd l w (encIds s.miss)) : Rd l (.ag (rowW s w)) (.ag (encSl s)) := by
 rw [row_set h w]
 refine .ag _ _ (by simp) fun j x x' hx hx' => ?_
 by_cases hj : j = 44
 ·subst hj
  rw [row_ms h] at hx'
  have hlt := (List.getElem?_eq_some_iff.1 (row_ms h)).1
  rw [List.getElem?_set_self hlt] at hx
  cases hx; cases hx'
  exact hw
 ·rw [List.getElem?_set_ne (fun e => hj e.symm), hx'] at hx
  cases hx
  exact .same _ (closedL_get (closed_encSl s) j _ hx')
theorem twin_val (s : Slp) (hs : OkSl s) : PureC Tryz.prog GS 35 [.ag (encSl s)] (.ag (encSl s)) := by
 refine pure_of Tryz.checked.mixed GS_closed ?_
 refine twin_ob s hs fun w l' h => ?_
 exact rd_row hs.id (h.rd closed_eId s.miss rfl rfl)
structure CpyI (c : Int) (s : Slps) (L : Hl) (k : Nat) (σ : Sg) (l : Hl) : Prop where
 g1 : σ 1 = .ptr L.length 0 2
 g2 : σ 2 = .ptr (L.length + 1) 0 2
 g3 : σ 3 = .ptr (L.length + 2) 0 2
 g10 : σ 10 = encSls s
 g11 : σ 11 = .int .i64 s.l.length
 g12 : σ 12 = .int .i64 k
 fr : ∀ b, b < L.length → l[b]? = L[b]?
 len : L.length + 3 ≤ l.length
 p1 : l[L.length + 1]? = some (.cells 2 [.int .i64 0, .nilS])
 ex : ∃ v j, l[L.length + 2]? = some (.cells 2 [.int .i64 c, v]) ∧ OwnS 45 l v j ((s.l.take k).map encSl) ∧ (v = .nilS ∨ L.length + 3 ≤ j) ∧ isNilS v = (s.l.take k).isEmpty
set_option maxHeartbeats 1000000 in
theorem copied_ob (c : Int) (s : Slps) (hs : okSls s.l) (hl : s.l.length ≤ 1000000) {L : Hl} {K : CV → Hl → Prop}
  (hK : ∀ v l' j, OwnS 45 l' v j (s.l.map encSl) → (v = .nilS ∨ L.length ≤ j) → L.length ≤ l'.length → (∀ b, b < L.length → l'[b]? = L[b]?) → isNilS v = s.l.isEmpty → K (.ag [.int .i64 c, v]) l') :
  CallP Tryz.prog GS 46 [.ag (encP c s)] L (c := ⟨K⟩) := by
 apply call_intro c46_eq r46_eq
 unfold c46 r46
 have hlen : lenM (.sl 45) (encSls s) = some (.int .i64 s.l.length) := by simp [encSls]
 have hcs := closed_Sls s
 simp [encP, hlen, List.getElem?_append, List.set_append, splice]
 refine loop_up s.l.length (CpyI c s L) ?_ ⟨by simp, by simp, by simp, by simp, by simp, by simp, fun b hb => by simp [List.getElem?_append, hb], by simp, by simp [List.getElem?_append], .nilS, 0, by simp [List.getElem?_append], .nil 0, .inl rfl, rfl⟩
 rintro k σ l hk ⟨g1, g2, g3, g10, g11, g12, fr, hll, p1, v, j, p2, o1, d1, n1⟩
 obtain ⟨σ, rfl⟩ := upds6 g1 g2 g3 g10 g11 g12
 clear g1 g2 g3 g10 g11 g12
 unfold l46_0
 simp
 refine kIf_intro (fun h => ?_) (fun h => ?_)
 ·simp only [decide_eq_true_eq] at h
  obtain ⟨y, hy, hym⟩ := get_of (l := s.l) (k := k) (by omega)
  have hoy := hs y hym
  have hR := row_of hoy
  have e1 : IntKind.i64.wrap ((k : Int) + 1) = ((k + 1 : Nat) : Int) := by rw [IntKind.wrap_i64]; omega
  have hia : iaC (.sl 45) (encSls s) (.int .i64 (k : Int)) = some (.rptr (encSl y) 0) := by simp [encSls, hy]
  have htw := twin_val y hoy
  have hcy := closed_encSl y
  have hst : s.l.take (k + 1) = s.l.take k ++ [y] := by rw [List.take_add_one, hy]; rfl
  have hkl : (s.l.take k).length ≤ 1000000 := by rw [List.length_take]; omega
  have hn0 : ∀ cb : CB, (l ++ [cb])[l.length]? = some cb := fun cb => List.getElem?_concat_length
  have hp2 : ∀ cb : CB, (l ++ [cb])[L.length + 2]? = some (.cells 2 [.int .i64 c, v]) := fun cb => by rw [List.getElem?_append_left (by omega)]; exact p2
  obtain ⟨v', j', l6, a1, b1, c1', dd, ee, ff⟩ := appSl (o1.more [.cells 45 (encSl y)]) hR.len hkl
  obtain ⟨R, hRe⟩ : ∃ R, R = encSl y := ⟨_, rfl⟩
  rw [← hRe] at hR hia htw hcy a1
  have f1 := hR.len
  have hspR := spS f1
  have hvc := o1.cells
  have hv'c := b1.cells
  simp at c1' ee
  simp [hia, f1, hspR, List.take_of_length_le, hp2]
  refine pure_call htw (by simp [closedL, CV.closed, hcy]) ?_
  simp at a1 dd
  simp [f1, hspR, List.take_of_length_le, hvc, a1, hp2]
  refine AppK.keep ?_
  have v6 : ∀ b, b < L.length + 3 → l6[b]? = l[b]? := fun b hb => by
   rw [dd b (by omega) (d1.imp id fun h => by omega), List.getElem?_append_left (by omega)]
  have r2 : l6[L.length + 2]? = some (.cells 2 [.int .i64 c, v]) := by rw [v6 _ (by omega)]; exact p2
  have hj' : v' = .nilS ∨ L.length + 3 ≤ j' := by
   rcases ee with h | ⟨h, h'⟩
   ·right; omega
   ·right; rw [h']; exact d1.resolve_left h
  simp [r2, hv'c, splice, e1]
  refine ⟨by omega, by simp, by simp, by simp, by simp, by simp, by simp, fun b hb => ?_, by simp; omega, ?_, v', j', List.getElem?_set_self (by omega), ?_, hj', ?_⟩
  ·rw [List.getElem?_set_ne (by omega), v6 b (by omega)]; exact fr b hb
  ·rw [List.getElem?_set_ne (by omega), v6 _ (by omega)]; exact p1
  ·rw [hst]
   exact b1.frame2 (hj'.imp id fun h => by rw [List.getElem?_set_ne (by omega)])
  ·rw [ff, hst]; simp
 ·simp [h]
  have hk2 : k = s.l.length := by simp at h; omega
  rw [hk2, List.take_length] at o1 n1
  have s2 : ∀ c : CB, (l.set (L.length + 1) c)[L.length + 1]? = some c := fun c => List.getElem?_set_self (by omega)
  have hvc := o1.cells
  simp [p2, p1, s2]
  refine hK v _ j (o1.frame2 (d1.imp id fun h => by rw [List.getElem?_set_ne (by omega)])) (d1.imp id fun h => by omega) (by simp; omega) (fun b hb => ?_) n1
  rw [List.getElem?_set_ne (by omega)]; exact fr b hb
def putErr (c : Int) (l : List Slp) (t : Int) (o : Opr) (m : List (List B)) : Int :=
 if penErr c l ≠ 0 then penErr c l else if opErr o ≠ 0 then 8 else if t < 0 ∨ 1000000000 < t ∨ missB o m = false then 2 else if idOf o ∈ l.map Slp.id then 14 else if t ≤ tkPrev l l.length then 32 else if (l.length : Int) = c then 18 else 0
def putW (c : Int) (l : List Slp) (t : Int) (o : Opr) (m : Ids) : CV :=
 .tu [if putErr c l t o m.l = 0 then .ag (encP c (some (l ++ [⟨t, o, idOf o, m⟩]))) else .ag [.int .i64 0, .nilS], .int .i64 (putErr c l t o m.l)]
set_option maxHeartbeats 2000000 in
theorem wPut_ok (c : Int) (s : Slps) (hs : okSls s.l) (hl : s.l.length ≤ 900000) (t : Int) (o : Opr) (ho : OkOp o) (m : Ids) (hm : okIds m) (hml : m.l.length ≤ 1000000) :
  PureC Tryz.prog GS 22 [.ag (encP c s), .int .i64 t, .ag (encOp o), encIds m] (putW c s.l t o m) := by
 refine pure_of Tryz.checked.mixed GS_closed ?_
 apply call_intro c22_eq r22_eq
 unfold c22 r22 putW
 have hlen : lenM (.sl 45) (encSls s) = some (.int .i64 s.l.length) := by simp [encSls]
 have hcs := closed_Sls s
 have hco := closed_op o
 have hcm := closed_ids m
 have hck := wPCheck_ok c s hs (by omega)
 have hwid := wID_ok o ho
 have hmis := wMiss_ok o ho m hm hml
 have hil := idOf_len6 o
 have hdl := eId_len hil
 have hpa := pAt_ok s hs (by omega) (idOf o) hil
 have hix := ixOf_neg (idOf o) (s.l.map Slp.id) 0
 have hci := closed_eId (idOf o)
 have hcp : closedL [CV.ag (encP c s)] = true := by simp [encP, closedL, CV.closed, hcs]
 have hcop : ∀ h : True, closedL [CV.ag (encP c s)] = true := fun _ => hcp
 obtain ⟨O, hO⟩ : ∃ O, O = encOp o := ⟨_, rfl⟩
 have hOl : O.length = 11 := by rw [hO]; rfl
 have hrow : encSl ⟨t, o, idOf o, m⟩ = .int .i64 t :: (O ++ (eId (idOf o) ++ [encIds m])) := by rw [hO]; rfl
 have hok1 : OkSl ⟨t, o, idOf o, m⟩ := ⟨ho, hil, hm, hml⟩
 have htw := twin_val _ hok1
 have hsl := (row_of hok1).len
 have hcr := closed_encSl ⟨t, o, idOf o, m⟩
 rw [← hO] at hwid hmis hco ⊢
 have hidC : idC (idOf o) = .ag (eId (idOf o)) := rfl
 rw [hidC] at hwid
 obtain ⟨D, hD⟩ : ∃ D, D = eId (idOf o) := ⟨_, rfl⟩
 rw [← hD] at hwid hdl hpa hci hrow
 obtain ⟨R, hRe⟩ : ∃ R, R = encSl ⟨t, o, idOf o, m⟩ := ⟨_, rfl⟩
 have hsl0 := hsl
 rw [← hRe] at hrow htw hsl hcr
 have hspD : splice (rep 32 (.int .u8 0)) 0 D = D := splice_full (by rw [hdl]; rfl)
 have hmc : (encIds m).cells = some [encIds m] := by cases m <;> rfl
 have sO : splice (CV.int .u32 0 :: CV.nilS :: CV.int .u64 0 :: CV.int .u8 0 :: CV.str [] :: CV.int .u8 0 :: CV.int .i64 0 :: CV.int .u64 0 :: CV.str [] :: CV.int .u32 0 :: CV.int .u32 0 :: (rep 32 (.int .u8 0) ++ [CV.nilS])) 0 O = O ++ (rep 32 (.int .u8 0) ++ [CV.nilS]) := by
  unfold splice; simp [hOl]
 have lO : (O ++ (rep 32 (.int .u8 0) ++ [CV.nilS])).length = 44 := by simp [hOl, rep]
 have sD : splice (O ++ (rep 32 (.int .u8 0) ++ [CV.nilS])) 11 D = O ++ (D ++ [CV.nilS]) := by
  unfold splice; simp [hOl, hdl, List.take_append, List.drop_append, rep]
 have lD : (O ++ (D ++ [CV.nilS])).length = 44 := by simp [hOl, hdl]
 have sM : splice (O ++ (D ++ [CV.nilS])) 43 [encIds m] = O ++ (D ++ [encIds m]) := by
  unfold splice; simp [hOl, hdl, List.take_append, List.drop_append, List.take_of_length_le]
 by_cases h0 : penErr c s.l = 0
 ·simp [encP, hOl]
  refine pure_call hck hcp ?_
  simp [h0, hOl, hlen, List.take_of_length_le]
  refine pure_call hwid (by simp [closedL, CV.closed, hco]) ?_
  by_cases h1 : opErr o = 0
  ·by_cases h2 : t < 0
   ·have hp : putErr c s.l t o m.l = 2 := by unfold putErr; simp [h0, h1, h2]
    rw [hp]
    simp [hdl, hspD, hlen, h1, h2, List.take_of_length_le]
    exact rd_eq rfl rfl
   ·by_cases h3 : 1000000000 < t
    ·have hp : putErr c s.l t o m.l = 2 := by unfold putErr; simp [h0, h1, h3]
     rw [hp]
     simp [hdl, hspD, hlen, h1, h2, h3, List.take_of_length_le]
     exact rd_eq rfl rfl
    ·simp [hdl, hspD, hlen, h1, h2, h3, hOl, List.take_of_length_le]
     refine pure_call hmis (by simp [closedL, CV.closed, hco, hcm]) ?_
     cases h4 : missB o m.l with
     | false =>
      have hp : putErr c s.l t o m.l = 2 := by unfold putErr; simp [h0, h1, h4]
      rw [hp]
      simp
      exact rd_eq rfl rfl
     | true =>
      simp [hdl, List.take_of_length_le]
      refine pure_call hpa (by simp [closedL, CV.closed, hcs, hci]) ?_
      by_cases h5 : idOf o ∈ s.l.map Slp.id
      ·have hp : putErr c s.l t o m.l = 14 := by unfold putErr; rw [if_neg (by omega), if_neg (by omega), if_neg (by simp [h2, h3, h4]), if_pos h5]
       have hge : 0 ≤ ixOf (idOf o) (s.l.map Slp.id) 0 := hix.2 h5
       rw [hp]
       simp [hge]
       exact rd_eq rfl rfl
      ·have hge : ¬ 0 ≤ ixOf (idOf o) (s.l.map Slp.id) 0 := fun h => h5 (hix.1 h)
       have hpre : putErr c s.l t o m.l = if t ≤ tkPrev s.l s.l.length then 32 else if (s.l.length : Int) = c then 18 else 0 := by
        unfold putErr; rw [if_neg (by omega), if_neg (by omega), if_neg (by simp [h2, h3, h4]), if_neg h5]
       have hlast : ∀ K : Prop, K → K := fun _ h => h
       by_cases h6 : t ≤ tkPrev s.l s.l.length
       ·have hp : putErr c s.l t o m.l = 32 := by rw [hpre, if_pos h6]
        have hne : s.l.length ≠ 0 := fun he => by rw [he] at h6; simp [tkPrev] at h6; omega
        obtain ⟨z, hz, hzm⟩ := get_of (l := s.l) (k := s.l.length - 1) (by omega)
        have htz : tkPrev s.l s.l.length = z.tk := by unfold tkPrev; rw [if_neg hne, slAt_get hz]
        have e3 : IntKind.i64.wrap ((s.l.length : Int) - 1) = ((s.l.length - 1 : Nat) : Int) := by rw [IntKind.wrap_i64]; omega
        have hiz : iaC (.sl 45) (encSls s) (.int .i64 ((s.l.length - 1 : Nat) : Int)) = some (.rptr (encSl z) 0) := by simp [encSls, hz]
        have hZ := row_of (hs z hzm)
        have g2 := hZ.tk
        have g1 := hZ.len
        obtain ⟨Z, hZe⟩ : ∃ Z, Z = encSl z := ⟨_, rfl⟩
        simp only [← hZe] at g1 g2 hiz
        have h6' : t ≤ z.tk := by rw [← htz]; exact h6
        have hpos : 0 < s.l.length := by omega
        rw [hp]
        simp [hge, hpos, e3, hiz, g1, g2, h6']
        exact rd_eq rfl rfl
       ·have hcond : ∀ {P : Prop}, ((s.l.length = 0 → P) ∧ (∀ z, s.l[s.l.length - 1]? = some z → z ∈ s.l → 0 < s.l.length → ¬ t ≤ z.tk → P)) → P := fun {P} ⟨ha, hb⟩ => by
         by_cases hne : s.l.length = 0
         ·exact ha hne
         ·obtain ⟨z, hz, hzm⟩ := get_of (l := s.l) (k := s.l.length - 1) (by omega)
          exact hb z hz hzm (by omega) (fun h => h6 (by unfold tkPrev; rw [if_neg hne, slAt_get hz]; exact h))
        -- what comes behind
        refine hcond ⟨fun hne => ?_, fun z hz hzm hpos h6' => ?_⟩
        rotate_left
        have e3 : IntKind.i64.wrap ((s.l.length : Int) - 1) = ((s.l.length - 1 : Nat) : Int) := by rw [IntKind.wrap_i64]; omega
        have hiz : iaC (.sl 45) (encSls s) (.int .i64 ((s.l.length - 1 : Nat) : Int)) = some (.rptr (encSl z) 0) := by simp [encSls, hz]
        have hZ := row_of (hs z hzm)
        have g2 := hZ.tk
        have g1 := hZ.len
        obtain ⟨Z, hZe⟩ : ∃ Z, Z = encSl z := ⟨_, rfl⟩
        simp only [← hZe] at g1 g2 hiz
        simp [hge, hpos, e3, hiz, g1, g2, h6']
        rotate_left
        simp [hge, hne]
        all_goals
         refine kIf_intro (fun h7 => ?_) (fun h7 => ?_)
         ·have h7' : (s.l.length : Int) = c := by simp at h7; omega
          have hp : putErr c s.l t o m.l = 18 := by rw [hpre, if_neg h6, if_pos h7']
          rw [hp]
          simp
          exact rd_eq rfl rfl
         ·have h7' : ¬ (s.l.length : Int) = c := by simp at h7; omega
          have hp : putErr c s.l t o m.l = 0 := by rw [hpre, if_neg h6, if_neg h7']
          rw [hp]
          simp
          refine copied_ob c s hs (by omega) fun v l' j ho' hj hle hsm hn => ?_
          have hll : 4 ≤ l'.length := by simpa using hle
          have w1 : ∀ cb : CB, (l' ++ [cb])[1]? = some (.cells 11 O) := fun cb => by rw [List.getElem?_append_left (by omega), hsm 1 (by simp)]; rfl
          have w2 : ∀ cb : CB, (l' ++ [cb])[2]? = some (.cells 2 [.int .i64 0, .nilS]) := fun cb => by rw [List.getElem?_append_left (by omega), hsm 2 (by simp)]; rfl
          have w3 : ∀ cb : CB, (l' ++ [cb])[3]? = some (.cells 32 D) := fun cb => by rw [List.getElem?_append_left (by omega), hsm 3 (by simp)]; rfl
          have hsl' : s.l.length ≤ 1000000 := by omega
          obtain ⟨v', j', l6, b0, b1, c1', dd, ee, ff⟩ := appSl (s := ⟨t, o, idOf o, m⟩) ((ho'.more [.cells 2 [.int .i64 c, v]])) hsl0 (by omega)
          rw [← hRe] at b0
          have hvc := ho'.cells
          have hv'c := b1.cells
          have hn0 : ∀ cb : CB, (l' ++ [cb])[l'.length]? = some cb := fun cb => List.getElem?_concat_length
          simp at b0 c1' ee dd
          simp [w1, w3, hOl, hdl, List.take_of_length_le, sO, sD, sM, lO, lD, hmc, ← hrow]
          refine pure_call htw (by simp [closedL, CV.closed, hcr]) ?_
          have hspR := spS hsl
          simp [w1, w3, hOl, hdl, List.take_of_length_le, hsl, hspR, b0, hvc]
          refine AppK.keep ?_
          have x2 : l6[2]? = some (.cells 2 [.int .i64 0, .nilS]) := by
           rw [dd 2 (by omega) (hj.imp id fun h => by simp at h; omega)]; exact w2 _
          have xn : l6[l'.length]? = some (.cells 2 [.int .i64 c, v]) := by
           rw [dd _ (by omega) (ho'.lt.imp id fun h => by omega)]
           exact hn0 _
          have hj' : 4 ≤ j' ∧ j' ≠ l'.length := by
           rcases ee with h | ⟨h, h'⟩
           ·omega
           ·have h1 := hj.resolve_left h
            have h2 := ho'.lt.resolve_left h
            simp at h1; omega
          have q0 : ∀ cb : CB, (l6.set l'.length cb)[l'.length]? = some cb := fun cb => List.getElem?_set_self (by omega)
          have q2 : ∀ cb : CB, (l6.set l'.length cb)[2]? = some (.cells 2 [.int .i64 0, .nilS]) := fun cb => by rw [List.getElem?_set_ne (by omega)]; exact x2
          have q3 : ∀ cb cb' : CB, ((l6.set l'.length cb).set 2 cb')[2]? = some cb' := fun cb cb' => List.getElem?_set_self (by simp; omega)
          simp [x2, xn, hv'c, splice, q0, q2, q3]
          refine rd_tu2 (rd_ag2 (.same _ rfl) ((b1.frame2 (.inr (by rw [List.getElem?_set_ne (by omega), List.getElem?_set_ne (by omega)]))).q.rd_enc closed_encSl (some (s.l ++ [⟨t, o, idOf o, m⟩])) (by rw [ff]; rfl) rfl)) (.same _ rfl)
  ·have hp : putErr c s.l t o m.l = 8 := by unfold putErr; simp [h0, h1]
   rw [hp]
   simp [hdl, hspD, hlen, h1, List.take_of_length_le]
   exact rd_eq rfl rfl
 ·have hp : putErr c s.l t o m.l = penErr c s.l := by unfold putErr; simp [h0]
  rw [hp]
  simp [encP, hOl]
  refine pure_call hck hcp ?_
  simp [h0]
  exact rd_eq rfl rfl
end Op
end Go.CM

/-
  Buffers of sleepers: copied; walked in the reference.
-/
namespace Go.CM
open Go Go.Proofs
set_option maxRecDepth 100000
namespace Op
open Sha
def twO (o : Opr) : Opr := { o with preds := some o.preds.l }
def twS (s : Slp) : Slp := { s with op := twO s.op, miss := some s.miss.l }
end Op
end Go.CM

/-
  Buffers of sleepers: a buffer copied, ids left out; walked in the reference.
-/
namespace Go.CM
open Go Go.Proofs
set_option maxRecDepth 100000
namespace Op
open Sha
structure TwnI (c : Int) (s : Slps) (L : Hl) (k : Nat) (σ : Sg) (l : Hl) : Prop where
 g1 : σ 1 = .ptr L.length 0 2
 g2 : σ 2 = .ptr (L.length + 1) 0 2
 g3 : σ 3 = .ptr (L.length + 2) 0 2
 g4 : σ 4 = .int .i64 k
 fr : ∀ b, b < L.length → l[b]? = L[b]?
 len : L.length + 3 ≤ l.length
 p0 : l[L.length]? = some (.cells 2 (encP c s))
 p1 : l[L.length + 1]? = some (.cells 2 [.int .i64 0, .nilS])
 ex : ∃ v j, l[L.length + 2]? = some (.cells 2 [.int .i64 c, v]) ∧ OwnS 45 l v j (((s.l.take k).map twS).map encSl) ∧ (v = .nilS ∨ L.length + 3 ≤ j) ∧ isNilS v = (s.l.take k).isEmpty
def svI (l : List (List B)) : Ids := match l with | [] => none | a :: r => some (a :: r)
structure WitI (m : Ids) (x : List B) (k : Nat) (σ : Sg) (l : Hl) : Prop where
 g0 : σ 0 = encIds m
 g3 : σ 3 = .ptr 0 0 32
 g6 : σ 6 = .int .i64 k
 p0 : l[0]? = some (.cells 32 (eId x))
 ex : ∃ v j, σ 5 = v ∧ OwnS 32 l v j (((m.l.take k).filter (notX x)).map eId) ∧ (v = .nilS ∨ 1 ≤ j) ∧ isNilS v = ((m.l.take k).filter (notX x)).isEmpty
end Op
end Go.CM

/-
  Buffers of sleepers: what comes; walked in the reference.
-/
namespace Go.CM
open Go Go.Proofs
set_option maxRecDepth 100000
namespace Op
open Sha
def strikeR (x : List B) (s : Slp) : Slp := { twS s with miss := svI (s.miss.l.filter (notX x)) }
def freedR (x : List B) (l : List Slp) : List Slp := (l.map (strikeR x)).filter gone
def nextR (x : List B) (l : List Slp) : List Slp := (l.map (strikeR x)).filter fun s => !gone s
structure CmrH (c : Int) (s : Slps) (x : List B) (k : Nat) (v1 : CV) (l : Hl) : Prop where
 p0 : l[0]? = some (.cells 2 (encP c s))
 p1 : l[1]? = some (.cells 32 (eId x))
 p2 : l[2]? = some (.cells 2 [.int .i64 0, .nilS])
 ex : ∃ v2 j1 j2, l[3]? = some (.cells 2 [.int .i64 c, v2]) ∧ OwnS 45 l v1 j1 ((freedR x (s.l.take k)).map encSl) ∧ OwnS 45 l v2 j2 ((nextR x (s.l.take k)).map encSl) ∧ (v1 = .nilS ∨ 4 ≤ j1) ∧ (v2 = .nilS ∨ 4 ≤ j2) ∧ (v1 = .nilS ∨ v2 = .nilS ∨ j1 ≠ j2) ∧
  isNilS v1 = (freedR x (s.l.take k)).isEmpty ∧ isNilS v2 = (nextR x (s.l.take k)).isEmpty
 len : 4 ≤ l.length
structure CmrI (c : Int) (s : Slps) (x : List B) (k : Nat) (σ : Sg) (l : Hl) : Prop where
 g2 : σ 2 = .ptr 0 0 2
 g3 : σ 3 = .ptr 1 0 32
 g4 : σ 4 = .ptr 2 0 2
 g7 : σ 7 = .ptr 3 0 2
 g9 : σ 9 = .int .i64 k
 h : ∃ v1, σ 8 = v1 ∧ CmrH c s x k v1 l
end Op
end Go.CM

/-
  Buffers of sleepers: put; walked in the reference; new buffers, and whether an id is there, in both texts.
-/
namespace Go.CM
open Go Go.Proofs
set_option maxRecDepth 100000
namespace Op
open Sha
theorem tk_last {c : Int} {l : List Slp} (h0 : penErr c l = 0) {t : Int} (h : ¬ t ≤ tkPrev l l.length) : ∀ s ∈ l, ¬ t ≤ s.tk := by
 obtain ⟨_, g⟩ := pen_good h0
 obtain ⟨_, g2, _⟩ := (good_split l).1 g
 intro s hs hle
 obtain ⟨j, hj⟩ := List.mem_iff_getElem?.1 hs
 have hjl := (List.getElem?_eq_some_iff.1 hj).1
 obtain ⟨z, hz, hzm⟩ := get_of (l := l) (k := l.length - 1) (by omega)
 have ht : tkPrev l l.length = z.tk := by unfold tkPrev; rw [if_neg (by omega), slAt_get hz]
 rw [ht] at h
 by_cases hjn : j = l.length - 1
 ·rw [hjn, hz] at hj; obtain rfl := Option.some.inj hj; exact h hle
 ·have := (List.pairwise_iff_getElem.1 g2) j (l.length - 1) hjl (by omega) (by omega)
  rw [(List.getElem?_eq_some_iff.1 hj).2, (List.getElem?_eq_some_iff.1 hz).2] at this
  omega
structure PutI (c : Int) (s : Slps) (t : Int) (o : Opr) (m : Ids) (L : Hl) (k : Nat) (σ : Sg) (l : Hl) : Prop where
 hl : l = L
 g1 : σ 1 = .int .i64 t
 g3 : σ 3 = encIds m
 g4 : σ 4 = .ptr 0 0 2
 g6 : σ 6 = .ptr 1 0 11
 g8 : σ 8 = .ptr 2 0 2
 g10 : σ 10 = .ptr 3 0 32
 g12 : σ 12 = .int .i64 k
 hs : ∀ (j : Nat) (z : Slp), j < k → s.l[j]? = some z → ¬ t ≤ z.tk
def hasW (c : Int) (l : List Slp) (x : List B) : CV := if penErr c l = 0 then .tu [.bool (decide (x ∈ l.map Slp.id)), .int .i64 0] else .tu [.bool false, .int .i64 (penErr c l)]
theorem wHas_ok (c : Int) (s : Slps) (hs : okSls s.l) (hl : s.l.length ≤ 1000000) (x : List B) (hx : x.length = 32) : PureC Tryz.prog GS 26 [.ag (encP c s), .ag (eId x)] (hasW c s.l x) := by
 refine pure_of Tryz.checked.mixed GS_closed ?_
 apply call_intro c26_eq r26_eq
 unfold c26 r26 hasW
 have hcs := closed_Sls s
 have hcx := closed_eId x
 have hxl := eId_len hx
 have hck := wPCheck_ok c s hs hl
 have hpa := pAt_ok s hs hl x hx
 have hix := ixOf_neg x (s.l.map Slp.id) 0
 have hcp : closedL [CV.ag (encP c s)] = true := by simp [encP, closedL, CV.closed, hcs]
 by_cases h0 : penErr c s.l = 0
 ·simp [encP, hxl]
  refine pure_call hck hcp ?_
  simp [h0, hxl, List.take_of_length_le]
  refine pure_call hpa (by simp [closedL, CV.closed, hcs, hcx]) ?_
  rw [if_pos h0]
  simp
  exact rd_eq (by simp [hix]) rfl
 ·simp [encP, hxl]
  refine pure_call hck hcp ?_
  rw [if_neg h0]
  simp [h0]
  exact rd_eq rfl rfl
end Op
end Go.CM

/-
  Rows of one's own, read, set, appended to; one element put into its place, from the end on; sorted lists.
-/
namespace Go.CM
open Go Go.Proofs
set_option maxRecDepth 100000
namespace Op
section
variable {α : Type} {z : Nat} {enc : α → List CV}
def insG (l : List α) (i : Nat) (x : α) : List α := l.take i ++ x :: l.drop i
def posG (lt : α → α → Bool) (l : List α) (x : α) : Nat → Nat
 | 0 => 0
 | k + 1 => match l[k]? with
  | some y => if lt x y then posG lt l x k else k + 1
  | none => k + 1
def sortG (lt : α → α → Bool) (u : List α) : Nat → List α
 | 0 => []
 | i + 1 => match u[i]? with
  | some x => insG (sortG lt u i) (posG lt (sortG lt u i) x (sortG lt u i).length) x
  | none => sortG lt u i
end
section
variable {α : Type} [DecidableEq α]
def uq (l : List α) : List α := l.foldl (fun a x => if x ∈ a then a else a ++ [x]) []
end
end Op
end Go.CM

/-
  Buffers of sleepers: all missing ids; walked in the reference.
-/
namespace Go.CM
open Go Go.Proofs Go.Sort
set_option maxRecDepth 100000
namespace Op
open Sha
abbrev base1 (c : Int) (s : Slps) : Hl := [CB.cells 2 (encP c s)]
structure AoI (c : Int) (s : Slps) (k : Nat) (σ : Sg) (l : Hl) : Prop where
 g1 : σ 1 = .ptr 0 0 2
 g4 : σ 4 = .int .i64 k
 ex : ∃ v, σ 3 = v ∧ Ob 32 eId (base1 c s) l v (uq (allM (s.l.take k))) (uq (allM (s.l.take k))).isEmpty
structure AiI (c : Int) (s : Slps) (y : Slp) (i : Nat) (k : Nat) (σ : Sg) (l : Hl) : Prop where
 g1 : σ 1 = .ptr 0 0 2
 g4 : σ 4 = .int .i64 i
 g5 : σ 5 = .int .i64 k
 ex : ∃ v, σ 3 = v ∧ Ob 32 eId (base1 c s) l v (uq (allM (s.l.take i) ++ y.miss.l.take k)) (uq (allM (s.l.take i) ++ y.miss.l.take k)).isEmpty
structure AsI (c : Int) (s : Slps) (u : List (List B)) (k : Nat) (σ : Sg) (l : Hl) : Prop where
 g7 : σ 7 = .int .i64 k
 ex : ∃ v, σ 3 = v ∧ Ob 32 eId (base1 c s) l v (sortG ltB u k ++ u.drop k) u.isEmpty
structure AtI2 (c : Int) (s : Slps) (u t : List (List B)) (x : List B) (i : Nat) (m : Nat) (σ : Sg) (l : Hl) : Prop where
 g7 : σ 7 = .int .i64 i
 ex : ∃ (k : Nat) (v : CV), k = m ∧ k ≤ i ∧ σ 3 = v ∧ σ 8 = .int .i64 k ∧ Ob 32 eId (base1 c s) l v (insG t k x) u.isEmpty ∧ posG ltB t x k = posG ltB t x i
end Op
end Go.CM

/-
  Buffers of sleepers: PendingDoes, walked.
-/
namespace Go.CM
open Go Go.Proofs
set_option maxRecDepth 100000
namespace Op
open Sha
theorem putW_eq (c : Int) (l : List Slp) (t : Int) (o : Opr) (m : Ids) : putW c l t o m = .tu [.ag (encP (if putErr c l t o m.l = 0 then c else 0) (if putErr c l t o m.l = 0 then some (l ++ [⟨t, o, idOf o, m⟩]) else none)), .int .i64 (putErr c l t o m.l)] := by
 unfold putW; split <;> rfl
theorem hasW_eq (c : Int) (l : List Slp) (x : List B) : hasW c l x = .tu [.bool (decide (penErr c l = 0) && decide (x ∈ l.map Slp.id)), .int .i64 (penErr c l)] := by
 unfold hasW; split
 ·rename_i h; rw [h]; simp
 ·rename_i h; simp [h]
end Op
end Go.CM

/-
  Buffers of sleepers: what is put is there, and goes when its last missing id comes; walked.
-/
namespace Go.CM
open Go Go.Proofs
set_option maxRecDepth 100000
namespace Op
open Sha
theorem put_good {c : Int} {l : List Slp} {t : Int} {o : Opr} {m : Ids} (h : putErr c l t o m.l = 0) : penErr c l = 0 ∧ opErr o = 0 ∧ missB o m.l = true ∧ penErr c (l ++ [⟨t, o, idOf o, m⟩]) = 0 := by
 unfold putErr at h
 by_cases h0 : penErr c l = 0
 case neg => rw [if_pos h0] at h; exact absurd h h0
 rw [if_neg (by omega)] at h
 by_cases h1 : opErr o = 0
 case neg => rw [if_pos h1] at h; cases h
 rw [if_neg (by omega)] at h
 by_cases h2 : t < 0 ∨ 1000000000 < t ∨ missB o m.l = false
 case pos => rw [if_pos h2] at h; cases h
 rw [if_neg h2] at h
 by_cases h3 : idOf o ∈ l.map Slp.id
 case pos => rw [if_pos h3] at h; cases h
 rw [if_neg h3] at h
 by_cases h4 : t ≤ tkPrev l l.length
 case pos => rw [if_pos h4] at h; cases h
 rw [if_neg h4] at h
 by_cases h5 : (l.length : Int) = c
 case pos => rw [if_pos h5] at h; cases h
 have hm : missB o m.l = true := by cases hh : missB o m.l <;> simp_all
 refine ⟨h0, h1, hm, ?_⟩
 obtain ⟨g1, g2⟩ := pen_good h0
 obtain ⟨q1, q2, q3⟩ := (good_split l).1 g2
 have hlast := tk_last h0 h4
 have hgood : goodSls (l ++ [⟨t, o, idOf o, m⟩]) = true := by
  refine (good_split _).2 ⟨fun s hs => ?_, ?_, ?_⟩
  ·rcases List.mem_append.1 hs with h | h
   ·exact q1 s h
   ·rw [List.mem_singleton.1 h]
    exact ⟨h1, rfl, by show 0 ≤ t; omega, by show t ≤ _; omega, hm⟩
  ·refine List.pairwise_append.2 ⟨q2, List.pairwise_singleton _ _, fun a ha b hb => ?_⟩
   rw [List.mem_singleton.1 hb]
   have := hlast a ha
   show a.tk < t; omega
  ·refine List.pairwise_append.2 ⟨q3, List.pairwise_singleton _ _, fun a ha b hb => ?_⟩
   rw [List.mem_singleton.1 hb]
   exact fun e => h3 (List.mem_map.2 ⟨a, ha, e⟩)
 unfold penErr
 rw [if_neg (by simp only [List.length_append, List.length_singleton]; omega), hgood]; rfl
theorem put_gone {l : List Slp} {N : Slp} (hid : (l ++ [N]).Pairwise fun a b => a.id ≠ b.id) (hm : ris N.miss.l = true) {k : Nat} (hk : k < N.miss.l.length) :
  (ixOf N.id ((nowL (N.miss.l.take (k + 1)) (l ++ [N])).map Slp.id) 0 < 0) ↔ k = N.miss.l.length - 1 := by
 have h1 : (0 ≤ ixOf N.id ((nowL (N.miss.l.take (k + 1)) (l ++ [N])).map Slp.id) 0) ↔ k ≠ N.miss.l.length - 1 := by
  rw [ixOf_neg]
  have hnd := ris_nodup hm
  constructor
  ·intro hmem hk2
   obtain ⟨f, hf, hfe⟩ := List.mem_map.1 hmem
   obtain ⟨s, hs, hsi, y, hy, hyc⟩ := next_of hf
   have hsN : s = N := by
    rcases List.mem_append.1 hs with h | h
    ·exact absurd (by rw [← hsi, hfe]) ((List.pairwise_append.1 hid).2.2 s h N (by simp))
    ·exact List.mem_singleton.1 h
   rw [hsN] at hy
   refine hyc ?_
   rw [List.take_of_length_le (by omega)]; exact hy
  ·intro hk2
   refine List.mem_map.2 ⟨strikeL (N.miss.l.take (k + 1)) N, ?_, rfl⟩
   unfold nowL
   refine List.mem_filter.2 ⟨List.mem_map.2 ⟨N, by simp, rfl⟩, ?_⟩
   unfold gone
   have h2 : (strikeL (N.miss.l.take (k + 1)) N).miss.l = N.miss.l.filter (nX (N.miss.l.take (k + 1))) := strikeML_l _ _
   rw [h2]
   obtain ⟨y, hy, hym⟩ := get_of (l := N.miss.l) (k := k + 1) (by omega)
   have hyn : y ∉ N.miss.l.take (k + 1) := fun h => by
    obtain ⟨j, hj⟩ := List.mem_iff_getElem?.1 h
    have hjl := (List.getElem?_eq_some_iff.1 hj).1
    rw [List.length_take] at hjl
    rw [List.getElem?_take_of_lt (by omega)] at hj
    have := (List.pairwise_iff_getElem.1 hnd) j (k + 1) (by omega) (by omega) (by omega)
    exact this (by rw [(List.getElem?_eq_some_iff.1 hj).2, (List.getElem?_eq_some_iff.1 hy).2])
   have : y ∈ N.miss.l.filter (nX (N.miss.l.take (k + 1))) := List.mem_filter.2 ⟨hym, by unfold nX; rw [decide_eq_false hyn]; rfl⟩
   cases hc : N.miss.l.filter (nX (N.miss.l.take (k + 1))) with
   | nil => rw [hc] at this; cases this
   | cons a r => rfl
 constructor
 ·intro h; exact Decidable.byContradiction fun hn => by have := h1.2 hn; omega
 ·intro h; exact Decidable.byContradiction fun hn => by have := h1.1 (by omega); exact this h
structure PtsI (c : Int) (Q : List Slp) (N : Slp) (m : Ids) (k : Nat) (σ : Sg) (l : Hl) : Prop where
 g3 : σ 3 = encIds m
 g9 : σ 9 = .bool true
 g10 : σ 10 = .ptr 2 0 2
 g12 : σ 12 = .ptr 3 0 32
 g17 : σ 17 = .int .i64 k
 p12 : l[3]? = some (.cells 32 (eId N.id))
 ex : ∃ w : Slps, l[2]? = some (.cells 2 (encP c w)) ∧ w.l = nowL (m.l.take k) Q
set_option maxHeartbeats 4000000 in
theorem puts_ok (hal : PureC Tryz.prog GS 8 [] (.bool true)) (c : Int) (s : Slps) (hs : ∀ t ∈ s.l, TySl t) (tk : Int) (o : Opr) (hto : TyOp o) (m : Ids) (hm : okIds m) :
  PureC Tryz.prog GS 7 [.ag (encP c s), .int .i64 tk, .ag (encOp o), encIds m] (.bool true) := by
 refine pure_of Tryz.checked.mixed GS_closed ?_
 apply call_intro c7_eq r7_eq
 unfold c7 r7
 have hcs := closed_Sls s
 have hco := closed_op o
 have hcm := closed_ids m
 have hcp : closedL [CV.ag (encP c s)] = true := by simp [encP, closedL, CV.closed, hcs]
 have hlm : lenM (.sl 32) (encIds m) = some (.int .i64 m.l.length) := by simp [encIds]
 have hlS : lenM (.sl 45) (encSls s) = some (.int .i64 s.l.length) := by simp [encSls]
 have hfit := fit_ok c s hs
 have hlo := rLong_ok o
 obtain ⟨O, hO⟩ : ∃ O, O = encOp o := ⟨_, rfl⟩
 have hOl : O.length = 11 := by rw [hO]; rfl
 rw [← hO] at hco hlo ⊢
 simp [encP, hOl]
 refine pure_call hal rfl ?_
 simp [encP]
 refine pure_call hfit hcp ?_
 cases hg : greatP s.l with
 | true => simp; exact rd_eq rfl rfl
 | false =>
 by_cases hp : penErr c s.l = 0
 case neg => simp [hp]; exact rd_eq rfl rfl
 case pos =>
 simp [hp, hOl, List.take_of_length_le]
 refine pure_call hlo (by simp [closedL, CV.closed, hco]) ?_
 cases hl : longO o with
 | true => simp; exact rd_eq rfl rfl
 | false =>
 by_cases h40 : 40 < m.l.length
 ·have h40' : (40 : Int) < (m.l.length : Int) := by omega
  simp [hlm, h40, h40']
  exact rd_eq rfl rfl
 have h40' : ¬ (40 : Int) < (m.l.length : Int) := by omega
 obtain ⟨h20, hb⟩ := pGreat_le hg
 have hok : okSls s.l := fun t ht => okSl_of (hs t ht) (hb t ht)
 have ho : OkOp o := by
  unfold longO at hl
  simp only [Bool.or_eq_false_iff, decide_eq_false_iff_not] at hl
  exact ⟨hto.ids, by omega, ⟨hto.n1, hto.n2, by omega⟩, by omega⟩
 simp [hlm, h40, h40', encP, hOl, List.take_of_length_le]
 have hput := wPut_ok c s hok (by omega) tk o ho m hm (by omega)
 rw [putW_eq, ← hO] at hput
 refine pure_call hput (show closedL [CV.ag (encP c s), .int .i64 tk, .ag O, encIds m] = true by simp [encP, closedL, CV.closed, hcs, hco, hcm]) ?_
 by_cases h1 : putErr c s.l tk o m.l = 0
 case neg =>
  have hn : lenM (.sl 45) (encSls none) = some (.int .i64 0) := rfl
  simp [h1, encP, hn]
  exact rd_eq rfl rfl
 obtain ⟨_, hoe, hmb, hpe⟩ := put_good h1
 obtain ⟨N, hN⟩ : ∃ N : Slp, N = ⟨tk, o, idOf o, m⟩ := ⟨_, rfl⟩
 have hNok : OkSl N := by rw [hN]; exact ⟨ho, idOf_len6 o, hm, by show m.l.length ≤ _; omega⟩
 obtain ⟨Q, hQ⟩ : ∃ Q, Q = s.l ++ [N] := ⟨_, rfl⟩
 rw [← hN, ← hQ] at hpe
 have hQok : okSls Q := fun t ht => by
  rw [hQ] at ht
  rcases List.mem_append.1 ht with h | h
  ·exact hok t h
  ·rw [List.mem_singleton.1 h]; exact hNok
 have hQl : Q.length = s.l.length + 1 := by rw [hQ]; simp
 obtain ⟨_, hgood⟩ := pen_good hpe
 obtain ⟨q1, q2, q3⟩ := (good_split Q).1 hgood
 have hcQ := closed_Sls (some Q)
 have hlQ : lenM (.sl 45) (encSls (some Q)) = some (.int .i64 (Q.length : Int)) := by simp [encSls]
 have hid := rID6_ok o ho
 rw [← hO, hoe] at hid
 have hidC : idC (idOf o) = .ag (eId N.id) := by rw [hN]; rfl
 rw [hidC] at hid
 have hNi := hNok.id
 have hdl := eId_len hNi
 have hcd := closed_eId N.id
 have hhas := wHas_ok c (some Q) hQok (by show Q.length ≤ _; omega) N.id hNi
 have hmem : N.id ∈ (Sv.l (some Q)).map Slp.id := List.mem_map.2 ⟨N, by show N ∈ Q; rw [hQ]; simp, rfl⟩
 have hpe' : penErr c (Sv.l (some Q)) = 0 := hpe
 rw [hasW_eq, hpe', decide_eq_true hmem] at hhas
 have hck := rPCheck_ok c (some Q) hQok (by show Q.length ≤ _; omega)
 rw [hpe'] at hck
 have hsame := rSameSls_ok (some s.l) s hok hok (by show s.l.length ≤ _; omega)
 rw [show sameSls (Sv.l (some s.l)) s.l = true from sameSls_self s.l] at hsame
 have hcsl := closed_Sls (some s.l)
 have hsl : sliceM (.sl 45) (encSls (some Q)) none (some (.int .i64 (s.l.length : Int))) none = some (encSls (some s.l)) := by
  have := slice_to (z := 45) (enc := encSl) (l := Q) (k := .i64) (i := (s.l.length : Int)) (by omega) (by omega)
  rw [show (s.l.length : Int).toNat = s.l.length by omega, hQ, List.take_left] at this
  rw [hQ]; exact this
 have hwr : IntKind.i64.wrap ((s.l.length : Int) + 1) = (Q.length : Int) := by rw [IntKind.wrap_i64]; omega
 have hcpq : closedL [CV.ag (encP c (some Q))] = true := by simp [encP, closedL, CV.closed, hcQ]
 have hcpqd : closedL [CV.ag (encP c (some Q)), CV.ag (eId N.id)] = true := by simp [encP, closedL, CV.closed, hcQ, hcd]
 have hR := row_of hNok
 have hiN : iaC (.sl 45) (encSls (some Q)) (.int .i64 (s.l.length : Int)) = some (.rptr (encSl N) 0) := by
  have : Q[s.l.length]? = some N := by rw [hQ]; simp
  simp [encSls, this]
 have hso := rSameO_ok o o ho ho
 rw [sameO_self, ← hO] at hso
 have hsm := sameIDs_ok m m hm hm (by omega)
 rw [decide_eq_true rfl] at hsm
 have hne := idNeq hNi hNi
 rw [decide_eq_true rfl] at hne
 have r1 := hR.len
 have r2 := hR.tk
 have r3 := hR.op
 have r4 := hR.id
 have r5 := hR.miss
 have e2 : N.tk = tk := by rw [hN]
 have e3 : encOp N.op = O := by rw [hN, hO]
 have e5 : N.miss = m := by rw [hN]
 rw [e2] at r2
 rw [e3] at r3
 rw [e5] at r5
 have hcO : closedL [CV.ag O, CV.ag O] = true := by simp [closedL, CV.closed, hco]
 have hcmm : closedL [encIds m, encIds m] = true := by simp [closedL, hcm]
 have hnil := now_nil q1
 have hmN : ris N.miss.l = true := by
  rw [e5]
  unfold missB at hmb
  rw [Bool.and_eq_true, Bool.and_eq_true] at hmb
  exact hmb.2.1
 rw [if_pos h1, if_pos h1, h1] at hput
 simp only [h1, if_true]
 rw [← hN, ← hQ]
 have hcelQ : (encSls (some Q)).cells = some [encSls (some Q)] := rfl
 obtain ⟨E, hE⟩ : ∃ E, E = eId N.id := ⟨_, rfl⟩
 obtain ⟨R, hRe⟩ : ∃ R, R = encSl N := ⟨_, rfl⟩
 simp only [← hE] at hid hdl hcd hhas hcpqd r4 hne
 simp only [← hRe] at r1 r2 r3 r4 r5 hiN
 have hspE : splice (rep 32 (.int .u8 0)) 0 E = E := splice_full (by rw [hdl]; rfl)
 have hspR := spS r1
 simp [encP, hOl, List.take_of_length_le]
 refine pure_call hid (by simp [closedL, CV.closed, hco]) ?_
 simp [hdl, hspE, List.take_of_length_le]
 refine pure_call hhas hcpqd ?_
 simp
 refine pure_call hck hcpq ?_
 simp [hlQ, hlS, hwr, hsl]
 refine pure_call hsame (by simp [closedL, hcsl, hcs]) ?_
 simp [hlS, hiN, r1, r2, r3, r4, r5, hspR, hdl, hne, hOl, List.take_of_length_le]
 refine pure_call hso hcO ?_
 simp [r1, r5, hdl]
 refine pure_call hsm hcmm ?_
 simp
 have hPo : ∀ w : Slps, (encP c w).length = 2 := fun _ => rfl
 have hcell : ∀ w : Slps, (encSls w).cells = some [encSls w] := fun w => by cases w <;> rfl
 refine loop_up m.l.length (PtsI c Q N m) ?_ ⟨by simp, by simp, by simp, by simp, by simp, by rw [hE] at *; rfl, some Q, rfl, by simp [hnil]⟩
 rintro k σ l hk ⟨g3, g9, g10, g12, g17, p12, w, p10, hw⟩
 obtain ⟨σ, rfl⟩ := upds5 g3 g9 g10 g12 g17
 clear g3 g9 g10 g12 g17
 unfold l7_0
 simp [hlm]
 refine kIf_intro (fun h => ?_) (fun h => ?_)
 ·simp only [decide_eq_true_eq] at h
  obtain ⟨x, hx, hxm⟩ := get_of (l := m.l) (k := k) (by omega)
  have hxl := eId_len (hm x hxm)
  have e1 : IntKind.i64.wrap ((k : Int) + 1) = ((k + 1 : Nat) : Int) := by rw [IntKind.wrap_i64]; omega
  have e4 : IntKind.i64.wrap ((m.l.length : Int) - 1) = ((m.l.length - 1 : Nat) : Int) := by rw [IntKind.wrap_i64]; omega
  have hia : iaC (.sl 32) (encIds m) (.int .i64 (k : Int)) = some (.rptr (eId x) 0) := by simp [encIds, hx]
  have hcx := closed_eId x
  have hll : 4 ≤ l.length := get_lt p12
  have hwok : okSls w.l := by rw [hw]; exact ok_nowL hQok
  have hwl : w.l.length ≤ 21 := by rw [hw]; exact Nat.le_trans (len_nowL _ _) (by omega)
  have hwp : penErr c w.l = 0 := by rw [hw]; exact now_ok hpe _
  have hnx : nextL x w.l = nowL (m.l.take (k + 1)) Q := by rw [hw, next_now, List.take_add_one, hx]; rfl
  have hcome := wCome_ok c w hwok (by omega) x (hm x hxm)
  have hcw : comeW c w.l x = .tu [.ag (encP c (svS (nextL x w.l))), encSls (svS (freedL x w.l)), .int .i64 0] := by unfold comeW; rw [if_pos hwp]
  rw [hcw] at hcome
  have hcsw := closed_Sls w
  obtain ⟨W', hW'⟩ : ∃ W', W' = svS (nextL x w.l) := ⟨_, rfl⟩
  obtain ⟨F, hF⟩ : ∃ F, F = svS (freedL x w.l) := ⟨_, rfl⟩
  have hW'l : W'.l = nowL (m.l.take (k + 1)) Q := by rw [hW', svS_l, hnx]
  rw [← hW', ← hF] at hcome
  have hW'ok : okSls W'.l := by rw [hW'l]; exact ok_nowL hQok
  have hW'n : W'.l.length ≤ 21 := by rw [hW'l]; exact Nat.le_trans (len_nowL _ _) (by omega)
  have hat := rAt_ok c W' hW'ok (by omega) N.id hNi
  have hgone := put_gone (l := s.l) (N := N) (by rw [← hQ]; exact q3) hmN (k := k) (by rw [e5]; exact h)
  rw [e5, ← hQ, ← hW'l] at hgone
  have hcW' := closed_Sls W'
  have hcpw : closedL [CV.ag (encP c w), CV.ag (eId x)] = true := by simp [encP, closedL, CV.closed, hcsw, hcx]
  obtain ⟨ix, hix⟩ : ∃ ix, ix = ixOf N.id (W'.l.map Slp.id) 0 := ⟨_, rfl⟩
  rw [← hix] at hat hgone
  obtain ⟨X, hX⟩ : ∃ X, X = eId x := ⟨_, rfl⟩
  obtain ⟨PW, hPW⟩ : ∃ PW, PW = encP c w := ⟨_, rfl⟩
  have hP : PW.length = 2 := by rw [hPW]; rfl
  rw [← hX] at hxl hia hcpw hcome
  rw [← hPW] at p10 hcpw hcome
  rw [← hE] at hat p12
  have hp10 : ∀ cb : CB, (l ++ [cb])[2]? = some (.cells 2 PW) := fun cb => by rw [List.getElem?_append_left (by omega)]; exact p10
  have hp12 : ∀ cb : CB, (l ++ [cb])[3]? = some (.cells 32 E) := fun cb => by rw [List.getElem?_append_left (by omega)]; exact p12
  have hset : ∀ cb cb2 : CB, (l ++ [cb]).set l.length cb2 = l ++ [cb2] := fun cb cb2 => by simp
  have hset2 : ∀ cb cb2 : CB, (l ++ [cb]).set 2 cb2 = l.set 2 cb2 ++ [cb] := fun cb cb2 => by rw [List.set_append_left _ _ (by omega)]
  have hn0 : ∀ cb : CB, (l ++ [cb])[l.length]? = some cb := fun cb => List.getElem?_concat_length
  have hspl : splice PW 0 [CV.int .i64 c, encSls W'] = [CV.int .i64 c, encSls W'] := splice_full (by rw [hP]; rfl)
  have hcpd : closedL [CV.ag [CV.int .i64 c, encSls W'], CV.ag E] = true := by simp [closedL, CV.closed, hcW', hcd]
  have hbe : ∀ x y : Bool, binC Tryz.prog .neq 4 (.bool x) (.bool y) = some (.bool (!(x == y))) := bin_bool_neq (by kernel_rfl)
  have hdd : decide (ix < 0) = decide (k = m.l.length - 1) := by simp only [hgone]
  have hcast : ∀ a b : Nat, decide ((a : Int) = (b : Int)) = decide (a = b) := fun a b => by simp only [Int.ofNat_inj]
  unfold encP at hat hcome
  simp [hia, hxl, p10, hp10, hP, List.take_of_length_le]
  refine pure_call hcome hcpw ?_
  simp [hset, hn0, hp12, hdl, List.take_of_length_le]
  refine pure_call hat hcpd ?_
  simp [hlm, e4, hdd, hbe, hcast k (m.l.length - 1), hn0, hp10, hP, hset2, hspl, List.take_of_length_le, e1]
  refine ⟨by omega, by simp, by simp, by simp, by simp, by simp, ?_, W', ?_, hW'l⟩
  ·rw [List.getElem?_append_left (by simp; omega), List.getElem?_set_ne (by omega), ← hE]; exact p12
  ·rw [List.getElem?_append_left (by simp; omega)]; exact List.getElem?_set_self (by omega)
 ·simp [h]
  exact rd_eq rfl rfl
end Op
end Go.CM

/-
  Buffers of sleepers: a sleeper copied, ids struck; walked.
-/
import Derived.Test.YtcoanbhfelfigaaGreatDoorEk
namespace Go.CM
open Go Go.Proofs
set_option linter.unusedVariables false
set_option linter.unusedSimpArgs false
set_option maxRecDepth 100000
namespace Op
open Sha
theorem idsClone_val (s : Ids) (ho : okIds s) (hs : s.l.length ≤ 1000000) : PureC Tryz.prog GS 52 [encIds s] (encIds s) := by
  refine pure_of Tryz.checked.mixed GS_closed ?_
  refine idsClone_ob s ho hs fun v l' h => ?_
  exact h.rd closed_eId s rfl rfl
theorem splice1 {R : List CV} {i : Nat} (v : CV) (hi : i < R.length) : splice R i [v] = R.set i v := by
  unfold splice
  rw [List.set_eq_take_append_cons_drop, if_pos hi, List.length_singleton, List.append_assoc, List.singleton_append]
theorem splice_same {R : List CV} {i : Nat} {v : CV} (h : R[i]? = some v) : splice R i [v] = R := by
  obtain ⟨hi, he⟩ := List.getElem?_eq_some_iff.1 h
  rw [splice1 v hi, ← he, List.set_getElem_self]
theorem splice_twice (R : List CV) (i : Nat) (v w : CV) (hi : i < R.length) : splice (splice R i [v]) i [w] = splice R i [w] := by
  rw [splice1 v hi, splice1 w (by rw [List.length_set]; exact hi), splice1 w hi, List.set_set]
def rowW (s : Slp) (w : CV) : List CV := .int .i64 s.tk :: (encOp s.op ++ (eId s.id ++ [w]))
theorem splice_row {s : Slp} (h : s.id.length = 32) (w : CV) : splice (encSl s) 44 [w] = rowW s w := by
  have hi := eId_len h
  unfold splice encSl rowW encOp
  simp [hi, List.take_append, List.drop_append]
theorem row_pr (s : Slp) : (encSl s)[2]? = some (encIds s.op.preds) := rfl
theorem row_ms {s : Slp} (h : s.id.length = 32) : (encSl s)[44]? = some (encIds s.miss) := by
  have hi := eId_len h
  unfold encSl encOp
  simp [hi, List.getElem?_append]
theorem twin_ob (s : Slp) (hs : OkSl s) {l : Hl} {K : CV → Hl → Prop} (hK : ∀ w l', Ob 32 eId l l' w s.miss.l s.miss.isNone → K (.ag (rowW s w)) l') :
    CallP Tryz.prog GS 35 [.ag (encSl s)] l (c := ⟨K⟩) := by
  apply call_intro c35_eq r35_eq
  unfold c35 r35
  have hR := row_of hs
  have h2 := row_pr s
  have h44 := row_ms hs.id
  have hsr := splice_row hs.id
  have hcl := idsClone_val s.op.preds hs.op.ids hs.op.len
  have hcp := closed_ids s.op.preds
  have hpc : (encIds s.op.preds).cells = some [encIds s.op.preds] := by cases s.op.preds <;> rfl
  obtain ⟨R, hRe⟩ : ∃ R, R = encSl s := ⟨_, rfl⟩
  rw [← hRe] at hR h2 h44 hsr ⊢
  have f1 := hR.len
  have hs2 := splice_same h2
  have g2 : ∀ h : 2 < R.length, R[2]'h = encIds s.op.preds := fun h => (List.getElem?_eq_some_iff.1 h2).2
  have g44 := hR.miss
  simp [f1, g2, g44, List.take_of_length_le]
  refine pure_call hcl (by simp [closedL, CV.closed, hcp]) ?_
  simp [f1, g2, g44, hpc, hs2]
  obtain ⟨L, hL⟩ : ∃ L, L = l ++ [CB.cells 45 R, CB.cells 45 zeroSl] := ⟨_, rfl⟩
  have hLl : L.length = l.length + 2 := by rw [hL]; simp
  have q0 : L[l.length]? = some (.cells 45 R) := by rw [hL]; simp
  have q1 : L[l.length + 1]? = some (.cells 45 zeroSl) := by rw [hL]; simp
  unfold zeroSl at hL q1
  rw [← hL]
  refine idsClone_ob s.miss hs.miss hs.len fun w l1 h1 => ?_
  have hle := h1.le
  have p0 : l1[l.length]? = some (.cells 45 R) := by rw [h1.same _ (by omega)]; exact q0
  have p1 : l1[l.length + 1]? = some (.cells 45 (CV.int .i64 0 :: CV.int .u32 0 :: CV.nilS :: CV.int .u64 0 :: CV.int .u8 0 :: CV.str [] :: CV.int .u8 0 :: CV.int .i64 0 :: CV.int .u64 0 :: CV.str [] :: CV.int .u32 0 :: CV.int .u32 0 :: (rep 32 (.int .u8 0) ++ [CV.nilS]))) := by rw [h1.same _ (by omega)]; exact q1
  have hwc := h1.cells
  have hW := hsr w
  have hWl : (rowW s w).length = 45 := by rw [← hW, splice1 w (by omega), List.length_set, f1]
  have hspW := spS hWl
  have s0 : ∀ c : CB, (l1.set l.length c)[l.length]? = some c := fun c => List.getElem?_set_self (by omega)
  have s1 : ∀ c : CB, (l1.set l.length c)[l.length + 1]? = l1[l.length + 1]? := fun c => List.getElem?_set_ne (by omega)
  have s2 : ∀ c d : CB, ((l1.set l.length c).set (l.length + 1) d)[l.length + 1]? = some d := fun c d => List.getElem?_set_self (by simp; omega)
  have s3 : (l1.set l.length (.cells 45 R)) = l1 := by
    obtain ⟨hh, he⟩ := List.getElem?_eq_some_iff.1 p0
    rw [← he, List.set_getElem_self]
  simp [p0, p1, f1, hpc, hwc, hs2, s0, s1, s2, s3, hW, hWl, hspW, List.take_of_length_le]
  obtain ⟨j, o1, o2, o3, o4, o5⟩ := h1
  refine hK w _ ⟨j, o1.frame2 (o4.imp id fun h => ?_), by simp; omega, fun b hb => ?_, o4.imp id (by omega), o5⟩
  · rw [List.getElem?_set_ne (by omega), List.getElem?_set_ne (by omega)]
  · rw [List.getElem?_set_ne (by omega), List.getElem?_set_ne (by omega), o3 b (by omega), hL, List.getElem?_append_left hb]
end Op
end Go.CM

/-
  Buffers of sleepers: an id comes; walked in the program's text.
-/
namespace Go.CM
open Go Go.Proofs
set_option linter.unusedVariables false
set_option linter.unusedSimpArgs false
set_option maxRecDepth 100000
namespace Op
open Sha
theorem fn_come : funOkB Tryz.prog 37 = true := by kernel_rfl
theorem come_cond (x : List B) (hx : x.length = 32) {j bi : Nat} {l : Hl} {xs : List (List B)} (hz : ∀ y ∈ xs, y.length = 32) (h1 : l[bi]? = some (.cells 32 (eId x))) (hj : bi ≠ j) :
    CondP 37 [.ptr bi 0 32] j l xs (fun y => decide (y = x)) := by
  intro y hy l1 hg K hK
  apply call_intro c37_eq r37_eq
  unfold c37 r37
  have h1' : l1[bi]? = some (.cells 32 (eId x)) := by rw [hg.same _ (get_lt h1) hj]; exact h1
  have hl1 := get_lt h1'
  have g1 : ∀ c : CB, (l1 ++ [c])[bi]? = some (.cells 32 (eId x)) := fun c => by rw [List.getElem?_append_left hl1]; exact h1'
  have hyl := eId_len (hz y hy)
  have hxl := eId_len hx
  have heq := idEql (hz y hy) hx
  obtain ⟨X, hX⟩ : ∃ X, X = eId x := ⟨_, rfl⟩
  obtain ⟨Y, hY⟩ : ∃ Y, Y = eId y := ⟨_, rfl⟩
  rw [← hX] at g1 hxl heq
  rw [← hY] at hyl heq ⊢
  simp [g1, hyl, hxl, heq, List.take_of_length_le]
  exact hK _ (by simp) fun b hb => List.getElem?_append_left hb
def notX (x y : List B) : Bool := !decide (y = x)
theorem delI_val {l0 l : Hl} {w : CV} {xs : List (List B)} {nl : Bool} (h : Ob 32 eId l0 l w xs nl) (hz : ∀ y ∈ xs, y.length = 32) (hn : xs.length ≤ 1000000) (x : List B) (hx : x.length = 32) {bi : Nat} (h1 : l0[bi]? = some (.cells 32 (eId x)))
    {K : CV → Hl → Prop} (hK : ∀ (m : Ids) l2, l.length ≤ l2.length → (∀ b, b < l0.length → l2[b]? = l0[b]?) → m.l = xs.filter (notX x) → m.isNone = nl → K (encIds m) l2) :
    CallP Tryz.prog GS 36 [w, .fn 37 [] [.ptr bi 0 32]] l (c := ⟨K⟩) := by
  refine callP_wk Tryz.checked.mixed GS_closed ?_
  obtain ⟨j, o1, o2, o3, o4, o5⟩ := h
  have hbi := get_lt h1
  have h1l : l[bi]? = some (.cells 32 (eId x)) := by rw [o3 bi hbi]; exact h1
  by_cases hw : isNilS w = true
  · have hwe := isNil_iff.1 hw
    subst hwe
    have hx0 : xs = [] := by have := o1.q.nil_of; rwa [List.map_eq_nil_iff] at this
    subst hx0
    refine deleteI_own (j := l.length + 1) (xs := []) (p := fun y => decide (y = x)) fn_come (.nil _) (by simp) (by simp) (fun y hy => by cases hy) fun r l' hr hgx hnr => ?_
    obtain rfl := isNil_iff.1 hnr
    refine ⟨.nilS, l', ⟨rfl, fun _ => .inl rfl⟩, .same _, hgx.le, hK none l' hgx.le (fun b hb => ?_) rfl (by rw [← o5]; rfl)⟩
    rw [hgx.same b (by omega) (by omega)]; exact o3 b hb
  · have hw' : isNilS w = false := Bool.eq_false_iff.2 hw
    have hj : l0.length ≤ j := o4.resolve_left fun h => hw (isNil_iff.2 h)
    refine deleteI_own (p := fun y => decide (y = x)) fn_come o1 hz hn (come_cond x hx hz h1l (by omega)) fun r l' hr hgx hnr => ?_
    have hr' : isNilS r = false := by rw [hnr]; exact hw'
    obtain ⟨k1, k2⟩ := own_wk hr hr'
    refine ⟨_, l'.set j .dead, k1, k2, by have := hgx.le; simpa using this, hK (some (xs.filter (notX x))) _ (by have := hgx.le; simpa using this) (fun b hb => ?_) rfl (by rw [← o5, hw']; rfl)⟩
    rw [List.getElem?_set_ne (by omega), hgx.same b (by omega) (by omega)]; exact o3 b hb
def strikeM (x : List B) (m : Ids) : Ids := match m with | none => none | some a => some (a.filter (notX x))
def strikeS (x : List B) (s : Slp) : Slp := { s with miss := strikeM x s.miss }
theorem strikeM_l (x : List B) (m : Ids) : (strikeM x m).l = m.l.filter (notX x) := by cases m <;> rfl
theorem strikeM_of {x : List B} {m m' : Ids} (h1 : m'.l = m.l.filter (notX x)) (h2 : m'.isNone = m.isNone) : m' = strikeM x m := by
  cases m with
  | none => cases m' with
    | none => rfl
    | some a => cases h2
  | some a => cases m' with
    | none => cases h2
    | some b => exact congrArg some h1
theorem strike_ok {x : List B} {s : Slp} (h : OkSl s) : OkSl (strikeS x s) := by
  refine ⟨h.op, h.id, fun y hy => ?_, ?_⟩
  · have : y ∈ (strikeM x s.miss).l := hy
    rw [strikeM_l] at this
    exact h.miss y (List.mem_filter.1 this).1
  · show (strikeM x s.miss).l.length ≤ _
    rw [strikeM_l]
    exact Nat.le_trans (List.length_filter_le _ _) h.len
def gone (s : Slp) : Bool := s.miss.l.isEmpty
def freedL (x : List B) (l : List Slp) : List Slp := (l.map (strikeS x)).filter gone
def nextL (x : List B) (l : List Slp) : List Slp := (l.map (strikeS x)).filter fun s => !gone s
def svS (l : List Slp) : Slps := match l with | [] => none | a :: r => some (a :: r)
theorem svS_l (l : List Slp) : (svS l).l = l := by cases l <;> rfl
theorem svS_none (l : List Slp) : (svS l).isNone = l.isEmpty := by cases l <;> rfl
theorem step_list {p : Slp → Bool} {f : Slp → Slp} {l : List Slp} {k : Nat} {y : Slp} (h : l[k]? = some y) : ((l.take (k + 1)).map f).filter p = ((l.take k).map f).filter p ++ (if p (f y) then [f y] else []) := by
  rw [List.take_add_one, h, List.map_append, List.filter_append]
  cases hp : p (f y) <;> simp [hp]
structure ComH (c : Int) (s : Slps) (x : List B) (k : Nat) (v1 : CV) (l : Hl) : Prop where
  p0 : l[0]? = some (.cells 2 (encP c s))
  p1 : l[1]? = some (.cells 32 (eId x))
  p2 : l[2]? = some (.cells 2 [.int .i64 0, .nilS])
  ex : ∃ v2 j1 j2, l[3]? = some (.cells 2 [.int .i64 c, v2]) ∧ OwnS 45 l v1 j1 ((freedL x (s.l.take k)).map encSl) ∧ OwnS 45 l v2 j2 ((nextL x (s.l.take k)).map encSl) ∧ (v1 = .nilS ∨ 4 ≤ j1) ∧ (v2 = .nilS ∨ 4 ≤ j2) ∧ (v1 = .nilS ∨ v2 = .nilS ∨ j1 ≠ j2) ∧
    isNilS v1 = (freedL x (s.l.take k)).isEmpty ∧ isNilS v2 = (nextL x (s.l.take k)).isEmpty
  len : 4 ≤ l.length
structure ComI (c : Int) (s : Slps) (x : List B) (k : Nat) (σ : Sg) (l : Hl) : Prop where
  g2 : σ 2 = .ptr 0 0 2
  g3 : σ 3 = .ptr 1 0 32
  g4 : σ 4 = .ptr 2 0 2
  g8 : σ 8 = .ptr 3 0 2
  g22 : σ 22 = encSls s
  g23 : σ 23 = .int .i64 s.l.length
  g24 : σ 24 = .int .i64 k
  h : ∃ v1, σ 9 = v1 ∧ ComH c s x k v1 l
theorem appSl {l : Hl} {v : CV} {j : Nat} {es : List Slp} {s : Slp} (h : OwnS 45 l v j (es.map encSl)) (hs : (encSl s).length = 45) (hn : es.length ≤ 1000000) :
    ∃ v' j' l', appM (l ++ [.cells 45 (encSl s)]) 45 176 v (.sl 45 l.length 0 1 1 45) = some (v', l') ∧ OwnS 45 l' v' j' ((es ++ [s]).map encSl) ∧ l.length + 1 ≤ l'.length ∧ (∀ b, b < l.length → v = .nilS ∨ b ≠ j → l'[b]? = l[b]?) ∧ (l.length ≤ j' ∨ (v ≠ .nilS ∧ j' = j)) ∧ isNilS v' = false := by
  have hr : roomMax = 140737488355328 := rfl
  obtain ⟨v', j', l', a1, b1, c1, d1, e1, f1⟩ := appS (h.more [.cells 45 (encSl s)]) (by_ := 176) (x := .sl 45 l.length 0 1 1 45) (xs := [encSl s]) (by simp [contentsL, hs, List.take_of_length_le]) (by simp [hs]) (by omega) (by omega) (by rw [hr]; simp; omega)
  have f2 : isNilS v' = false := by rw [f1]; simp
  refine ⟨v', j', l', a1, by rw [List.map_append]; exact b1, by simpa using c1, fun b hb hv => ?_, ?_, f2⟩
  · rw [d1 b (by simp; omega) hv, List.getElem?_append_left hb]
  · rcases e1 with h | h | h
    · exact .inl (by simp at h; omega)
    · exact .inr h
    · rw [h] at f2; cases f2
def comeW (c : Int) (l : List Slp) (x : List B) : CV :=
  if penErr c l = 0 then .tu [.ag (encP c (svS (nextL x l))), encSls (svS (freedL x l)), .int .i64 0] else .tu [.ag [.int .i64 0, .nilS], .nilS, .int .i64 (penErr c l)]
theorem rd_tu3 {l : Hl} {a b c a' b' c' : CV} (h1 : Rd l a a') (h2 : Rd l b b') (h3 : Rd l c c') : Rd l (.tu [a, b, c]) (.tu [a', b', c']) := by
  refine .tu _ _ rfl fun j x x' hx hx' => ?_
  rcases j with _ | _ | _ | j
  · simp at hx hx'; subst hx hx'; exact h1
  · simp at hx hx'; subst hx hx'; exact h2
  · simp at hx hx'; subst hx hx'; exact h3
  · simp at hx
theorem rd_ag2 {l : Hl} {a b a' b' : CV} (h1 : Rd l a a') (h2 : Rd l b b') : Rd l (.ag [a, b]) (.ag [a', b']) := by
  refine .ag _ _ rfl fun j x x' hx hx' => ?_
  rcases j with _ | _ | j
  · simp at hx hx'; subst hx hx'; exact h1
  · simp at hx hx'; subst hx hx'; exact h2
  · simp at hx
set_option maxHeartbeats 2000000 in
theorem wCome_ok (c : Int) (s : Slps) (hs : okSls s.l) (hl : s.l.length ≤ 1000000) (x : List B) (hx : x.length = 32) : PureC Tryz.prog GS 10 [.ag (encP c s), .ag (eId x)] (comeW c s.l x) := by
  refine pure_of Tryz.checked.mixed GS_closed ?_
  apply call_intro c10_eq r10_eq
  unfold c10 r10 comeW
  have hlen : lenM (.sl 45) (encSls s) = some (.int .i64 s.l.length) := by simp [encSls]
  have hcs := closed_Sls s
  have hxl := eId_len hx
  have hck := wPCheck_ok c s hs hl
  have hcp : closedL [CV.ag (encP c s)] = true := by simp [encP, closedL, CV.closed, hcs]
  by_cases h0 : penErr c s.l = 0
  · simp [encP, hxl]
    refine pure_call hck hcp ?_
    simp [h0, hlen]
    refine loop_up s.l.length (ComI c s x) ?_ ⟨by simp, by simp, by simp, by simp, by simp, by simp, by simp, .nilS, by simp, ⟨rfl, rfl, rfl, ⟨.nilS, 0, 0, rfl, .nil 0, .nil 0, .inl rfl, .inl rfl, .inl rfl, rfl, rfl⟩, by simp⟩⟩
    rintro k σ l hk ⟨g2, g3, g4, g8, g22, g23, g24, v1, g9, hH⟩
    obtain ⟨σ, rfl⟩ := upds8 g2 g3 g4 g8 g9 g22 g23 g24
    clear g2 g3 g4 g8 g9 g22 g23 g24
    unfold l10_0
    simp
    refine kIf_intro (fun h => ?_) (fun h => ?_)
    · simp only [decide_eq_true_eq] at h
      obtain ⟨y, hy, hym⟩ := get_of (l := s.l) (k := k) (by omega)
      have hoy := hs y hym
      have hR := row_of hoy
      have hoz := strike_ok (x := x) hoy
      have hRz := row_of hoz
      have e1 : IntKind.i64.wrap ((k : Int) + 1) = ((k + 1 : Nat) : Int) := by rw [IntKind.wrap_i64]; omega
      have hia : iaC (.sl 45) (encSls s) (.int .i64 (k : Int)) = some (.rptr (encSl y) 0) := by simp [encSls, hy]
      have hsr := splice_row hoy.id
      obtain ⟨p0, p1, p2, ⟨v2, j1, j2, p3, o1, o2, d1, d2, d3, n1, n2⟩, hll⟩ := hH
      obtain ⟨n, hn⟩ : ∃ n, n = l.length := ⟨_, rfl⟩
      have htw : ∀ K : CV → Hl → Prop, (∀ w l', Ob 32 eId (l ++ [CB.cells 45 (encSl y)]) l' w y.miss.l y.miss.isNone → K (.ag (rowW y w)) l') → CallP Tryz.prog GS 35 [.ag (encSl y)] (l ++ [CB.cells 45 (encSl y)]) (c := ⟨K⟩) := fun K hK => twin_ob y hoy hK
      obtain ⟨R, hRe⟩ : ∃ R, R = encSl y := ⟨_, rfl⟩
      rw [← hRe] at hR hia hsr htw
      have f1 := hR.len
      have hspR := spS f1
      simp [hia, f1, hspR, List.take_of_length_le, ← hn]
      refine htw _ fun w l2 h2 => ?_
      have hle2 := h2.le
      have hln : (l ++ [CB.cells 45 R]).length = n + 1 := by rw [hn]; simp
      rw [hln] at hle2
      have q0 : l2[n]? = some (.cells 45 R) := by rw [h2.same n (by omega), hn]; simp
      have hW := hsr w
      have hWl : (rowW y w).length = 45 := by rw [← hW, splice1 w (by omega), List.length_set, f1]
      have hW44 : ∀ h : 44 < (rowW y w).length, (rowW y w)[44]'h = w := fun h => by
        have : (rowW y w)[44]? = some w := by rw [← hW, splice1 w (by omega), List.getElem?_set_self (by omega)]
        exact (List.getElem?_eq_some_iff.1 this).2
      have hfin : ∀ m : Ids, m = strikeM x y.miss → splice (rowW y w) 44 [encIds m] = encSl (strikeS x y) := fun m hm => by
        rw [← hW, splice_twice R 44 _ _ (by omega), hsr (encIds m), hm]; rfl
      obtain ⟨RW, hRW⟩ : ∃ RW, RW = rowW y w := ⟨_, rfl⟩
      rw [← hRW] at hWl hW44 hfin ⊢
      have hspW : splice R 0 RW = RW := splice_full (by rw [hWl, f1])
      have s0 : ∀ c : CB, (l2.set n c)[n]? = some c := fun c => List.getElem?_set_self (by omega)
      simp [q0, f1, hWl, hspW, s0, hW44]
      -- the struck ids
      have hob3 : Ob 32 eId ((l ++ [CB.cells 45 R]).set n (.cells 45 RW)) (l2.set n (.cells 45 RW)) w y.miss.l y.miss.isNone := by
        obtain ⟨j, b1, b2, b3, b4, b5⟩ := h2
        refine ⟨j, b1.frame2 (b4.imp id fun h => by rw [List.getElem?_set_ne (by omega)]), by simp; omega, fun b hb => ?_, b4.imp id (by simp), b5⟩
        rw [List.length_set] at hb
        by_cases hbn : b = n
        · rw [hbn, List.getElem?_set_self (by omega), List.getElem?_set_self (by omega)]
        · rw [List.getElem?_set_ne (by omega), List.getElem?_set_ne (by omega)]; exact b3 b hb
      have hbase : ∀ b, b < n → ((l ++ [CB.cells 45 R]).set n (.cells 45 RW))[b]? = l[b]? := fun b hb => by rw [List.getElem?_set_ne (by omega), List.getElem?_append_left (by omega)]
      refine delI_val hob3 hoy.miss hoy.len x hx (bi := 1) (by rw [hbase 1 (by omega)]; exact p1) fun m l4 hle4 hsm4 hm1 hm2 => ?_
      have hm := strikeM_of hm1 hm2
      have hL4 : n + 1 ≤ l4.length := by simp at hle4; omega
      have hq4 : l4[n]? = some (.cells 45 RW) := by rw [hsm4 n (by simp; omega), List.getElem?_set_self (by omega)]
      have hs4 : ∀ b, b < n → l4[b]? = l[b]? := fun b hb => by rw [hsm4 b (by simp; omega)]; exact hbase b hb
      have hmc : (encIds m).cells = some [encIds m] := by cases m <;> rfl
      have hF := hfin m hm
      have s4 : ∀ c : CB, (l4.set n c)[n]? = some c := fun c => List.getElem?_set_self (by omega)
      have hzm : ∀ h : 44 < (encSl (strikeS x y)).length, (encSl (strikeS x y))[44]'h = encIds m := fun h => by rw [hRz.miss h, hm]; rfl
      have hml : lenM (.sl 32) (encIds m) = some (.int .i64 m.l.length) := by simp [encIds]
      have hzl := hRz.len
      obtain ⟨L5, hL5⟩ : ∃ L5, L5 = l4.set n (.cells 45 (encSl (strikeS x y))) := ⟨_, rfl⟩
      have t5 : n + 1 ≤ L5.length := by rw [hL5]; simpa using hL4
      have t0 : ∀ b, b < n → L5[b]? = l[b]? := fun b hb => by rw [hL5, List.getElem?_set_ne (by omega)]; exact hs4 b hb
      have t1 : L5[n]? = some (.cells 45 (encSl (strikeS x y))) := by rw [hL5]; exact s4 _
      have u1 : OwnS 45 L5 v1 j1 ((freedL x (s.l.take k)).map encSl) := o1.frame2 (by
        rcases o1.lt with h | h
        · exact .inl h
        · exact .inr (t0 j1 (by omega)))
      have u2 : OwnS 45 L5 v2 j2 ((nextL x (s.l.take k)).map encSl) := o2.frame2 (by
        rcases o2.lt with h | h
        · exact .inl h
        · exact .inr (t0 j2 (by omega)))
      have hfk : (freedL x (s.l.take k)).length ≤ 1000000 := by
        unfold freedL
        refine Nat.le_trans (List.length_filter_le _ _) ?_
        rw [List.length_map, List.length_take]; omega
      have hnk : (nextL x (s.l.take k)).length ≤ 1000000 := by
        unfold nextL
        refine Nat.le_trans (List.length_filter_le _ _) ?_
        rw [List.length_map, List.length_take]; omega
      have hst1 := step_list (p := gone) (f := strikeS x) hy
      have hst2 := step_list (p := fun s => !gone s) (f := strikeS x) hy
      have hgo : gone (strikeS x y) = decide (m.l.length = 0) := by
        have e : (strikeS x y).miss = m := hm.symm
        unfold gone
        rw [e]
        cases m.l <;> simp
      obtain ⟨Z, hZ⟩ : ∃ Z, Z = encSl (strikeS x y) := ⟨_, rfl⟩
      simp only [← hZ] at hF hzm hzl t1 hL5
      simp [hq4, hWl, hmc, hF]
      rw [← hL5]
      by_cases hm0 : m.l.length = 0
      · rw [hm0, decide_eq_true rfl] at hgo
        rw [hgo, if_pos rfl] at hst1
        rw [hgo] at hst2
        simp only [Bool.not_true, Bool.false_eq_true, if_false, List.append_nil] at hst2
        obtain ⟨v', j', l6, a1, b1, c1', dd, ee, ff⟩ := appSl u1 hRz.len hfk
        rw [← hZ] at a1
        have hspZ := spS hzl
        simp [t1, hzl, hzm, hml, hm0, hspZ, List.take_of_length_le, a1]
        refine AppK.keep ?_
        have v6 : ∀ b, b < 4 → l6[b]? = l[b]? := fun b hb => by rw [dd b (by omega) (d1.imp id fun h => by omega)]; exact t0 b (by omega)
        have hj2 := u2.lt
        have w2 : OwnS 45 l6 v2 j2 ((nextL x (s.l.take k)).map encSl) := u2.frame2 (by
          rcases hj2 with h | h
          · exact .inl h
          · rcases d3 with h3 | h3 | h3
            · exact .inr (dd j2 h (.inl h3))
            · exact .inl h3
            · exact .inr (dd j2 h (.inr fun e => h3 e.symm)))
        simp [e1]
        refine ⟨by omega, by simp, by simp, by simp, by simp, by simp, by simp, by simp, v', by simp, ⟨by rw [v6 0 (by omega)]; exact p0, by rw [v6 1 (by omega)]; exact p1, by rw [v6 2 (by omega)]; exact p2, ⟨v2, j', j2, by rw [v6 3 (by omega)]; exact p3, ?_, ?_, .inr ?_, d2, ?_, ?_, ?_⟩, by omega⟩⟩
        · show OwnS 45 l6 v' j' ((freedL x (s.l.take (k + 1))).map encSl)
          unfold freedL at b1 ⊢
          rw [hst1]; exact b1
        · show OwnS 45 l6 v2 j2 ((nextL x (s.l.take (k + 1))).map encSl)
          unfold nextL at w2 ⊢
          rw [hst2]; exact w2
        · rcases ee with h | ⟨h, h'⟩
          · omega
          · rw [h']; exact d1.resolve_left h
        · right
          rcases d3 with h3 | h3 | h3
          · rcases hj2 with h2 | h2
            · exact .inl h2
            · rcases ee with h | ⟨h, _⟩
              · exact .inr (by omega)
              · exact absurd h3 h
          · exact .inl h3
          · rcases hj2 with h2 | h2
            · exact .inl h2
            · rcases ee with h | ⟨_, h'⟩
              · exact .inr (by omega)
              · exact .inr (by rw [h']; exact h3)
        · rw [ff]; unfold freedL; rw [hst1]; simp
        · rw [n2]; unfold nextL; rw [hst2]
      · rw [decide_eq_false hm0] at hgo
        rw [hgo, if_neg (by simp), List.append_nil] at hst1
        rw [hgo] at hst2
        simp only [Bool.not_false, if_true] at hst2
        obtain ⟨v', j', l6, a1, b1, c1', dd, ee, ff⟩ := appSl u2 hRz.len hnk
        rw [← hZ] at a1
        have hspZ := spS hzl
        have t3 : L5[3]? = some (.cells 2 [.int .i64 c, v2]) := by rw [t0 3 (by omega)]; exact p3
        have hv2c := o2.cells
        have hv'c := b1.cells
        have hm0' : ¬ m.l = [] := fun h => hm0 (by rw [h]; rfl)
        simp [t1, t3, hzl, hzm, hml, hm0, hm0', hspZ, List.take_of_length_le, hv2c, a1]
        refine AppK.keep ?_
        have v6 : ∀ b, b < 4 → l6[b]? = l[b]? := fun b hb => by rw [dd b (by omega) (d2.imp id fun h => by omega)]; exact t0 b (by omega)
        have r3 : l6[3]? = some (.cells 2 [.int .i64 c, v2]) := by rw [v6 3 (by omega)]; exact p3
        have hj1 := u1.lt
        have hj' : 4 ≤ j' := by
          rcases ee with h | ⟨h, h'⟩
          · omega
          · rw [h']; exact d2.resolve_left h
        have w1 : OwnS 45 l6 v1 j1 ((freedL x (s.l.take k)).map encSl) := u1.frame2 (by
          rcases hj1 with h | h
          · exact .inl h
          · rcases d3 with h3 | h3 | h3
            · exact .inl h3
            · exact .inr (dd j1 h (.inl h3))
            · exact .inr (dd j1 h (.inr h3)))
        simp [r3, hv'c, splice, e1]
        refine ⟨by omega, by simp, by simp, by simp, by simp, by simp, by simp, by simp, v1, by simp, ⟨by rw [List.getElem?_set_ne (by omega), v6 0 (by omega)]; exact p0, by rw [List.getElem?_set_ne (by omega), v6 1 (by omega)]; exact p1, by rw [List.getElem?_set_ne (by omega), v6 2 (by omega)]; exact p2, ⟨v', j1, j', List.getElem?_set_self (by omega), ?_, ?_, d1, .inr hj', ?_, ?_, ?_⟩, by simp; omega⟩⟩
        · show OwnS 45 _ v1 j1 ((freedL x (s.l.take (k + 1))).map encSl)
          refine (show OwnS 45 l6 v1 j1 ((freedL x (s.l.take (k + 1))).map encSl) from ?_).frame2 (d1.imp id fun h => by rw [List.getElem?_set_ne (by omega)])
          unfold freedL at w1 ⊢
          rw [hst1]; exact w1
        · show OwnS 45 _ v' j' ((nextL x (s.l.take (k + 1))).map encSl)
          refine (show OwnS 45 l6 v' j' ((nextL x (s.l.take (k + 1))).map encSl) from ?_).frame2 (.inr (by rw [List.getElem?_set_ne (by omega)]))
          unfold nextL at b1 ⊢
          rw [hst2]; exact b1
        · rcases hj1 with h2 | h2
          · exact .inl h2
          · rcases ee with h | ⟨h, h'⟩
            · exact .inr (.inr (by omega))
            · rcases d3 with h3 | h3 | h3
              · exact .inl h3
              · exact absurd h3 h
              · exact .inr (.inr (by rw [h']; exact h3))
        · rw [n1]; unfold freedL; rw [hst1]
        · rw [ff]; unfold nextL; rw [hst2]; simp
    · simp [h]
      have hk2 : k = s.l.length := by simp at h; omega
      obtain ⟨p0, p1, p2, ⟨v2, j1, j2, p3, o1, o2, d1, d2, d3, n1, n2⟩, hll⟩ := hH
      rw [hk2, List.take_length] at o1 o2 n1 n2
      have s2 : ∀ c : CB, (l.set 2 c)[2]? = some c := fun c => List.getElem?_set_self (by omega)
      have w1 : ∀ c : CB, OwnS 45 (l.set 2 c) v1 j1 ((freedL x s.l).map encSl) := fun c => o1.frame2 (d1.imp id fun h => by rw [List.getElem?_set_ne (by omega)])
      have w2 : ∀ c : CB, OwnS 45 (l.set 2 c) v2 j2 ((nextL x s.l).map encSl) := fun c => o2.frame2 (d2.imp id fun h => by rw [List.getElem?_set_ne (by omega)])
      simp [p3, p2, s2]
      rw [if_pos h0]
      exact rd_tu3 (rd_ag2 (.same _ rfl) ((w2 _).q.rd_enc closed_encSl (svS _) (by rw [n2, svS_none]) (svS_l _))) ((w1 _).q.rd_enc closed_encSl (svS _) (by rw [n1, svS_none]) (svS_l _)) (.same _ rfl)
  · rw [if_neg h0]
    simp [encP, hxl]
    refine pure_call hck hcp ?_
    simp [h0]
    exact rd_eq rfl rfl
end Op
end Go.CM

/-
  Buffers of sleepers: what comes, comes; in plain words.
-/
namespace Go.CM
open Go Go.Proofs
set_option linter.unusedVariables false
set_option linter.unusedSimpArgs false
set_option maxRecDepth 100000
namespace Op
open Sha
def nX (came : List (List B)) (y : List B) : Bool := !decide (y ∈ came)
def strikeML (came : List (List B)) (m : Ids) : Ids := match m with | none => none | some a => some (a.filter (nX came))
def strikeL (came : List (List B)) (s : Slp) : Slp := { s with miss := strikeML came s.miss }
def nowL (came : List (List B)) (l : List Slp) : List Slp := (l.map (strikeL came)).filter fun s => !gone s
theorem strikeML_l (came : List (List B)) (m : Ids) : (strikeML came m).l = m.l.filter (nX came) := by cases m <;> rfl
theorem strike_more (came : List (List B)) (x : List B) (s : Slp) : strikeS x (strikeL came s) = strikeL (came ++ [x]) s := by
  unfold strikeS strikeL
  congr 1
  cases hm : s.miss with
  | none => rfl
  | some a =>
    show some ((a.filter (nX came)).filter (notX x)) = some (a.filter (nX (came ++ [x])))
    rw [List.filter_filter]
    congr 2
    funext y
    unfold nX notX
    by_cases h1 : y = x <;> by_cases h2 : y ∈ came <;> simp [h1, h2]
theorem gone_more {came : List (List B)} {x : List B} {s : Slp} (h : gone (strikeL came s) = true) : gone (strikeS x (strikeL came s)) = true := by
  unfold gone at h ⊢
  have h1 : (strikeL came s).miss.l = [] := List.isEmpty_iff.1 h
  show (strikeM x (strikeL came s).miss).l.isEmpty = true
  rw [strikeM_l, h1]; rfl
theorem next_now (x : List B) (came : List (List B)) : ∀ l : List Slp, nextL x (nowL came l) = nowL (came ++ [x]) l
  | [] => rfl
  | s :: l => by
    have ih := next_now x came l
    unfold nextL nowL at ih ⊢
    rw [List.map_cons, List.map_cons, List.filter_cons]
    cases hg : gone (strikeL came s) with
    | true =>
      have := gone_more (x := x) hg
      rw [strike_more] at this
      simp only [Bool.not_true, Bool.false_eq_true, if_false]
      rw [ih, List.filter_cons, this]; simp
    | false =>
      simp only [Bool.not_false, if_true]
      rw [List.map_cons, List.filter_cons, strike_more, List.filter_cons, ih]
theorem part_len (x : List B) : ∀ l : List Slp, (nextL x l).length + (freedL x l).length = l.length
  | [] => rfl
  | s :: l => by
    have ih := part_len x l
    unfold nextL freedL at ih ⊢
    rw [List.map_cons, List.filter_cons, List.filter_cons]
    cases gone (strikeS x s) <;> simp <;> omega
def okS (s : Slp) : Prop := opErr s.op = 0 ∧ idOf s.op = s.id ∧ 0 ≤ s.tk ∧ s.tk ≤ 1000000000 ∧ missB s.op s.miss.l = true
theorem good_split (l : List Slp) : goodSls l = true ↔ (∀ s ∈ l, okS s) ∧ l.Pairwise (fun a b => a.tk < b.tk) ∧ l.Pairwise fun a b => a.id ≠ b.id := by
  constructor
  · intro h
    have hk : ∀ k, k < l.length → goodSl l k = true := of_decide_eq_true h
    have hone : ∀ (k : Nat) (s : Slp), l[k]? = some s → opErr s.op = 0 ∧ idOf s.op = s.id ∧ tkPrev l k < s.tk ∧ s.tk ≤ 1000000000 ∧ missB s.op s.miss.l = true ∧ s.id ∉ (l.take k).map Slp.id := fun k s hs => by
      have := hk k (List.getElem?_eq_some_iff.1 hs).1
      unfold goodSl at this
      rw [slAt_get hs] at this
      simp only [Bool.and_eq_true, decide_eq_true_eq] at this
      exact this
    have hlt : ∀ (d i : Nat) (a b : Slp), l[i]? = some a → l[i + d + 1]? = some b → a.tk < b.tk := by
      intro d
      induction d with
      | zero =>
        intro i a b ha hb
        have := (hone (i + 1) b hb).2.2.1
        unfold tkPrev at this
        rw [if_neg (by omega), Nat.add_sub_cancel, slAt_get ha] at this
        exact this
      | succ d ih =>
        intro i a b ha hb
        obtain ⟨z, hz, _⟩ := get_of (l := l) (k := i + d + 1) (by have := (List.getElem?_eq_some_iff.1 hb).1; omega)
        have h1 := ih i a z ha hz
        have h2 := (hone (i + d + 1 + 1) b hb).2.2.1
        unfold tkPrev at h2
        rw [if_neg (by omega), Nat.add_sub_cancel, slAt_get hz] at h2
        omega
    refine ⟨fun s hs => ?_, List.pairwise_iff_getElem.2 fun i j hi hj hij => ?_, List.pairwise_iff_getElem.2 fun i j hi hj hij he => ?_⟩
    · obtain ⟨k, hks⟩ := List.mem_iff_getElem?.1 hs
      obtain ⟨h1, h2, h3, h4, h5, _⟩ := hone k s hks
      have hge := tkPrev_ge (l := l) (k := k) (by have := (List.getElem?_eq_some_iff.1 hks).1; omega) fun j hj => hk j (by have := (List.getElem?_eq_some_iff.1 hks).1; omega)
      exact ⟨h1, h2, by omega, h4, h5⟩
    · exact hlt (j - i - 1) i _ _ (List.getElem?_eq_getElem hi) (by rw [show i + (j - i - 1) + 1 = j by omega]; exact List.getElem?_eq_getElem hj)
    · have := (hone j _ (List.getElem?_eq_getElem hj)).2.2.2.2.2
      refine this ?_
      rw [← he]
      exact List.mem_map_of_mem (List.mem_iff_getElem?.2 ⟨i, by rw [List.getElem?_take_of_lt hij]; exact List.getElem?_eq_getElem hi⟩)
  · rintro ⟨h1, h2, h3⟩
    refine decide_eq_true fun k hk => ?_
    have hs := List.getElem?_eq_getElem hk
    obtain ⟨g1, g2, g3, g4, g5⟩ := h1 _ (List.getElem_mem hk)
    unfold goodSl
    rw [slAt_get hs]
    have c3 : tkPrev l k < l[k].tk := by
      unfold tkPrev
      by_cases h0 : k = 0
      · rw [if_pos h0]; omega
      · rw [if_neg h0, slAt_get (List.getElem?_eq_getElem (l := l) (i := k - 1) (by omega))]
        exact (List.pairwise_iff_getElem.1 h2) (k - 1) k (by omega) hk (by omega)
    have c6 : l[k].id ∉ (l.take k).map Slp.id := fun hm => by
      obtain ⟨z, hz, hzk⟩ := List.mem_map.1 hm
      obtain ⟨j, hj⟩ := List.mem_iff_getElem?.1 hz
      have hjl := (List.getElem?_eq_some_iff.1 hj).1
      rw [List.length_take] at hjl
      rw [List.getElem?_take_of_lt (by omega)] at hj
      have := (List.pairwise_iff_getElem.1 h3) j k (by omega) hk (by omega)
      rw [(List.getElem?_eq_some_iff.1 hj).2] at this
      exact this hzk
    simp only [g1, g2, c3, g4, g5, c6, decide_true, not_false_eq_true, Bool.and_self]
theorem ris_pair (l : List (List B)) : ris l = true ↔ l.Pairwise fun a b => cmpB a b < 0 := by
  constructor
  · intro h
    refine List.pairwise_iff_getElem.2 fun i j hi hj hij => ?_
    have := ris_lt h (d := j - i - 1) (i := i) (by omega)
    rw [show i + (j - i - 1) + 1 = j by omega] at this
    rwa [idAt_get (List.getElem?_eq_getElem hi), idAt_get (List.getElem?_eq_getElem hj)] at this
  · intro h
    refine ris_true fun k hk h1 => ?_
    have := (List.pairwise_iff_getElem.1 h) (k - 1) k (by omega) hk (by omega)
    rwa [idAt_get (List.getElem?_eq_getElem (l := l) (i := k - 1) (by omega)), idAt_get (List.getElem?_eq_getElem hk)]
theorem okS_strike {came : List (List B)} {s : Slp} (h : okS s) (hg : gone (strikeL came s) = false) : okS (strikeL came s) := by
  obtain ⟨h1, h2, h3, h4, h5⟩ := h
  refine ⟨h1, h2, h3, h4, ?_⟩
  unfold missB at h5 ⊢
  rw [Bool.and_eq_true, Bool.and_eq_true, decide_eq_true_eq] at h5
  have hm : (strikeL came s).miss.l = s.miss.l.filter (nX came) := strikeML_l came s.miss
  unfold gone at hg
  rw [hm] at hg ⊢
  have hpos : 0 < (s.miss.l.filter (nX came)).length := by
    cases hf : s.miss.l.filter (nX came) with
    | nil => rw [hf] at hg; cases hg
    | cons a r => simp
  rw [decide_eq_true hpos, (ris_pair _).2 (((ris_pair _).1 h5.2.1).sublist List.filter_sublist)]
  simp only [Bool.true_and]
  exact List.all_eq_true.2 fun y hy => List.all_eq_true.1 h5.2.2 y (List.mem_filter.1 hy).1
theorem pen_good {c : Int} {l : List Slp} (h : penErr c l = 0) : ¬ (c < 1 ∨ 8 < c ∨ c < l.length) ∧ goodSls l = true := by
  unfold penErr at h
  split at h
  · cases h
  · rename_i h1
    split at h
    · rename_i h2; exact ⟨h1, h2⟩
    · cases h
theorem now_ok {c : Int} {l : List Slp} (h : penErr c l = 0) (came : List (List B)) : penErr c (nowL came l) = 0 := by
  obtain ⟨h1, h2⟩ := pen_good h
  obtain ⟨g1, g2, g3⟩ := (good_split l).1 h2
  have hlen : (nowL came l).length ≤ l.length := by
    unfold nowL
    refine Nat.le_trans (List.length_filter_le _ _) ?_
    simp
  have hg : goodSls (nowL came l) = true := (good_split _).2 ⟨fun s hs => by
    unfold nowL at hs
    obtain ⟨hm, hgo⟩ := List.mem_filter.1 hs
    obtain ⟨t, ht, rfl⟩ := List.mem_map.1 hm
    exact okS_strike (g1 t ht) (by simpa using hgo), ((List.pairwise_map (f := strikeL came) (R := fun a b => a.tk < b.tk)).2 g2).sublist List.filter_sublist, ((List.pairwise_map (f := strikeL came) (R := fun a b => a.id ≠ b.id)).2 g3).sublist List.filter_sublist⟩
  unfold penErr
  rw [if_neg (by omega), hg]; rfl
theorem now_nil {l : List Slp} (h : ∀ s ∈ l, okS s) : nowL [] l = l := by
  have h1 : ∀ s : Slp, strikeL [] s = s := fun s => by
    unfold strikeL
    have : strikeML [] s.miss = s.miss := by
      cases hm : s.miss with
      | none => rfl
      | some a => exact congrArg some (List.filter_eq_self.2 fun y _ => by unfold nX; simp)
    rw [this]
  unfold nowL
  rw [List.map_congr_left (g := id) (fun s _ => h1 s), List.map_id, List.filter_eq_self.2]
  intro s hs
  have := (h s hs).2.2.2.2
  unfold missB at this
  rw [Bool.and_eq_true, decide_eq_true_eq] at this
  unfold gone
  cases hm : s.miss.l with
  | nil => rw [hm] at this; simp at this
  | cons a r => rfl
end Op
end Go.CM

/-
  Buffers of sleepers: what comes in; greatness, fit, all; walked.
-/
namespace Go.CM
open Go Go.Proofs Go.RowKit
set_option linter.unusedVariables false
set_option linter.unusedSimpArgs false
set_option maxRecDepth 100000
namespace Op
open Sha
structure TySl (s : Slp) : Prop where
  op : TyOp s.op
  id : s.id.length = 32
  miss : okIds s.miss
theorem ty_sl1 {ts : List TypeId} {cs : List CV} (h : Ty Tryz.prog (46 :: ts) cs) : ∃ (s : Slp) (cs' : List CV), cs = encSl s ++ cs' ∧ TySl s ∧ Ty Tryz.prog ts cs' := by
  have h1 := ty_struct (fs := [3, 44, 32, 25]) (by kernel_rfl) h
  obtain ⟨n, _, rfl, _, _, h2⟩ := ty_int (k := .i64) (by kernel_rfl) h1
  obtain ⟨o, _, rfl, ho, h3⟩ := ty_op h2
  obtain ⟨x, _, rfl, hx, h4⟩ := ty_idm h3
  obtain ⟨m, cs', rfl, hm, h5⟩ := ty_ids h4
  exact ⟨⟨n, o, x, m⟩, cs', by simp [encSl, eId], ⟨ho, hx, hm⟩, h5⟩
theorem tyA_pend {ts : List TypeId} {cs : List CV} (h : TyA Tryz.prog (24 :: ts) cs) : ∃ (c : Int) (s : Slps) (cs' : List CV), cs = .ag (encP c s) :: cs' ∧ (∀ t ∈ s.l, TySl t) ∧ TyA Tryz.prog ts cs' := by
  obtain ⟨c, cs', rfl, h1, h2⟩ := tyA_cons h
  obtain ⟨cs, rfl, h3⟩ := tyV_agg (by kernel_rfl) h1
  have h4 := ty_struct (fs := [3, 22]) (by kernel_rfl) h3
  obtain ⟨n, _, rfl, _, _, h5⟩ := ty_int (k := .i64) (by kernel_rfl) h4
  obtain ⟨s, _, rfl, _, ho, h6⟩ := ty_sl (e := 46) (z := 45) (enc := encSl) (Q := TySl) (by kernel_rfl) (by kernel_rfl) (fun r hr => by
    obtain ⟨x, _, rfl, hx, h3⟩ := ty_sl1 hr
    rw [ty_nil h3, List.append_nil]
    exact ⟨x, rfl, hx⟩) h5
  rw [ty_nil h6]
  exact ⟨n, s, cs', rfl, ho, h2⟩
theorem row_id {s : Slp} (h : s.id.length = 32) : Row s (encSl s) := by
  have hi := eId_len h
  have hl : (encSl s).length = 45 := by unfold encSl encOp; simp [hi]
  refine ⟨hl, fun _ => rfl, ?_, ?_, fun h2 => ?_, closed_encSl s⟩
  · unfold encSl encOp; simp
  · unfold encSl encOp
    simp [hi]
  · exact (List.getElem?_eq_some_iff.1 (row_ms h)).2
def bigS (s : Slp) : Bool := longO s.op || decide (40 < s.miss.l.length)
def greatP (l : List Slp) : Bool := decide (∃ t ∈ l.take 21, bigS t = true) || decide (20 < l.length)
theorem pGreat_le {l : List Slp} (h : greatP l = false) : l.length ≤ 20 ∧ ∀ t ∈ l, bigS t = false := by
  unfold greatP at h
  rw [Bool.or_eq_false_iff, decide_eq_false_iff_not, decide_eq_false_iff_not] at h
  refine ⟨by omega, fun t ht => ?_⟩
  rw [List.take_of_length_le (by omega)] at h
  exact Bool.eq_false_iff.2 fun h2 => h.1 ⟨t, ht, h2⟩
theorem okSl_of {s : Slp} (h : TySl s) (hb : bigS s = false) : OkSl s := by
  unfold bigS at hb
  rw [Bool.or_eq_false_iff, decide_eq_false_iff_not] at hb
  have hl := hb.1
  unfold longO at hl
  simp only [Bool.or_eq_false_iff, decide_eq_false_iff_not] at hl
  exact ⟨⟨h.op.ids, by omega, ⟨h.op.n1, h.op.n2, by omega⟩, by omega⟩, h.id, h.miss, by omega⟩
structure GrpI (c : Int) (s : Slps) (k : Nat) (σ : Sg) (l : Hl) : Prop where
  hl : l = [.cells 2 (encP c s)]
  g1 : σ 1 = .ptr 0 0 2
  g3 : σ 3 = .int .i64 k
  hs : ∀ (j : Nat) (t : Slp), j < k → s.l[j]? = some t → bigS t = false
theorem rPGreat_ok (c : Int) (s : Slps) (hs : ∀ t ∈ s.l, TySl t) : PureC Tryz.prog GS 17 [.ag (encP c s)] (.bool (greatP s.l)) := by
  refine pure_of Tryz.checked.mixed GS_closed ?_
  apply call_intro c17_eq r17_eq
  unfold c17 r17
  have hlen : lenM (.sl 45) (encSls s) = some (.int .i64 s.l.length) := by simp [encSls]
  simp [encP]
  refine loop_up (min s.l.length 21) (GrpI c s) ?_ ⟨rfl, by simp, by simp, fun j t h => by omega⟩
  rintro k σ l hk ⟨rfl, g1, g3, hss⟩
  obtain ⟨σ, rfl⟩ := upds2 g1 g3
  clear g1 g3
  unfold l17_0
  by_cases h : k < s.l.length
  · have h' : (k : Int) < (s.l.length : Int) := by omega
    by_cases h2 : k ≤ 20
    · have h2' : (k : Int) ≤ 20 := by omega
      obtain ⟨y, hy, hym⟩ := get_of (l := s.l) (k := k) h
      have hR := row_id (hs y hym).id
      have hia : iaC (.sl 45) (encSls s) (.int .i64 (k : Int)) = some (.rptr (encSl y) 0) := by simp [encSls, hy]
      have e1 : IntKind.i64.wrap ((k : Int) + 1) = ((k + 1 : Nat) : Int) := by rw [IntKind.wrap_i64]; omega
      have hlo := rLong_ok y.op
      have hco := closed_op y.op
      have hml : lenM (.sl 32) (encIds y.miss) = some (.int .i64 y.miss.l.length) := by simp [encIds]
      have hbig : bigS y = true → greatP s.l = true := fun hb => by
        unfold greatP
        rw [decide_eq_true (⟨y, List.mem_iff_getElem?.2 ⟨k, by rw [List.getElem?_take_of_lt (by omega)]; exact hy⟩, hb⟩ : ∃ t ∈ s.l.take 21, bigS t = true)]; rfl
      obtain ⟨R, hRe⟩ : ∃ R, R = encSl y := ⟨_, rfl⟩
      rw [← hRe] at hR hia
      obtain ⟨O, hO⟩ : ∃ O, O = encOp y.op := ⟨_, rfl⟩
      have f1 := hR.len
      have f3 := hR.op
      have f5 := hR.miss
      rw [← hO] at f3 hlo hco
      have hOl : O.length = 11 := by rw [hO]; rfl
      simp [encP, hlen, h, h', h2, h2', hia, f1, f3, hOl, List.take_of_length_le]
      refine pure_call hlo (by simp [closedL, CV.closed, hco]) ?_
      cases hlg : longO y.op with
      | true =>
        have hb := hbig (by unfold bigS; rw [hlg]; rfl)
        rw [hb]
        simp
        exact rd_eq rfl rfl
      | false =>
        by_cases h40 : 40 < y.miss.l.length
        · have hb := hbig (by unfold bigS; rw [decide_eq_true h40]; simp)
          have h40' : (40 : Int) < (y.miss.l.length : Int) := by omega
          rw [hb]
          simp [encP, hia, f1, f5, hml, h40, h40']
          exact rd_eq rfl rfl
        · have h40' : ¬ (40 : Int) < (y.miss.l.length : Int) := by omega
          simp [encP, hia, f1, f5, hml, h40, h40', e1]
          refine ⟨by omega, rfl, by simp, by simp, fun j t hj ht => ?_⟩
          by_cases hjk : j = k
          · rw [hjk, hy] at ht; obtain rfl := Option.some.inj ht
            unfold bigS; rw [hlg, decide_eq_false h40]; rfl
          · exact hss j t (by omega) ht
    · have h2' : ¬ (k : Int) ≤ 20 := by omega
      have h4 : 20 < s.l.length := by omega
      have h4' : (20 : Int) < (s.l.length : Int) := by omega
      have hb : greatP s.l = true := by unfold greatP; simp [h4]
      rw [hb]
      simp [encP, hlen, h, h2, h', h2', h4, h4']
      exact rd_eq rfl rfl
  · have h' : ¬ (k : Int) < (s.l.length : Int) := by omega
    have h4 : ((20 : Int) < (s.l.length : Int)) ↔ 20 < s.l.length := by omega
    have hb : greatP s.l = decide (20 < s.l.length) := by
      unfold greatP
      rw [decide_eq_false (p := ∃ t ∈ s.l.take 21, bigS t = true), Bool.false_or]
      rintro ⟨t, ht, ht2⟩
      obtain ⟨j, hj⟩ := List.mem_iff_getElem?.1 ht
      have hjl := (List.getElem?_eq_some_iff.1 hj).1
      rw [List.length_take] at hjl
      rw [List.getElem?_take_of_lt (by omega)] at hj
      rw [hss j t (by omega) hj] at ht2; cases ht2
    rw [hb]
    simp [encP, hlen, h, h', h4]
    exact rd_eq rfl rfl
theorem fit_ok (c : Int) (s : Slps) (hs : ∀ t ∈ s.l, TySl t) : PureC Tryz.prog GS 9 [.ag (encP c s)] (.bool (!greatP s.l && decide (penErr c s.l = 0))) := by
  refine pure_of Tryz.checked.mixed GS_closed ?_
  apply call_intro c9_eq r9_eq
  unfold c9 r9
  have hcs := closed_Sls s
  have hcp : closedL [CV.ag (encP c s)] = true := by simp [encP, closedL, CV.closed, hcs]
  simp [encP]
  refine pure_call (rPGreat_ok c s hs) hcp ?_
  cases hg : greatP s.l with
  | true =>
    simp
    exact rd_eq rfl rfl
  | false =>
    obtain ⟨h20, hb⟩ := pGreat_le hg
    simp
    refine pure_call (rPCheck_ok c s (fun t ht => okSl_of (hs t ht) (hb t ht)) (by omega)) hcp ?_
    simp
    exact rd_eq rfl rfl
structure AllI (a b : Ids) (k : Nat) (σ : Sg) (l : Hl) : Prop where
  g0 : σ 0 = encIds a
  g1 : σ 1 = encIds b
  g5 : σ 5 = .int .i64 k
  hs : ∀ (j : Nat) (y : List B), j < k → a.l[j]? = some y → y ∈ b.l
end Op
end Go.CM

/-
  Buffers of sleepers: what comes frees; the law walked in the program's text.
-/
namespace Go.CM
open Go Go.Proofs
set_option linter.unusedVariables false
set_option linter.unusedSimpArgs false
set_option maxRecDepth 100000
namespace Op
open Sha
theorem ok_strikeL {came : List (List B)} {s : Slp} (h : OkSl s) : OkSl (strikeL came s) := by
  refine ⟨h.op, h.id, fun y hy => ?_, ?_⟩
  · have : y ∈ (strikeML came s.miss).l := hy
    rw [strikeML_l] at this
    exact h.miss y (List.mem_filter.1 this).1
  · show (strikeML came s.miss).l.length ≤ _
    rw [strikeML_l]
    exact Nat.le_trans (List.length_filter_le _ _) h.len
theorem ok_nowL {came : List (List B)} {l : List Slp} (h : okSls l) : okSls (nowL came l) := fun s hs => by
  unfold nowL at hs
  obtain ⟨hm, _⟩ := List.mem_filter.1 hs
  obtain ⟨t, ht, rfl⟩ := List.mem_map.1 hm
  exact ok_strikeL (h t ht)
theorem len_nowL (came : List (List B)) (l : List Slp) : (nowL came l).length ≤ l.length := by
  unfold nowL
  exact Nat.le_trans (List.length_filter_le _ _) (by simp)
structure FrsH (c : Int) (s : Slps) (ids : Ids) (k : Nat) (v : CV) (l : Hl) : Prop where
  p0 : l[0]? = some (.cells 2 (encP c s))
  ex : ∃ (w : Slps) (j : Nat), l[1]? = some (.cells 2 (encP c w)) ∧ w.l = nowL (ids.l.take k) s.l ∧ OwnS 32 l v j ((ids.l.take k).map eId) ∧ (v = .nilS ∨ 2 ≤ j) ∧ isNilS v = (ids.l.take k).isEmpty
  len : 2 ≤ l.length
structure FrsI (c : Int) (s : Slps) (ids : Ids) (k : Nat) (σ : Sg) (l : Hl) : Prop where
  g1 : σ 1 = encIds ids
  g2 : σ 2 = .ptr 0 0 2
  g5 : σ 5 = .bool true
  g6 : σ 6 = .ptr 1 0 2
  g8 : σ 8 = .int .i64 k
  h : ∃ v, σ 7 = v ∧ FrsH c s ids k v l
def aft (F : List Slp) (j : Nat) : Int := if j = 0 then -1 else (slAt F (j - 1)).tk
structure FreI (ids : Ids) (v : CV) (i n : Nat) (F : Slps) (H : Hl) (k : Nat) (σ : Sg) (l : Hl) : Prop where
  hl : l = H
  g1 : σ 1 = encIds ids
  g2 : σ 2 = .ptr 0 0 2
  g5 : σ 5 = .bool true
  g6 : σ 6 = .ptr 1 0 2
  g7 : σ 7 = v
  g8 : σ 8 = .int .i64 i
  g9 : σ 9 = .ptr n 0 2
  g10 : σ 10 = encSls F
  g12 : σ 12 = .int .i64 (aft F.l k)
  g13 : σ 13 = .int .i64 k
structure NxtI (ids : Ids) (v : CV) (i n : Nat) (H : Hl) (k : Nat) (σ : Sg) (l : Hl) : Prop where
  hl : l = H
  g1 : σ 1 = encIds ids
  g2 : σ 2 = .ptr 0 0 2
  g5 : σ 5 = .bool true
  g6 : σ 6 = .ptr 1 0 2
  g7 : σ 7 = v
  g8 : σ 8 = .int .i64 i
  g9 : σ 9 = .ptr n 0 2
  g15 : σ 15 = .int .i64 k
end Op
end Go.CM

/-
  Buffers of sleepers: what they miss; walked in the program's text.
-/
namespace Go.CM
open Go Go.Proofs Go.Sort Go.Shelf
set_option linter.unusedVariables false
set_option linter.unusedSimpArgs false
set_option maxRecDepth 100000
namespace Op
open Sha
def sortB (l : List (List B)) : List (List B) := l.mergeSort fun x y => !ltB y x
theorem idx_of : ∀ {xs : List (List B)}, (∀ i ∈ xs, i.length = 32) → ∃ ys : List Idx, ys.map (·.1) = xs
  | [], _ => ⟨[], rfl⟩
  | x :: xs, h => by
    obtain ⟨ys, hy⟩ := idx_of (xs := xs) fun i hi => h i (by simp [hi])
    exact ⟨⟨x, h x (by simp)⟩ :: ys, by simp [hy]⟩
theorem sorted_map (ys : List Idx) : (sorted cmpX ys).map (·.1) = sortB (ys.map (·.1)) := by
  unfold sorted sortB
  rw [List.map_mergeSort]
  intro a _ b _
  rfl
theorem q_s {z : Nat} {l l' : Hl} {v : CV} {j : Nat} {es es' : List (List CV)} (h : OwnS z l v j es) (h' : OwnQ z l' v j es') : OwnS z l' v j es' := by
  cases h with
  | nil j => have := h'.nil_of; subst this; exact .nil j
  | sl j n cap sz cs es hb hl hn hz hc hcap hcs =>
    generalize hv : CV.sl z j 0 n cap sz = w at h'
    cases h' with
    | nil => cases hv
    | sl j2 off2 n2 cap2 sz2 cs2 es2 hb2 hl2 hn2 hz2 hc2 hcap2 hcs2 =>
      injection hv with _ e1 e2 e3 e4 e5
      subst e2 e3 e4 e5
      exact .sl j n cap sz cs2 _ hb2 hl2 hn2 hz2 hc2 (by omega) (by simpa using hcs2)
theorem psort_nil : PureN Tryz.prog GS 39 [.nilS, .fn 40 [] []] (.tu []) :=
  pureN_runs (P := Tryz.prog) Tryz.checked.mixed GS_closed (noO_ok _ _) tbl_ok (fuel := 100) (k := 10) (by kernel_rfl)
theorem psort_call {l : Hl} {v : CV} {j : Nat} {xs : List (List B)} (hx : ∀ i ∈ xs, i.length = 32) (hl : xs.length ≤ 1000000) (hn : isNilS v = xs.isEmpty) (h : OwnS 32 l v j (xs.map eId)) {K : CV → Hl → Prop}
    (hK : ∀ l', l'.length = l.length → (∀ b, v = .nilS ∨ b ≠ j → l'[b]? = l[b]?) → OwnS 32 l' v j ((sortB xs).map eId) → K (.tu []) l') : CallP Tryz.prog GS 39 [v, .fn 40 [] []] l (c := ⟨K⟩) := by
  by_cases hnil : xs = []
  · subst hnil
    have hvn : v = .nilS := isNil_iff.1 (by rw [hn]; rfl)
    subst hvn
    exact pure_call psort_nil.toC rfl (hK l rfl (fun _ _ => rfl) (by simpa [sortB] using OwnS.nil j))
  · obtain ⟨ys, hy⟩ := idx_of hx
    have he : ys.map encX = xs.map eId := by rw [← hy, List.map_map]; rfl
    have hs : (sorted cmpX ys).map encX = (sortB xs).map eId := by rw [← hy, ← sorted_map, List.map_map]; rfl
    have hyl : ys.length = xs.length := by rw [← hy]; simp
    have hvn : v ≠ .nilS := fun hv => by subst hv; rw [show isNilS .nilS = true from rfl] at hn; exact hnil (by simpa using hn.symm)
    rw [← he] at h
    exact sortQ cmpX (sortL_ids (by intro args w; exact enters_of Tryz.func40 (by kernel_rfl) rfl args w)) swo_X anti_X encX_len encX_plain (fun x y => pCmp_ok x.1 y.1 x.2 y.2) h.q (by omega) (fun hn0 => absurd (by rw [← hy, hn0]; rfl) hnil)
      (fun l' h1 h2 h3 => hK l' h1 (fun b hb => h2 b (hb.resolve_left hvn)) (by rw [← hs]; exact q_s h h3))
theorem sortB_mem (l : List (List B)) (y : List B) : y ∈ sortB l ↔ y ∈ l := by unfold sortB; exact List.mem_mergeSort
theorem sortB_len (l : List (List B)) : (sortB l).length = l.length := by unfold sortB; exact List.length_mergeSort l
theorem mem_ddN (l : List (List B)) : ∀ m, m ≤ l.length → ∀ y, y ∈ ddN l m ↔ y ∈ l.take m
  | 0, _, y => by simp [ddN]
  | m + 1, hm, y => by
    have ih := mem_ddN l m (by omega)
    have hml : m < l.length := by omega
    obtain ⟨z, hz, _⟩ := get_of hml
    rw [ddN_succ, List.mem_append, ih y, List.take_add_one, hz, List.mem_append, idAt_get hz]
    simp only [Option.toList_some, List.mem_singleton]
    by_cases h : m = 0 ∨ z ≠ idAt l (m - 1)
    · rw [if_pos h]; simp
    · rw [if_neg h]
      have h0 : m ≠ 0 := fun e => h (.inl e)
      have h1 : z = idAt l (m - 1) := Decidable.byContradiction fun e => h (.inr e)
      obtain ⟨t, ht, _⟩ := get_of (l := l) (k := m - 1) (by omega)
      rw [idAt_get ht] at h1
      simp only [List.not_mem_nil, or_false]
      exact ⟨.inl, fun hh => hh.elim id fun e => by
        rw [e, h1]
        exact List.mem_iff_getElem?.2 ⟨m - 1, by rw [List.getElem?_take_of_lt (by omega)]; exact ht⟩⟩
theorem mem_dd (l : List (List B)) (y : List B) : y ∈ dd l ↔ y ∈ l := by
  unfold dd; rw [mem_ddN l _ (Nat.le_refl _), List.take_length]
theorem ddN_last (l : List (List B)) : ∀ m, m + 1 ≤ l.length → (ddN l (m + 1)).getLast? = some (idAt l m)
  | 0, _ => by rw [ddN_succ]; simp [ddN]
  | m + 1, hm => by
    have ih := ddN_last l m (by omega)
    rw [ddN_succ]
    by_cases h : m + 1 = 0 ∨ idAt l (m + 1) ≠ idAt l (m + 1 - 1)
    · rw [if_pos h]; simp
    · rw [if_neg h, List.append_nil, ih]
      have : idAt l (m + 1) = idAt l (m + 1 - 1) := Decidable.byContradiction fun e => h (.inr e)
      rw [this, Nat.add_sub_cancel]
theorem ddN_nb (l : List (List B)) : ∀ m, m ≤ l.length → ∀ k a b, (ddN l m)[k]? = some a → (ddN l m)[k + 1]? = some b → a ≠ b
  | 0, _, k, a, b, ha, _ => by simp [ddN] at ha
  | m + 1, hm, k, a, b, ha, hb => by
    have ih := ddN_nb l m (by omega)
    rw [ddN_succ] at ha hb
    by_cases h : m = 0 ∨ idAt l m ≠ idAt l (m - 1)
    · rw [if_pos h] at ha hb
      have hkl := (List.getElem?_eq_some_iff.1 hb).1
      rw [List.length_append, List.length_singleton] at hkl
      by_cases hk : k + 1 < (ddN l m).length
      · rw [List.getElem?_append_left (by omega)] at ha hb
        exact ih k a b ha hb
      · have hke : k + 1 = (ddN l m).length := by omega
        rw [hke, List.getElem?_concat_length] at hb
        obtain rfl := Option.some.inj hb
        rw [List.getElem?_append_left (by omega)] at ha
        rcases m with _ | m
        · simp [ddN] at ha
        · have hl := ddN_last l m (by omega)
          rw [List.getLast?_eq_getElem?, ← hke, Nat.add_sub_cancel, ha] at hl
          obtain rfl := Option.some.inj hl
          intro e
          rcases h with h | h
          · cases h
          · rw [Nat.add_sub_cancel] at h; exact h e.symm
    · rw [if_neg h, List.append_nil] at ha hb
      exact ih k a b ha hb
theorem dd_nb (l : List (List B)) (k : Nat) (a b : List B) (ha : (dd l)[k]? = some a) (hb : (dd l)[k + 1]? = some b) : a ≠ b := ddN_nb l _ (Nat.le_refl _) k a b ha hb
end Op
end Go.CM

/-
  Buffers of sleepers: what they miss; walked in the program's text.
-/
namespace Go.CM
open Go Go.Proofs
set_option linter.unusedVariables false
set_option linter.unusedSimpArgs false
set_option maxRecDepth 100000
namespace Op
open Sha
def allM (l : List Slp) : List (List B) := l.flatMap fun s => s.miss.l
def missV (l : List Slp) : Ids := if allM l = [] then none else some (dd (sortB (allM l)))
def missW (c : Int) (l : List Slp) : CV := if penErr c l = 0 then .tu [encIds (missV l), .int .i64 0] else .tu [.nilS, .int .i64 (penErr c l)]
theorem rd_tu2 {l : Hl} {a b a' b' : CV} (h1 : Rd l a a') (h2 : Rd l b b') : Rd l (.tu [a, b]) (.tu [a', b']) := by
  refine .tu _ _ rfl fun j x x' hx hx' => ?_
  rcases j with _ | _ | j
  · simp at hx hx'; subst hx hx'; exact h1
  · simp at hx hx'; subst hx hx'; exact h2
  · simp at hx
theorem allM_len {l : List Slp} {n : Nat} (h : ∀ s ∈ l, s.miss.l.length ≤ n) : (allM l).length ≤ l.length * n := by
  induction l with
  | nil => simp [allM]
  | cons s l ih =>
    have h1 := h s (by simp)
    have h2 := ih fun t ht => h t (by simp [ht])
    unfold allM at h2 ⊢
    rw [List.flatMap_cons, List.length_append, List.length_cons, Nat.add_mul]
    omega
structure MssH (c : Int) (s : Slps) (k : Nat) (v : CV) (l : Hl) : Prop where
  p0 : l[0]? = some (.cells 2 (encP c s))
  ex : ∃ j, OwnS 32 l v j ((allM (s.l.take k)).map eId) ∧ (v = .nilS ∨ 1 ≤ j) ∧ isNilS v = (allM (s.l.take k)).isEmpty
  len : 1 ≤ l.length
structure MssI (c : Int) (s : Slps) (k : Nat) (σ : Sg) (l : Hl) : Prop where
  g14 : σ 14 = encSls s
  g15 : σ 15 = .int .i64 s.l.length
  g16 : σ 16 = .int .i64 k
  h : ∃ v, σ 5 = v ∧ MssH c s k v l
set_option maxHeartbeats 1000000 in
theorem wMissing_ok (c : Int) (s : Slps) (hs : okSls s.l) (hl : s.l.length ≤ 1000000) (hm : (allM s.l).length ≤ 1000000) : PureC Tryz.prog GS 15 [.ag (encP c s)] (missW c s.l) := by
  refine pure_of Tryz.checked.mixed GS_closed ?_
  apply call_intro c15_eq r15_eq
  unfold c15 r15 missW
  have hlen : lenM (.sl 45) (encSls s) = some (.int .i64 s.l.length) := by simp [encSls]
  have hcs := closed_Sls s
  have hck := wPCheck_ok c s hs hl
  have hcp : closedL [CV.ag (encP c s)] = true := by simp [encP, closedL, CV.closed, hcs]
  have hr : roomMax = 140737488355328 := rfl
  by_cases h0 : penErr c s.l = 0
  · simp [encP]
    refine pure_call hck hcp ?_
    simp [h0, hlen]
    refine loop_up s.l.length (MssI c s) ?_ ⟨by simp, by simp, by simp, .nilS, by simp, ⟨rfl, ⟨0, .nil 0, .inl rfl, rfl⟩, by simp⟩⟩
    rintro k σ l hk ⟨g14, g15, g16, v, g5, hH⟩
    obtain ⟨σ, rfl⟩ := upds4 g14 g15 g16 g5
    clear g14 g15 g16 g5
    unfold l15_0
    simp
    refine kIf_intro (fun h => ?_) (fun h => ?_)
    · simp only [decide_eq_true_eq] at h
      obtain ⟨y, hy, hym⟩ := get_of (l := s.l) (k := k) (by omega)
      have hyo := hs y hym
      have hR := row_of hyo
      have e1 : IntKind.i64.wrap ((k : Int) + 1) = ((k + 1 : Nat) : Int) := by rw [IntKind.wrap_i64]; omega
      have hia : iaC (.sl 45) (encSls s) (.int .i64 (k : Int)) = some (.rptr (encSl y) 0) := by simp [encSls, hy]
      obtain ⟨p0, ⟨j, o1, d1, n1⟩, hll⟩ := hH
      have hst : allM (s.l.take (k + 1)) = allM (s.l.take k) ++ y.miss.l := by unfold allM; rw [List.take_add_one, hy, List.flatMap_append]; simp
      have hle : (allM (s.l.take (k + 1))).length ≤ 1000000 := by
        refine Nat.le_trans ?_ hm
        have : allM s.l = allM (s.l.take (k + 1)) ++ allM (s.l.drop (k + 1)) := by unfold allM; rw [← List.flatMap_append, List.take_append_drop]
        rw [this, List.length_append]; omega
      rw [hst, List.length_append] at hle
      obtain ⟨R, hRe⟩ : ∃ R, R = encSl y := ⟨_, rfl⟩
      rw [← hRe] at hR hia
      have f1 := hR.len
      have f5 := hR.miss
      have hspR := spS f1
      obtain ⟨v', j', l', a1, b1, c1, d1', ee, ff⟩ := appS (o1.more [.cells 45 R]) (by_ := 32) (x := encIds y.miss) (xs := y.miss.l.map eId) (by simp [encIds]) (fun e he => by obtain ⟨z, hz, rfl⟩ := List.mem_map.1 he; exact eId_len (hyo.miss z hz)) (by omega) (by omega) (by rw [hr]; simp; omega)
      rw [← List.map_append, ← hst] at b1
      have hn0 : ∀ cb : CB, (l ++ [cb])[l.length]? = some cb := fun cb => List.getElem?_concat_length
      simp [hia, f1, hspR, f5, a1, List.take_of_length_le]
      refine AppK.keep ?_
      simp [e1]
      have hn1 : isNilS v' = (allM (s.l.take (k + 1))).isEmpty := by
        rw [ff, n1, hst]
        cases allM (s.l.take k) <;> cases y.miss.l <;> rfl
      refine ⟨by omega, by simp, by simp, by simp, v', by simp, ⟨?_, ⟨j', b1, ?_, hn1⟩, ?_⟩⟩
      · rw [d1' 0 (by simp) (d1.imp id fun h => by omega), List.getElem?_append_left (by omega)]; exact p0
      · rcases ee with h3 | ⟨h3, h4⟩ | h3
        · right; simp at h3; omega
        · right; rw [h4]; exact d1.resolve_left h3
        · exact .inl h3
      · simp at c1; omega
    · simp [h]
      have hk2 : k = s.l.length := by simp at h; omega
      obtain ⟨p0, ⟨j, o1, d1, n1⟩, hll⟩ := hH
      rw [hk2, List.take_length] at o1 n1
      have hid : ∀ i ∈ allM s.l, i.length = 32 := fun i hi => by
        unfold allM at hi
        obtain ⟨t, ht, hit⟩ := List.mem_flatMap.1 hi
        exact (hs t ht).miss i hit
      refine psort_call hid hm n1 o1 fun l' z1 z2 z3 => ?_
      simp
      have hob : Ob 32 eId (l'.take 1) l' v (sortB (allM s.l)) (allM s.l).isEmpty := ⟨j, z3, by simp; omega, fun b hb => by
        rw [List.length_take] at hb
        rw [List.getElem?_take_of_lt (by omega)], d1.imp id fun h => by rw [List.length_take]; omega, n1⟩
      refine compact_ob hob (fun x hx => hid x ((sortB_mem _ _).1 hx)) (by rw [sortB_len]; exact hm) fun r l2 ho2 => ?_
      simp
      rw [if_pos h0]
      refine rd_tu2 (ho2.rd closed_eId (missV s.l) ?_ ?_) (.same _ rfl)
      · unfold missV; cases allM s.l <;> rfl
      · unfold missV
        split
        · rename_i he; rw [he]; simp [sortB, dd, ddN]
        · rfl
  · simp [encP]
    refine pure_call hck hcp ?_
    simp [h0]
    exact rd_eq rfl rfl
end Op
end Go.CM

/-
  Buffers of sleepers: the same operation, the same sleepers, the same buffer; walked in the reference.
-/
namespace Go.CM
open Go Go.Proofs
set_option linter.unusedVariables false
set_option linter.unusedSimpArgs false
set_option maxRecDepth 100000
namespace Op
open Sha
def sameO (a b : Opr) : Bool := decide (a.author = b.author) && (decide (a.preds.l = b.preds.l) && (decide (a.stamp = b.stamp) && (beqL (encA a.act) (encA b.act) && (decide (a.e = b.e) && decide (a.s = b.s)))))
theorem kinds_S : kindsT Tryz.prog 20 42 = some [.i .u32, .i .u32] := by kernel_rfl
theorem s_eql (a b c d : D) : binC Tryz.prog .eql 42 (.ag [e32 a, e32 b]) (.ag [e32 c, e32 d]) = some (.bool (decide (a = c) && decide (b = d))) := by
  rw [bin_plain_eql kinds_S (by kernel_rfl) (by kernel_rfl) rfl rfl]
  simp [beqL, CV.beq]
theorem rSameO_ok (a b : Opr) (ha : OkOp a) (hb : OkOp b) : PureC Tryz.prog GS 34 [.ag (encOp a), .ag (encOp b)] (.bool (sameO a b)) := by
  refine pure_of Tryz.checked.mixed GS_closed ?_
  apply call_intro c34_eq r34_eq
  unfold c34 r34 sameO
  have hca := closed_ids a.preds
  have hcb := closed_ids b.preds
  have hids := sameIDs_ok a.preds b.preds ha.ids hb.ids ha.len
  have hact := a_eql a.act b.act
  have hsig := s_eql a.e a.s b.e b.s
  have ham : (encIds a.preds).cells = some [encIds a.preds] := by cases a.preds <;> rfl
  have hbm : (encIds b.preds).cells = some [encIds b.preds] := by cases b.preds <;> rfl
  unfold encA at hact ⊢
  simp [encOp]
  by_cases h1 : a.author = b.author
  · simp [h1]
    refine pure_call hids (by simp [closedL, hca, hcb]) ?_
    by_cases h2 : a.preds.l = b.preds.l
    · by_cases h3 : a.stamp = b.stamp
      · cases h4 : beqL [e8 a.act.kind, .str a.act.key, e8 a.act.val.kind, .int .i64 a.act.val.num, e64 a.act.val.bits, .str a.act.val.text] [e8 b.act.kind, .str b.act.key, e8 b.act.val.kind, .int .i64 b.act.val.num, e64 b.act.val.bits, .str b.act.val.text] with
        | false =>
          rw [h4] at hact
          simp [h1, h2, h3, hact]
          exact rd_eq rfl rfl
        | true =>
          rw [h4] at hact
          simp [h1, h2, h3, hact, hsig]
          exact rd_eq rfl rfl
      · simp [h1, h2, h3]
        exact rd_eq rfl rfl
    · simp [h1, h2]
      exact rd_eq rfl rfl
  · simp [h1]
    exact rd_eq rfl rfl
theorem sameO_self (a : Opr) : sameO a a = true := by unfold sameO; simp [encA, beqL, CV.beq]
def sameSl (a b : Slp) : Bool := decide (a.tk = b.tk) && (decide (a.id = b.id) && (sameO a.op b.op && decide (a.miss.l = b.miss.l)))
def sameSls (a b : List Slp) : Bool := decide (a.length = b.length) && decide (∀ k, k < a.length → sameSl (slAt a k) (slAt b k) = true)
theorem sameSl_self (a : Slp) : sameSl a a = true := by unfold sameSl; simp [sameO_self]
theorem sameSls_self (l : List Slp) : sameSls l l = true := by
  unfold sameSls
  rw [decide_eq_true rfl, Bool.true_and]
  exact decide_eq_true fun k _ => sameSl_self _
structure SamI (a b : Slps) (k : Nat) (σ : Sg) (l : Hl) : Prop where
  g0 : σ 0 = encSls a
  g1 : σ 1 = encSls b
  g5 : σ 5 = .int .i64 k
  hs : ∀ j, j < k → sameSl (slAt a.l j) (slAt b.l j) = true
theorem rSameSls_ok (a b : Slps) (ha : okSls a.l) (hb : okSls b.l) (hl : a.l.length ≤ 1000000) : PureC Tryz.prog GS 25 [encSls a, encSls b] (.bool (sameSls a.l b.l)) := by
  refine pure_of Tryz.checked.mixed GS_closed ?_
  apply call_intro c25_eq r25_eq
  unfold c25 r25
  have hla : lenM (.sl 45) (encSls a) = some (.int .i64 a.l.length) := by simp [encSls]
  have hlb : lenM (.sl 45) (encSls b) = some (.int .i64 b.l.length) := by simp [encSls]
  have hca := closed_Sls a
  have hcb := closed_Sls b
  by_cases h0 : a.l.length = b.l.length
  · simp [hla, hlb, h0]
    refine loop_up b.l.length (SamI a b) ?_ ⟨by simp, by simp, by simp, fun j h => by omega⟩
    rintro k σ l hk ⟨g0, g1, g5, hss⟩
    obtain ⟨σ, rfl⟩ := upds3 g0 g1 g5
    clear g0 g1 g5
    unfold l25_0
    simp [hla, h0]
    refine kIf_intro (fun h => ?_) (fun h => ?_)
    · simp only [decide_eq_true_eq] at h
      obtain ⟨x, hx, hxm⟩ := get_of (l := a.l) (k := k) (by omega)
      obtain ⟨y, hy, hym⟩ := get_of (l := b.l) (k := k) (by omega)
      have hox := ha x hxm
      have hoy := hb y hym
      have hX := row_of hox
      have hY := row_of hoy
      have e1 : IntKind.i64.wrap ((k : Int) + 1) = ((k + 1 : Nat) : Int) := by rw [IntKind.wrap_i64]; omega
      have hix : iaC (.sl 45) (encSls a) (.int .i64 (k : Int)) = some (.rptr (encSl x) 0) := by simp [encSls, hx]
      have hiy : iaC (.sl 45) (encSls b) (.int .i64 (k : Int)) = some (.rptr (encSl y) 0) := by simp [encSls, hy]
      have hso := rSameO_ok x.op y.op hox.op hoy.op
      have hsm := sameIDs_ok x.miss y.miss hox.miss hoy.miss hox.len
      have hne := idNeq hox.id hoy.id
      have hxl := eId_len hox.id
      have hyl := eId_len hoy.id
      have hcox := closed_op x.op
      have hcoy := closed_op y.op
      have hcmx := closed_ids x.miss
      have hcmy := closed_ids y.miss
      have hbad : sameSl x y = false → sameSls a.l b.l = false := fun hb2 => by
        unfold sameSls
        rw [decide_eq_false (p := ∀ k, k < a.l.length → sameSl (slAt a.l k) (slAt b.l k) = true), Bool.and_false]
        intro hall
        have := hall k (by omega)
        rw [slAt_get hx, slAt_get hy, hb2] at this
        cases this
      have hga : sameSl x y = (decide (x.tk = y.tk) && (decide (x.id = y.id) && (sameO x.op y.op && decide (x.miss.l = y.miss.l)))) := rfl
      obtain ⟨X, hXe⟩ : ∃ X, X = encSl x := ⟨_, rfl⟩
      obtain ⟨Y, hYe⟩ : ∃ Y, Y = encSl y := ⟨_, rfl⟩
      obtain ⟨O, hOe⟩ : ∃ O, O = encOp x.op := ⟨_, rfl⟩
      obtain ⟨P, hPe⟩ : ∃ P, P = encOp y.op := ⟨_, rfl⟩
      rw [← hXe] at hX hix
      rw [← hYe] at hY hiy
      have x1 := hX.len
      have x2 := hX.tk
      have x3 := hX.op
      have x4 := hX.id
      have x5 := hX.miss
      have y1 := hY.len
      have y2 := hY.tk
      have y3 := hY.op
      have y4 := hY.id
      have y5 := hY.miss
      rw [← hOe] at x3 hso hcox
      rw [← hPe] at y3 hso hcoy
      have hOl : O.length = 11 := by rw [hOe]; rfl
      have hPl : P.length = 11 := by rw [hPe]; rfl
      by_cases c1 : x.tk = y.tk
      · by_cases c2 : x.id = y.id
        · rw [c2, decide_eq_true rfl] at hne
          simp [hix, hiy, x1, x2, x3, x4, x5, y1, y2, y3, y4, y5, hxl, hyl, hOl, hPl, hne, c1, c2, List.take_of_length_le]
          refine pure_call hso (by simp [closedL, CV.closed, hcox, hcoy]) ?_
          cases c3 : sameO x.op y.op with
          | false =>
            have hf := hbad (by rw [hga, c3]; simp)
            rw [hf]
            simp
            exact rd_eq rfl rfl
          | true =>
            simp [hix, hiy, x1, x5, y1, y5]
            refine pure_call hsm (by simp [closedL, hcmx, hcmy]) ?_
            by_cases c4 : x.miss.l = y.miss.l
            · simp [c4, e1]
              exact ⟨by omega, by simp, by simp, by simp, fun j hj => by
                by_cases hjk : j = k
                · rw [hjk, slAt_get hx, slAt_get hy, hga, c3]; simp [c1, c2, c4]
                · exact hss j (by omega)⟩
            · have hf := hbad (by rw [hga]; simp [c4])
              rw [hf]
              simp [c4]
              exact rd_eq rfl rfl
        · have hf := hbad (by rw [hga]; simp [c2])
          rw [hf]
          simp [hix, hiy, x1, x2, x3, x4, x5, y1, y2, y3, y4, y5, hxl, hyl, hOl, hPl, hne, c1, c2, List.take_of_length_le]
          exact rd_eq rfl rfl
      · have hf := hbad (by rw [hga]; simp [c1])
        rw [hf]
        simp [hix, hiy, x1, x2, y1, y2, c1]
        exact rd_eq rfl rfl
    · simp [h]
      have hk2 : k = b.l.length := by simp at h; omega
      have hf : sameSls a.l b.l = true := by
        unfold sameSls
        rw [decide_eq_true h0, Bool.true_and]
        exact decide_eq_true fun j hj => hss j (by omega)
      rw [hf]
      exact rd_eq rfl rfl
  · have h0' : ¬ (a.l.length : Int) = (b.l.length : Int) := by omega
    have hf : sameSls a.l b.l = false := by unfold sameSls; rw [decide_eq_false h0]; rfl
    rw [hf]
    simp [hla, hlb, h0, h0']
    exact rd_eq rfl rfl
theorem rSameP_ok (c c' : Int) (a b : Slps) (ha : okSls a.l) (hb : okSls b.l) (hl : a.l.length ≤ 1000000) : PureC Tryz.prog GS 16 [.ag (encP c a), .ag (encP c' b)] (.bool (decide (c = c') && sameSls a.l b.l)) := by
  refine pure_of Tryz.checked.mixed GS_closed ?_
  apply call_intro c16_eq r16_eq
  unfold c16 r16
  have hca := closed_Sls a
  have hcb := closed_Sls b
  have hsl := rSameSls_ok a b ha hb hl
  by_cases h : c = c'
  · simp [encP, h]
    refine pure_call hsl (by simp [closedL, hca, hcb]) ?_
    cases sameSls a.l b.l <;> simp [h] <;> exact rd_eq rfl rfl
  · simp [encP, h]
    exact rd_eq rfl rfl
end Op
end Go.CM

/-
  Buffers of sleepers: in the end nothing is left; the law walked in the program's text.
-/
namespace Go.CM
open Go Go.Proofs
set_option linter.unusedVariables false
set_option linter.unusedSimpArgs false
set_option maxRecDepth 100000
namespace Op
open Sha
theorem miss_pos {s : Slp} (h : okS s) : s.miss.l ≠ [] := by
  have := h.2.2.2.2
  unfold missB at this
  rw [Bool.and_eq_true, decide_eq_true_eq] at this
  intro e; rw [e] at this; simp at this
theorem miss_four {s : Slp} (h : okS s) : s.miss.l.length ≤ 4 := by
  obtain ⟨h1, _, _, _, h5⟩ := h
  unfold missB at h5
  rw [Bool.and_eq_true, Bool.and_eq_true] at h5
  have h2 := nodup_len (ris_nodup h5.2.1) (m := s.op.preds.l) fun x hx => of_decide_eq_true (List.all_eq_true.1 h5.2.2 x hx)
  have h4 : ¬ 4 < s.op.preds.l.length := fun hlt => by
    unfold opErr at h1
    rw [if_pos hlt] at h1; cases h1
  omega
theorem missV_l (l : List Slp) : (missV l).l = dd (sortB (allM l)) := by
  unfold missV
  split
  · rename_i h; rw [h]; simp [sortB, dd, ddN]
  · rfl
theorem missV_mem (l : List Slp) (y : List B) : y ∈ (missV l).l ↔ ∃ s ∈ l, y ∈ s.miss.l := by
  rw [missV_l, mem_dd, sortB_mem]
  unfold allM
  exact List.mem_flatMap
theorem missV_len (l : List Slp) : (missV l).l.length ≤ (allM l).length := by
  rw [missV_l]
  unfold dd
  refine Nat.le_trans (ddN_len _ _) ?_
  rw [sortB_len]; exact Nat.le_refl _
theorem now_end {came : List (List B)} {l : List Slp} (h : ∀ s ∈ l, ∀ y ∈ s.miss.l, y ∈ came) : nowL came l = [] := by
  unfold nowL
  refine List.filter_eq_nil_iff.2 fun t ht => ?_
  obtain ⟨s, hs, rfl⟩ := List.mem_map.1 ht
  have h1 : (strikeL came s).miss.l = s.miss.l.filter (nX came) := strikeML_l _ _
  unfold gone
  rw [h1, List.filter_eq_nil_iff.2 fun y hy => by unfold nX; simp [h s hs y hy]]
  simp
theorem strike_no {x : List B} {s : Slp} (h : x ∉ s.miss.l) : strikeS x s = s := by
  unfold strikeS
  have : strikeM x s.miss = s.miss := by
    cases hm : s.miss with
    | none => rfl
    | some a =>
      rw [hm] at h
      exact congrArg some (List.filter_eq_self.2 fun y hy => by
        unfold notX
        rw [decide_eq_false (fun e => h (by rw [← e]; exact hy))]; rfl)
  rw [this]
theorem come_no {x : List B} {l : List Slp} (hok : ∀ s ∈ l, okS s) (h : ∀ s ∈ l, x ∉ s.miss.l) : nextL x l = l ∧ freedL x l = [] := by
  have hm : l.map (strikeS x) = l := (List.map_congr_left (f := strikeS x) (g := id) fun s hs => strike_no (h s hs)).trans (List.map_id l)
  have hg : ∀ s ∈ l, gone s = false := fun s hs => by
    have := miss_pos (hok s hs)
    unfold gone
    cases hmm : s.miss.l with
    | nil => exact absurd hmm this
    | cons a r => rfl
  unfold nextL freedL
  rw [hm]
  exact ⟨List.filter_eq_self.2 fun s hs => by rw [hg s hs]; rfl, List.filter_eq_nil_iff.2 fun s hs => by rw [hg s hs]; simp⟩
structure EndI (n : Nat) (c : Int) (s : Slps) (ids : Ids) (k : Nat) (σ : Sg) (l : Hl) : Prop where
  g2 : σ 2 = .ptr 0 0 2
  g5 : σ 5 = .bool true
  g6 : σ 6 = encIds ids
  g11 : σ 11 = .ptr n 0 2
  g13 : σ 13 = .int .i64 k
  p0 : l[0]? = some (.cells 2 (encP c s))
  n0 : 1 ≤ n
  ex : ∃ w : Slps, σ 12 = .int .i64 ((s.l.length : Int) - (w.l.length : Int)) ∧ l[n]? = some (.cells 2 (encP c w)) ∧ w.l = nowL (ids.l.take k) s.l
set_option maxHeartbeats 1000000 in
theorem ends_loop {n : Nat} {c : Int} {s : Slps} {ids : Ids} (hok : okSls s.l) (h20 : s.l.length ≤ 20) (hp : penErr c s.l = 0) (hi : okIds ids) (hil : ids.l.length ≤ 40) (hnb : ∀ k a b, ids.l[k]? = some a → ids.l[k + 1]? = some b → a ≠ b)
    {K : Kc} (hK : ∀ σ l, EndI n c s ids ids.l.length σ l → K.k (.exit 0) σ l) {σ : Sg} {l : Hl} (h : EndI n c s ids 0 σ l) : LoopP (run Tryz.prog GS l4_0) σ l (c := K) := by
  have hlen : lenM (.sl 32) (encIds ids) = some (.int .i64 ids.l.length) := by simp [encIds]
  refine loop_up ids.l.length (EndI n c s ids) ?_ h
  clear h
  rintro k σ l hk ⟨g2, g5, g6, g11, g13, p0, n0, w, g12, pn, hw⟩
  obtain ⟨σ, rfl⟩ := upds6 g2 g5 g6 g11 g13 g12
  clear g2 g5 g6 g11 g13 g12
  unfold l4_0
  simp [hlen]
  refine kIf_intro (fun h => ?_) (fun h => ?_)
  · simp only [decide_eq_true_eq] at h
    obtain ⟨x, hx, hxm⟩ := get_of (l := ids.l) (k := k) (by omega)
    have hxl := eId_len (hi x hxm)
    have e1 : IntKind.i64.wrap ((k : Int) + 1) = ((k + 1 : Nat) : Int) := by rw [IntKind.wrap_i64]; omega
    have hia : iaC (.sl 32) (encIds ids) (.int .i64 (k : Int)) = some (.rptr (eId x) 0) := by simp [encIds, hx]
    have hcx := closed_eId x
    have hll := get_lt pn
    have hl0 := get_lt p0
    have hwok : okSls w.l := by rw [hw]; exact ok_nowL hok
    have hwl : w.l.length ≤ 20 := by rw [hw]; exact Nat.le_trans (len_nowL _ _) h20
    have hwp : penErr c w.l = 0 := by rw [hw]; exact now_ok hp _
    have hnx : nextL x w.l = nowL (ids.l.take (k + 1)) s.l := by rw [hw, next_now, List.take_add_one, hx]; rfl
    have hcome := wCome_ok c w hwok (by omega) x (hi x hxm)
    have hcw : comeW c w.l x = .tu [.ag (encP c (svS (nextL x w.l))), encSls (svS (freedL x w.l)), .int .i64 0] := by unfold comeW; rw [if_pos hwp]
    rw [hcw] at hcome
    have hcsw := closed_Sls w
    have hpn : ∀ cb : CB, (l ++ [cb])[n]? = some (.cells 2 (encP c w)) := fun cb => by rw [List.getElem?_append_left hll]; exact pn
    have hn0 : ∀ cb : CB, (l ++ [cb])[l.length]? = some cb := fun cb => List.getElem?_concat_length
    have hcpw : closedL [CV.ag (encP c w), CV.ag (eId x)] = true := by simp [encP, closedL, CV.closed, hcsw, hcx]
    obtain ⟨W', hW'⟩ : ∃ W', W' = svS (nextL x w.l) := ⟨_, rfl⟩
    obtain ⟨F, hF⟩ : ∃ F, F = svS (freedL x w.l) := ⟨_, rfl⟩
    have hW'l : W'.l = nowL (ids.l.take (k + 1)) s.l := by rw [hW', svS_l, hnx]
    have hpl : W'.l.length + F.l.length = w.l.length := by rw [hF, svS_l, hW', svS_l]; exact part_len x w.l
    rw [← hW', ← hF] at hcome
    have hlF : lenM (.sl 45) (encSls F) = some (.int .i64 F.l.length) := by simp [encSls]
    have hws : w.l.length ≤ s.l.length := by rw [hw]; exact len_nowL _ _
    have hsum : IntKind.i64.wrap ((s.l.length : Int) - (w.l.length : Int) + (F.l.length : Int)) = (s.l.length : Int) - (W'.l.length : Int) := by rw [IntKind.wrap_i64]; omega
    obtain ⟨X, hX⟩ : ∃ X, X = eId x := ⟨_, rfl⟩
    have hP : (encP c w).length = 2 := rfl
    obtain ⟨PW, hPW⟩ : ∃ PW, PW = encP c w := ⟨_, rfl⟩
    rw [← hX] at hxl hia hcpw hcome
    rw [← hPW] at hP hpn pn hcpw hcome
    have hspl : splice PW 0 [CV.int .i64 c, encSls W'] = [CV.int .i64 c, encSls W'] := splice_full (by rw [hP]; rfl)
    have hset : ∀ cb cb2 : CB, (l ++ [cb]).set l.length cb2 = l ++ [cb2] := fun cb cb2 => by simp
    have hset2 : ∀ cb cb2 : CB, (l ++ [cb]).set n cb2 = l.set n cb2 ++ [cb] := fun cb cb2 => by rw [List.set_append_left _ _ hll]
    have fin : ∀ (σ' : Sg) (cb : CB), σ' 2 = .ptr 0 0 2 → σ' 5 = .bool true → σ' 6 = encIds ids → σ' 11 = .ptr n 0 2 → σ' 13 = .int .i64 ((k + 1 : Nat) : Int) → σ' 12 = .int .i64 ((s.l.length : Int) - (W'.l.length : Int)) →
        EndI n c s ids (k + 1) σ' (l.set n (.cells 2 [.int .i64 c, encSls W']) ++ [cb]) := fun σ' cb a2 a5 a6 a11 a13 a12 =>
      ⟨a2, a5, a6, a11, a13, by rw [List.getElem?_append_left (by simpa using hl0), List.getElem?_set_ne (by omega)]; exact p0, n0, W', a12, by rw [List.getElem?_append_left (by simpa using hll)]; exact List.getElem?_set_self hll, hW'l⟩
    simp [hia, hxl, pn, hpn, hP, List.take_of_length_le]
    refine pure_call hcome hcpw ?_
    by_cases hk0 : k = 0
    · have hk0' : ¬ (0 : Int) < (k : Int) := by omega
      have hkn : ¬ 0 < k := by omega
      simp [encP, hset, hk0', hkn, hlF, hsum, pn, hpn, hset2, hspl, e1]
      refine ⟨by omega, ?_⟩
      refine fin _ _ ?_ ?_ ?_ ?_ ?_ ?_ <;> simp
    · obtain ⟨z, hz, hzm⟩ := get_of (l := ids.l) (k := k - 1) (by omega)
      have hzl := eId_len (hi z hzm)
      have e3 : IntKind.i64.wrap ((k : Int) - 1) = ((k - 1 : Nat) : Int) := by rw [IntKind.wrap_i64]; omega
      have hk0' : (0 : Int) < (k : Int) := by omega
      have hkp : 0 < k := by omega
      have hiz : iaC (.sl 32) (encIds ids) (.int .i64 ((k - 1 : Nat) : Int)) = some (.rptr (eId z) 0) := by simp [encIds, hz]
      have hzx : z ≠ x := hnb (k - 1) z x hz (by rw [show k - 1 + 1 = k by omega]; exact hx)
      have heq := idEql (hi z hzm) (hi x hxm)
      rw [← hX, decide_eq_false hzx] at heq
      simp [encP, hset, hk0', hkp, hlF, hsum, pn, hpn, hset2, hspl, e1, e3, hia, hiz, hxl, hzl, heq, List.take_of_length_le]
      refine ⟨by omega, ?_⟩
      refine fin _ _ ?_ ?_ ?_ ?_ ?_ ?_ <;> simp
  · simp [h]
    have hk2 : k = ids.l.length := by simp at h; omega
    subst hk2
    exact hK _ _ ⟨by simp, by simp, by simp, by simp, by simp, p0, n0, w, by simp, pn, hw⟩
set_option maxHeartbeats 2000000 in
theorem ends_ok (hal : PureC Tryz.prog GS 8 [] (.bool true)) (c : Int) (s : Slps) (hs : ∀ t ∈ s.l, TySl t) (x : List B) (hx : x.length = 32) :
    PureC Tryz.prog GS 4 [.ag (encP c s), .ag (eId x)] (.bool true) := by
  refine pure_of Tryz.checked.mixed GS_closed ?_
  apply call_intro c4_eq r4_eq
  unfold c4 r4
  have hcs := closed_Sls s
  have hcp : closedL [CV.ag (encP c s)] = true := by simp [encP, closedL, CV.closed, hcs]
  have hfit := fit_ok c s hs
  have hxl := eId_len hx
  have hcx := closed_eId x
  simp [encP, hxl]
  refine pure_call hal rfl ?_
  simp [encP]
  refine pure_call hfit hcp ?_
  cases hg : greatP s.l with
  | true => simp; exact rd_eq rfl rfl
  | false =>
  by_cases hp : penErr c s.l = 0
  case neg => simp [hp]; exact rd_eq rfl rfl
  case pos =>
  obtain ⟨h20, hb⟩ := pGreat_le hg
  have hok : okSls s.l := fun t ht => okSl_of (hs t ht) (hb t ht)
  obtain ⟨hno, hgood⟩ := pen_good hp
  obtain ⟨q1, q2, q3⟩ := (good_split s.l).1 hgood
  have ham : (allM s.l).length ≤ s.l.length * 4 := allM_len fun t ht => miss_four (q1 t ht)
  have hmis := wMissing_ok c s hok (by omega) (by omega)
  have hmw : missW c s.l = .tu [encIds (missV s.l), .int .i64 0] := by unfold missW; rw [if_pos hp]
  rw [hmw] at hmis
  obtain ⟨ids, hids⟩ : ∃ ids, ids = missV s.l := ⟨_, rfl⟩
  have hmem : ∀ y, y ∈ ids.l ↔ ∃ t ∈ s.l, y ∈ t.miss.l := fun y => by rw [hids]; exact missV_mem s.l y
  have hil : ids.l.length ≤ 40 := by rw [hids]; exact Nat.le_trans (missV_len s.l) (by omega)
  have hi : okIds ids := fun y hy => by
    obtain ⟨t, ht, hty⟩ := (hmem y).1 hy
    exact (hok t ht).miss y hty
  have hnb : ∀ k a b, ids.l[k]? = some a → ids.l[k + 1]? = some b → a ≠ b := fun k a b ha hb2 => by
    rw [hids, missV_l] at ha hb2
    exact dd_nb _ k a b ha hb2
  rw [← hids] at hmis
  have hlen : lenM (.sl 32) (encIds ids) = some (.int .i64 ids.l.length) := by simp [encIds]
  have hl40 : ¬ (40 : Int) < (ids.l.length : Int) := by omega
  have hl40' : ¬ 40 < ids.l.length := by omega
  have hcids := closed_ids ids
  have hin := rIn_ok ids hi (by omega) x hx
  have hlS : lenM (.sl 45) (encSls s) = some (.int .i64 s.l.length) := by simp [encSls]
  have hend : nowL ids.l s.l = [] := now_end fun t ht y hy => (hmem y).2 ⟨t, ht, hy⟩
  have hnil := now_nil q1
  have hcell : (encIds ids).cells = some [encIds ids] := by cases ids <;> rfl
  have hcellS : (encSls s).cells = some [encSls s] := by cases s <;> rfl
  obtain ⟨X, hX⟩ : ∃ X, X = eId x := ⟨_, rfl⟩
  rw [← hX] at hxl hcx hin
  simp [hp]
  refine pure_call hmis hcp ?_
  simp [hlen, hl40, hl40']
  simp [hxl, ← hX, List.take_of_length_le]
  refine pure_call hin (by simp [closedL, CV.closed, hcids, hcx]) ?_
  by_cases hm : x ∈ ids.l
  · simp [hm]
    refine ends_loop (n := 2) (c := c) (s := s) (ids := ids) hok h20 hp hi hil hnb (fun σ l ⟨g2, g5, g6, g11, g13, p0, n0, w, g12, pn, hw⟩ => ?_) ⟨by simp, by simp, by simp, by simp, by simp, rfl, by omega, s, by simp, rfl, by simp [hnil]⟩
    rw [List.take_length, hend] at hw
    have hlw : lenM (.sl 45) (encSls w) = some (.int .i64 0) := by simp [encSls, hw]
    simp [g2, g5, g6, g11, g13, g12, p0, pn, encP, hlw, hlS, hw]
    exact rd_eq rfl rfl
  · obtain ⟨k1, k2⟩ := come_no (x := x) q1 fun t ht h => hm ((hmem x).2 ⟨t, ht, h⟩)
    have hcome := wCome_ok c s hok (by omega) x hx
    have hcw : comeW c s.l x = .tu [.ag (encP c (svS s.l)), .nilS, .int .i64 0] := by unfold comeW; rw [if_pos hp, k1, k2]; rfl
    rw [hcw, ← hX] at hcome
    have hsame := rSameP_ok c c (svS s.l) s (by rw [svS_l]; exact hok) hok (by rw [svS_l]; omega)
    rw [svS_l, sameSls_self, decide_eq_true rfl] at hsame
    have hcW := closed_Sls (svS s.l)
    obtain ⟨W, hW⟩ : ∃ W, W = svS s.l := ⟨_, rfl⟩
    rw [← hW] at hcome hsame hcW
    have hcpx : closedL [CV.ag (encP c s), CV.ag X] = true := by simp [encP, closedL, CV.closed, hcs, hcx]
    simp [hm, hxl, List.take_of_length_le]
    refine pure_call hcome hcpx ?_
    simp [encP]
    refine pure_call hsame (by simp [encP, closedL, CV.closed, hcs, hcW]) ?_
    simp
    refine ends_loop (n := 3) (c := c) (s := s) (ids := ids) hok h20 hp hi hil hnb (fun σ l ⟨g2, g5, g6, g11, g13, p0, n0, w, g12, pn, hw⟩ => ?_) ⟨by simp, by simp, by simp, by simp, by simp, rfl, by omega, s, by simp, rfl, by simp [hnil]⟩
    rw [List.take_length, hend] at hw
    have hlw : lenM (.sl 45) (encSls w) = some (.int .i64 0) := by simp [encSls, hw]
    simp [g2, g5, g6, g11, g13, g12, p0, pn, encP, hlw, hlS, hw]
    exact rd_eq rfl rfl
end Op
end Go.CM

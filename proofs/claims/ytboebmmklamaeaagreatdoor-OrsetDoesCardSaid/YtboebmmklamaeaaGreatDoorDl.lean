/-
  Sets of tags: the program's Apply, walked.
-/
import Derived.Test.YtboebmmklamaeaaGreatDoorDk
namespace Go.CM
open Go Go.Proofs
set_option linter.unusedVariables false
set_option linter.unusedSimpArgs false
set_option maxRecDepth 100000
namespace Op
open Sha

theorem e_2 (o : Opr) : ((u o.act.kind : Int) = 2) ↔ o.act.kind = 2#8 := u_inj o.act.kind 2#8
theorem e_3 (o : Opr) : ((u o.act.kind : Int) = 3) ↔ o.act.kind = 3#8 := u_inj o.act.kind 3#8
theorem idOf_len (o : Opr) : (idOf o).length = 32 := by
  unfold idOf; split
  · exact sha_length _
  · simp
set_option maxHeartbeats 1000000 in
theorem wApply_ok (s : Tgs) (o : Opr) (b : Ids) (hs : okTs s.l) (hsl : s.l.length ≤ 1000000) (ho : OkOp o) (hb : okIds b) (hbl : b.l.length ≤ 1000000) :
    PureC Tryz.prog GS 11 [.ag [encTs s], .ag (encOp o), encIds b] (.tu [.ag [encTs (appW s o b).1], .int .i64 (appW s o b).2]) := by
  refine pure_of Tryz.checked.mixed GS_closed ?_
  apply call_intro c11_eq r11_eq
  unfold c11 r11
  have hcs := closed_Ts s
  have hco := closed_op o
  have hcb := closed_ids b
  have hck := wTCheck_ok s hs hsl
  have hid := wID_ok o ho
  have hil := idOf_len o
  have hbc : (encIds b).cells = some [encIds b] := by cases b <;> rfl
  have hblen : lenM (.sl 32) (encIds b) = some (.int .i64 b.l.length) := by simp [encIds]
  by_cases h0 : tagErr s.l = 0
  · by_cases h1 : opErr o = 0
    · obtain ⟨D, hD⟩ : ∃ D, D = (idOf o).map e8 := ⟨_, rfl⟩
      have hDl : D.length = 32 := by rw [hD, List.length_map, hil]
      have hDc : closedL D = true := by rw [hD]; exact closedL_map e8 (fun _ => rfl) _
      have hspD : splice (rep 32 (.int .u8 0)) 0 D = D := splice_full (by rw [hDl]; rfl)
      unfold idC at hid
      rw [← hD] at hid
      simp [encOp, hbc]
      refine pure_call hck (by simp [closedL, CV.closed, hcs]) ?_
      simp [h0]
      refine pure_call hid (show closedL [CV.ag (encOp o)] = true by simp [closedL, CV.closed, hco]) ?_
      simp [h1, hDl, hspD, hblen, List.take_of_length_le]
      by_cases h2 : 60 < b.l.length
      · have h2' : (60 : Int) < (b.l.length : Int) := by omega
        have ha : appW s o b = (none, 4) := by unfold appW; rw [if_pos h0, if_pos h1, if_pos h2]
        rw [ha]
        simp [h2']
        exact rd_eq rfl rfl
      · have h2' : ¬ (60 : Int) < (b.l.length : Int) := by omega
        simp [h2']
        have hgd := (good_err h0).2
        obtain ⟨x, hx⟩ : ∃ x : Tg, x = ⟨o.act.key, idOf o⟩ := ⟨_, rfl⟩
        have hxi : x.id.length = 32 := by rw [hx]; exact hil
        have hmo := good_mono hgd x
        have hX : encT x = .str o.act.key :: D := by rw [hx, hD]; rfl
        have hXl := encT_len hxi
        have hxc := closed_encT x
        rw [hX] at hXl
        have hspx := spT hXl
        refine cloneT_ob s hs hsl (fun hn => ?_) (fun a hsa => ?_)
        · subst hn
          by_cases k2 : o.act.kind = 2#8
          · have k2' := (e_2 o).2 k2
            have ha : appW none o b = addW none x := by unfold appW; rw [if_pos h0, if_pos h1, if_neg h2, if_pos k2, hx]
            have hse := search_ok none (by simp [okTs]) (by simp) x hxi hmo
            have hcnt : cntT (Sv.l (none : Tgs)) x = 0 := rfl
            have hfo : foundT (Sv.l (none : Tgs)) x = false := rfl
            have haw : addW none x = (some (insAt [] 0 x), 0) := rfl
            rw [hcnt, hfo, hX] at hse
            rw [ha, haw]
            simp [k2', hDl, hspD, hspx, List.take_of_length_le]
            refine pure_call hse (by simp [closedL, CV.closed, hDc, encTs, encS]) ?_
            simp [hDl, hspD, hspx, List.take_of_length_le]
            refine insN_own (bv := 7) (x := x) (by rw [hX]; rfl) ?_
            simp
            have hown : ∀ l : Hl, l[8]? = some (.cells 33 (encT x)) → Rd l (.sl 33 8 0 1 1 33) (encTs (some (insAt [] 0 x))) := fun l h => by
              have h1 := own_ts (l := l) (b := 8) (n := 1) (a := [x]) (by intro t ht; simp at ht; subst ht; exact hxi) rfl (by simpa using h)
              exact h1.q.rd_enc closed_encT (some [x]) rfl rfl
            exact rd_tu2 (rd_ag1 (hown _ (by simp))) (.same _ rfl)
          · have k2' : ¬ (u o.act.kind : Int) = 2 := fun h => k2 ((e_2 o).1 h)
            by_cases k3 : o.act.kind = 3#8
            · have k3' := (e_3 o).2 k3
              have ha : appW none o b = (none, 0) := by unfold appW; rw [if_pos h0, if_pos h1, if_neg h2, if_neg k2, if_pos k3]; rfl
              rw [ha]
              simp [k2', k3']
              refine deleteT_own (j := 100) (xs := []) (p := struck o b) fn_struck (.nil 100) (by simp [okTs]) (by simp) (fun x hx => by cases hx) fun r l' hr hgx hnr => ?_
              obtain rfl := isNil_iff.1 hnr
              have q5 : l'[5]? = some (.cells 1 [.nilS]) := by rw [hgx.same 5 (by simp) (by omega)]; rfl
              have q3 : l'[3]? = some (.cells 1 [.nilS]) := by rw [hgx.same 3 (by simp) (by omega)]; rfl
              have q6 : 6 ≤ l'.length := by have := hgx.le; simpa using this
              have s5 : (l'.set 5 (.cells 1 [.nilS]))[5]? = some (.cells 1 [.nilS]) := List.getElem?_set_self (by omega)
              have s3 : (l'.set 5 (.cells 1 [.nilS]))[3]? = some (.cells 1 [.nilS]) := by rw [List.getElem?_set_ne (by omega)]; exact q3
              have s33 : ((l'.set 5 (.cells 1 [.nilS])).set 3 (.cells 1 [.nilS]))[3]? = some (.cells 1 [.nilS]) := List.getElem?_set_self (by simp; omega)
              simp [q5, s5, s3, s33]
              exact rd_eq rfl rfl
            · have k3' : ¬ (u o.act.kind : Int) = 3 := fun h => k3 ((e_3 o).1 h)
              have ha : appW none o b = (none, 0) := by unfold appW; rw [if_pos h0, if_pos h1, if_neg h2, if_neg k2, if_neg k3]
              rw [ha]
              simp [k2', k3']
              exact rd_eq rfl rfl
        · subst hsa
          obtain ⟨n, hn⟩ : ∃ n, n = a.length := ⟨_, rfl⟩
          have hn1 : n ≤ 1000000 := by rw [hn]; exact hsl
          rw [← hn]
          have hoa : ∀ (l : Hl) (b : Nat), l[b]? = some (.cells (n * 33) (a.map encT).flatten) → OwnS 33 l (.sl 33 b 0 n n (n * 33)) b (a.map encT) := fun l b h => own_ts hs hn.symm h
          have hslen : lenM (.sl 33) (.sl 33 5 0 n n (n * 33)) = some (.int .i64 n) := rfl
          by_cases k2 : o.act.kind = 2#8
          · have k2' := (e_2 o).2 k2
            have ha : appW (some a) o b = addW (some a) x := by unfold appW; rw [if_pos h0, if_pos h1, if_neg h2, if_pos k2, hx]
            have hse := search_ok (some a) hs hsl x hxi hmo
            rw [hX] at hse
            rw [ha]
            simp [k2', hDl, hspD, hspx, List.take_of_length_le]
            refine pure_callB hse (.cons ((hoa _ 5 (by rfl)).rdH_enc closed_encT (some a) rfl rfl) (.cons (.same _ (by rw [hX] at hxc; exact hxc)) (.cons (.same _ rfl) .nil))) rfl ?_
            cases hfo : foundT (Sv.l (some a : Tgs)) x with
            | true =>
              have haw : addW (some a) x = (none, 14) := by unfold addW; rw [hfo]; rfl
              rw [haw]
              simp
              exact rd_eq rfl rfl
            | false =>
              by_cases h60 : n = 60
              · have haw : addW (some a) x = (none, 18) := by
                  unfold addW; rw [hfo, if_neg (by simp), if_pos (show (Sv.l (some a)).length = 60 by rw [← h60, hn]; rfl)]
                rw [haw]
                have h60' : (n : Int) = 60 := by omega
                simp [h60]
                exact rd_eq rfl rfl
              · have haw : addW (some a) x = (some (insAt a (cntT a x) x), 0) := by
                  unfold addW; rw [hfo, if_neg (by simp), if_neg (show ¬ (Sv.l (some a)).length = 60 by rw [show (Sv.l (some a)).length = n from hn.symm]; exact h60)]; rfl
                rw [haw]
                have h60' : ¬ (n : Int) = 60 := by omega
                have hcn : cntT a x ≤ n := by rw [hn]; unfold cntT; exact (List.takeWhile_sublist _).length_le
                simp [hslen, h60', hDl, hspD, hspx, List.take_of_length_le]
                refine insT_own (b := 5) (bv := 8) (a := a) (x := x) hs hxi hn.symm rfl (by rw [hX]; rfl) (by omega) hcn hn1 ?_
                simp
                have hown : ∀ l : Hl, l[9]? = some (.cells ((n + 1) * 33) ((insAt a (cntT a x) x).map encT).flatten) → Rd l (.sl 33 9 0 (n + 1) (n + 1) ((n + 1) * 33)) (encTs (some (insAt a (cntT a x) x))) := fun l h => by
                  have h1 := own_ts (l := l) (b := 9) (n := n + 1) (a := insAt a (cntT a x) x) (insAt_ok hs hxi) (by rw [insAt_len, hn]) h
                  exact h1.q.rd_enc closed_encT (some _) rfl rfl
                exact rd_tu2 (rd_ag1 (hown _ (by simp))) (.same _ rfl)
          · have k2' : ¬ (u o.act.kind : Int) = 2 := fun h => k2 ((e_2 o).1 h)
            by_cases k3 : o.act.kind = 3#8
            · have k3' := (e_3 o).2 k3
              have ha : appW (some a) o b = (some (a.filter fun t => !struck o b t), 0) := by unfold appW; rw [if_pos h0, if_pos h1, if_neg h2, if_neg k2, if_pos k3]; rfl
              rw [ha]
              simp [k2', k3']
              refine deleteT_own (j := 5) (xs := a) (p := struck o b) fn_struck (hoa _ 5 (by rfl)) hs hsl (struck_cond o b hb hbl (bo := 1) (bb := 2) hs rfl rfl (by omega) (by omega)) fun r l' hr hgx hnr => ?_
              have hrc := hr.cells
              have q6 : l'[6]? = some (.cells 1 [.sl 33 5 0 n n (n * 33)]) := by rw [hgx.same 6 (by simp) (by omega)]; rfl
              have q3 : l'[3]? = some (.cells 1 [.nilS]) := by rw [hgx.same 3 (by simp) (by omega)]; rfl
              have q7 : 7 ≤ l'.length := by have := hgx.le; simpa using this
              have s5 : (l'.set 6 (.cells 1 [r]))[6]? = some (.cells 1 [r]) := List.getElem?_set_self (by omega)
              have s3 : (l'.set 6 (.cells 1 [r]))[3]? = some (.cells 1 [.nilS]) := by rw [List.getElem?_set_ne (by omega)]; exact q3
              have s33 : ((l'.set 6 (.cells 1 [r])).set 3 (.cells 1 [r]))[3]? = some (.cells 1 [r]) := List.getElem?_set_self (by simp; omega)
              simp [hrc, q6, s5, s3, s33, splice]
              have hr2 : OwnS 33 ((l'.set 6 (.cells 1 [r])).set 3 (.cells 1 [r])) r 5 ((a.filter fun t => !struck o b t).map encT) := hr.frame fun _ => by
                rw [List.getElem?_set_ne (by omega), List.getElem?_set_ne (by omega)]
              exact rd_tu2 (rd_ag1 (hr2.q.rd_enc closed_encT (some _) (by rw [hnr]; rfl) rfl)) (.same _ rfl)
            · have k3' : ¬ (u o.act.kind : Int) = 3 := fun h => k3 ((e_3 o).1 h)
              have ha : appW (some a) o b = (some a, 0) := by unfold appW; rw [if_pos h0, if_pos h1, if_neg h2, if_neg k2, if_neg k3]
              rw [ha]
              simp [k2', k3']
              exact rd_tu2 (rd_ag1 ((hoa _ 5 (by simp)).q.rd_enc closed_encT (some a) rfl rfl)) (.same _ rfl)
    · have ha : appW s o b = (none, 8) := by unfold appW; rw [if_pos h0, if_neg h1]
      rw [ha]
      have hspl : splice (rep 32 (.int .u8 0)) 0 ((idOf o).map e8) = (idOf o).map e8 := splice_full (by rw [List.length_map, hil]; rfl)
      simp [encOp, hbc]
      refine pure_call hck (by simp [closedL, CV.closed, hcs]) ?_
      simp [h0]
      refine pure_call hid (show closedL [CV.ag (encOp o)] = true by simp [closedL, CV.closed, hco]) ?_
      simp [h1, idC, hil, hspl, hblen]
      exact rd_eq rfl rfl
  · have ha : appW s o b = (none, tagErr s.l) := by unfold appW; rw [if_neg h0]
    rw [ha]
    simp [encOp, hbc]
    refine pure_call hck (by simp [closedL, CV.closed, hcs]) ?_
    simp [h0]
    exact rd_eq rfl rfl
end Op
end Go.CM

/-
  Sets of tags: the reference's put and Apply, walked.
-/
namespace Go.CM
open Go Go.Proofs
set_option linter.unusedVariables false
set_option linter.unusedSimpArgs false
set_option maxRecDepth 100000
namespace Op
open Sha

/-- The place to which an element sinks from the end. -/
def posR (l : List Tg) (x : Tg) : Nat → Nat
  | 0 => 0
  | i + 1 => if ltT x (tgAt l i) then posR l x i else i + 1
theorem posR_le (l : List Tg) (x : Tg) : ∀ i, posR l x i ≤ i
  | 0 => Nat.le_refl _
  | i + 1 => by
    unfold posR
    split
    · have := posR_le l x i; omega
    · exact Nat.le_refl _
def putR (l : List Tg) (x : Tg) : List Tg := insAt l (posR l x l.length) x
theorem insAt_get {l : List Tg} {i : Nat} {x : Tg} (hi : i ≤ l.length) : (insAt l i x)[i]? = some x := by
  unfold insAt
  rw [List.getElem?_append_right (by rw [List.length_take]; omega), List.length_take, Nat.min_eq_left hi]; simp
theorem insAt_lo {l : List Tg} {i k : Nat} {x : Tg} (hk : k < i) (hi : i ≤ l.length) : (insAt l i x)[k]? = l[k]? := by
  unfold insAt
  rw [List.getElem?_append_left (by rw [List.length_take]; omega), List.getElem?_take_of_lt hk]
theorem insAt_swap {l : List Tg} {i : Nat} {x y : Tg} (hy : l[i]? = some y) : ((insAt l (i + 1) x).set (i + 1) y).set i x = insAt l i x := by
  have hi := (List.getElem?_eq_some_iff.1 hy).1
  have h1 : l.take (i + 1) = l.take i ++ [y] := by rw [List.take_add_one, hy]; rfl
  have h2 : l.drop i = y :: l.drop (i + 1) := by rw [List.drop_eq_getElem_cons hi, (List.getElem?_eq_some_iff.1 hy).2]
  have hl : (l.take i).length = i := by rw [List.length_take]; omega
  unfold insAt
  rw [h1, h2, List.append_assoc]
  rw [List.set_append_right _ _ (by omega), List.set_append_right _ _ (by omega), hl]
  simp
theorem obT_get {l l1 : Hl} {v : CV} {a : List Tg} {nl : Bool} (h : Ob 33 encT l l1 v a nl) {k : Nat} {y : Tg} (hy : a[k]? = some y) :
    ∃ p cs o, iaC (.sl 33) v (.int .i64 (k : Int)) = some p ∧ reachL l1 p = some (cs, o) ∧ o + 33 ≤ cs.length ∧ (cs.drop o).take 33 = encT y := by
  obtain ⟨j, ho, _⟩ := h
  exact ho.q.get (k := .i64) (i := k) (e := encT y) (by rw [List.getElem?_map, hy]; rfl)
theorem obT_set {l l1 : Hl} {v : CV} {a : List Tg} {nl : Bool} (h : Ob 33 encT l l1 v a nl) (hz : okTs a) {k : Nat} {y : Tg} (hk : k < a.length) (hy : y.id.length = 32) :
    ∃ p l', iaC (.sl 33) v (.int .i64 (k : Int)) = some p ∧ storeL 33 l1 p (.ag (encT y)) = some l' ∧ Ob 33 encT l l' v (a.set k y) nl := by
  obtain ⟨j, ho, h2, h3, h4, h5⟩ := h
  obtain ⟨p, l', a1, a2, a3, a4, a5⟩ := ow_set (X := .ag (encT y)) rfl ho (fun t ht => encT_len (hz t ht)) hk (encT_len hy)
  refine ⟨p, l', a1, a2, j, a3, by omega, fun b hb => ?_, h4, h5⟩
  rcases h4 with h4 | h4
  · subst h4
    have := ho.q.nil_of
    rw [List.map_eq_nil_iff] at this
    rw [this] at hk; simp at hk
  · rw [a5 b (by omega)]; exact h3 b hb
theorem pushT {l l1 : Hl} {v : CV} {a : List Tg} {nl : Bool} (h : Ob 33 encT l l1 v a nl) (x : Tg) {b : Nat} (hb : l1[b]? = some (.cells 33 (encT x))) (hx : x.id.length = 32) (hroom : a.length ≤ 1000000000) :
    ∃ v' l', appM l1 33 48 v (.sl 33 b 0 1 1 33) = some (v', l') ∧ Ob 33 encT l l' v' (a ++ [x]) false ∧ l1.length ≤ l'.length := by
  have hr : roomMax = 140737488355328 := rfl
  have hxl := encT_len hx
  obtain ⟨v', l', g1, g2, g3⟩ := h.app (by_ := 48) (x := .sl 33 b 0 1 1 33) (xs := [x]) (by simp [contentsL, hb, hxl, List.take_of_length_le]) (by simp [hxl]) (by omega) (by omega) (by rw [hr]; simp; omega)
  exact ⟨v', l', g1, by simpa using g2, g3⟩
theorem contents_Ts (l : Hl) (s : Tgs) : contentsL l 33 (encTs s) = some ((s.l.map encT).flatten, s.l.length) := contents_encS l 33 encT s
structure PutI (l : Hl) (a : List Tg) (x : Tg) (m : Nat) (σ : Sg) (l1 : Hl) : Prop where
  ex : ∃ (i : Nat) (v : CV), i = m ∧ i ≤ a.length ∧ σ 5 = v ∧ σ 6 = .int .i64 (i : Int) ∧ Ob 33 encT l l1 v (insAt a i x) false ∧ posR a x i = posR a x a.length
theorem rPut_ok (s : Tgs) (hs : okTs s.l) (hsl : s.l.length ≤ 1000000) (x : Tg) (hx : x.id.length = 32) : PureC Tryz.prog GS 46 [encTs s, .ag (encT x)] (encTs (some (putR s.l x))) := by
  refine pure_of Tryz.checked.mixed GS_closed ?_
  apply call_intro c46_eq r46_eq
  unfold c46 r46
  have hxl := encT_len hx
  have hr : roomMax = 140737488355328 := rfl
  obtain ⟨X, hX⟩ : ∃ X, X = encT x := ⟨_, rfl⟩
  have hsp := spT (E := X) (by rw [hX]; exact hxl)
  have hown0 : OwnS 33 [CB.cells 33 X, CB.cells 0 [], CB.cells 33 X] (.sl 33 1 0 0 0 0) 1 [] := .sl 1 0 0 0 [] [] rfl rfl rfl (by simp) (Nat.le_refl _) (by omega) rfl
  obtain ⟨v1, j1, l1, a1, b1, c1, d1, e1, f1⟩ := appS hown0 (by_ := 48) (x := encTs s) (xs := s.l.map encT) (by rw [List.length_map]; exact contents_Ts _ s) (fun e he => by obtain ⟨y, hy, rfl⟩ := List.mem_map.1 he; exact encT_len (hs y hy)) (by omega) (by omega) (by rw [hr]; simp; omega)
  simp at c1
  have hj1 : j1 = 1 ∨ 3 ≤ j1 := by
    rcases e1 with h | ⟨_, h⟩ | h
    · exact .inr h
    · exact .inl h
    · rw [h] at f1; cases f1
  have q0 : l1[0]? = some (.cells 33 X) := by rw [d1 0 (by simp) (.inr (by omega))]; rfl
  have q2 : l1[2]? = some (.cells 33 X) := by rw [d1 2 (by simp) (.inr (by omega))]; rfl
  have b1' : Ob 33 encT [CB.cells 33 X] l1 v1 s.l false := ⟨j1, by simpa using b1, by simp; omega, fun b hb => by
    obtain rfl : b = 0 := by simpa using hb
    rw [q0]; rfl, .inr (by simp; omega), f1⟩
  obtain ⟨v2, l2, a2, b2, c2⟩ := pushT b1' x (b := 2) (by rw [← hX]; exact q2) hx (by omega)
  rw [← hX] at hxl ⊢
  simp [hxl, hsp, List.take_of_length_le, a1]
  refine AppK.keep ?_
  simp [q0, q2, hxl, List.take_of_length_le, a2]
  refine AppK.keep ?_
  have hlen2 := b2.len
  have e3 : IntKind.i64.wrap ((s.l.length : Int) + 1 - 1) = (s.l.length : Int) := by rw [IntKind.wrap_i64]; omega
  have e4 : IntKind.i64.wrap (s.l.length : Int) = (s.l.length : Int) := by rw [IntKind.wrap_i64]; omega
  have h0 : insAt s.l s.l.length x = s.l ++ [x] := by unfold insAt; simp
  simp [hlen2, e3, e4]
  rw [← h0] at b2
  refine loop_fall (PutI [CB.cells 33 X] s.l x) ?_ s.l.length _ _ ⟨s.l.length, v2, rfl, Nat.le_refl _, by simp, by simp, b2, rfl⟩
  rintro m σ l3 ⟨i, v, rfl, hil, g5, g6, hob, hpo⟩
  obtain ⟨σ, rfl⟩ := upds2 g5 g6
  clear g5 g6
  unfold l46_0
  have hxi : (insAt s.l i x)[i]? = some x := insAt_get hil
  have hfin : ∀ (K : CV → Hl → Prop), posR s.l x i = i → insAt s.l i x = putR s.l x := fun K h => by unfold putR; rw [← hpo, h]
  rcases i with _ | i
  · simp
    have := hfin (fun _ _ => True) rfl
    rw [this] at hob
    exact hob.rd closed_encT (some _) rfl rfl
  · obtain ⟨y, hy, hym⟩ := get_of (l := s.l) (k := i) (by omega)
    have hyx : (insAt s.l (i + 1) x)[i]? = some y := by rw [insAt_lo (by omega) hil]; exact hy
    obtain ⟨p1, c1, o1, x1, x2, x3, x4⟩ := obT_get hob hxi
    obtain ⟨p2, c2, o2, y1, y2, y3, y4⟩ := obT_get hob hyx
    have w1 : IntKind.i64.wrap ((i : Int) + 1 - 1) = (i : Int) := by rw [IntKind.wrap_i64]; omega
    have w2 : IntKind.i64.wrap (i : Int) = (i : Int) := by rw [IntKind.wrap_i64]; omega
    have hpos : (0 : Int) < (i : Int) + 1 := by omega
    have hle := lessT_ok x y hx (hs y hym)
    have hyl := encT_len (hs y hym)
    have hxc := closed_encT x
    have hyc := closed_encT y
    have hps : posR s.l x (i + 1) = if ltT x y then posR s.l x i else i + 1 := by
      show (if ltT x (tgAt s.l i) then posR s.l x i else i + 1) = _
      rw [tgAt_get hy]
    have hz := insAt_ok (i := i + 1) hs hx
    have hin : (insAt s.l (i + 1) x).length = s.l.length + 1 := insAt_len _ _ _
    obtain ⟨p3, l4, u1, u2, hob4⟩ := obT_set hob hz (k := i + 1) (y := y) (by omega) (hs y hym)
    have hz4 : okTs ((insAt s.l (i + 1) x).set (i + 1) y) := fun t ht => by
      rcases List.mem_or_eq_of_mem_set ht with h | h
      · exact hz t h
      · rw [h]; exact hs y hym
    obtain ⟨p4, l5, t1, t2, hob5⟩ := obT_set hob4 hz4 (k := i) (y := x) (by simp; omega) hx
    rw [insAt_swap hy] at hob5
    rw [← hX] at x4 hle hxc t2
    obtain ⟨Y, hY⟩ : ∃ Y, Y = encT y := ⟨_, rfl⟩
    rw [← hY] at y4 hle hyl hyc u2
    simp at x1 u1
    rw [x1] at u1
    obtain rfl := Option.some.inj u1
    rw [y1] at t1
    obtain rfl := Option.some.inj t1
    simp [hpos, x1, x2, x3, x4, y1, y2, y3, y4, w1, w2]
    refine pure_call hle (by simp [closedL, CV.closed, hxc, hyc]) ?_
    cases h5 : ltT x y with
    | true =>
      rw [h5, if_pos rfl] at hps
      simp [x1, x2, x3, x4, y1, y2, y3, y4, w1, w2, u2, t2]
      exact ⟨i, by omega, i, v, rfl, by omega, by simp, by simp, hob5, by rw [← hps]; exact hpo⟩
    | false =>
      rw [h5, if_neg (by simp)] at hps
      simp
      have := hfin (fun _ _ => True) hps
      rw [this] at hob
      exact hob.rd closed_encT (some _) rfl rfl
end Op
end Go.CM

/-
  Sets of tags: the reference's Apply, walked.
-/
namespace Go.CM
open Go Go.Proofs
set_option linter.unusedVariables false
set_option linter.unusedSimpArgs false
set_option maxRecDepth 100000
namespace Op
open Sha

def addR (s : Tgs) (x : Tg) : Tgs × Int := if x ∈ s.l then (none, 14) else if s.l.length = 60 then (none, 18) else (some (putR s.l x), 0)
def keepR (o : Opr) (b : Ids) (t : Tg) : Bool := decide (¬ o.act.kind = 3#8) || (decide (¬ t.key = o.act.key) || !decide (t.id ∈ b.l))
def svOf (l : List Tg) : Tgs := match l with | [] => none | a :: r => some (a :: r)
theorem svOf_l (l : List Tg) : (svOf l).l = l := by cases l <;> rfl
theorem svOf_none (l : List Tg) : (svOf l).isNone = l.isEmpty := by cases l <;> rfl
def appR (s : Tgs) (o : Opr) (b : Ids) : Tgs × Int :=
  if tagErr s.l = 0 then (if opErr o = 0 then (if 60 < b.l.length then (none, 4) else
    (if o.act.kind = 2#8 then addR s ⟨o.act.key, idOf o⟩ else (svOf (s.l.filter (keepR o b)), 0))) else (none, 8)) else (none, tagErr s.l)
structure AddI (s : Tgs) (x : Tg) (L : Hl) (k : Nat) (σ : Sg) (l : Hl) : Prop where
  hl : l = L
  g3 : σ 3 = .ptr 0 0 1
  g6 : σ 6 = .ptr 2 0 1
  g8 : σ 8 = .ptr 3 0 33
  g9 : σ 9 = .int .i64 k
  hs : ∀ (j : Nat) (t : Tg), j < k → s.l[j]? = some t → t ≠ x
structure StrH (s : Tgs) (o : Opr) (b : Ids) (k : Nat) (l : Hl) : Prop where
  ex : ∃ v j, l[3]? = some (.cells 1 [v]) ∧ OwnS 33 l v j (((s.l.take k).filter (keepR o b)).map encT) ∧ (v = .nilS ∨ 4 ≤ j) ∧ isNilS v = ((s.l.take k).filter (keepR o b)).isEmpty
  len : 4 ≤ l.length
  p0 : l[0]? = some (.cells 1 [encTs s])
  p1 : l[1]? = some (.cells 11 (encOp o))
  p2 : l[2]? = some (.cells 1 [.nilS])
structure StrI (s : Tgs) (o : Opr) (b : Ids) (k : Nat) (σ : Sg) (l : Hl) : Prop where
  g2 : σ 2 = encIds b
  g3 : σ 3 = .ptr 0 0 1
  g4 : σ 4 = .ptr 1 0 11
  g6 : σ 6 = .ptr 2 0 1
  g10 : σ 10 = .ptr 3 0 1
  g11 : σ 11 = .int .i64 k
  h : StrH s o b k l
theorem keep_step {p : Tg → Bool} {l : List Tg} {k : Nat} {y : Tg} (h : l[k]? = some y) : (l.take (k + 1)).filter p = (l.take k).filter p ++ (if p y then [y] else []) := by
  rw [List.take_add_one, h, List.filter_append]
  cases hp : p y <;> simp [hp]
theorem opWords (o : Opr) : encOp o = [e32 o.author, encIds o.preds, e64 o.stamp, e8 o.act.kind, .str o.act.key, e8 o.act.val.kind, .int .i64 o.act.val.num, e64 o.act.val.bits, .str o.act.val.text, e32 o.e, e32 o.s] := rfl
set_option maxHeartbeats 1000000 in
theorem rApply_ok (s : Tgs) (o : Opr) (b : Ids) (hs : okTs s.l) (hsl : s.l.length ≤ 1000000) (ho : OkOp o) (hb : okIds b) (hbl : b.l.length ≤ 1000000) :
    PureC Tryz.prog GS 12 [.ag [encTs s], .ag (encOp o), encIds b] (.tu [.ag [encTs (appR s o b).1], .int .i64 (appR s o b).2]) := by
  refine pure_of Tryz.checked.mixed GS_closed ?_
  apply call_intro c12_eq r12_eq
  unfold c12 r12
  have hcs := closed_Ts s
  have hco := closed_op o
  have hcb := closed_ids b
  have hck := rTCheck_ok s hs hsl
  have hoc := rOpCheck_ok o ho
  have hil := idOf_len o
  have hblen : lenM (.sl 32) (encIds b) = some (.int .i64 b.l.length) := by simp [encIds]
  have hslen : lenM (.sl 33) (encTs s) = some (.int .i64 s.l.length) := by simp [encTs]
  have hcop : closedL [CV.ag (encOp o)] = true := by simp [closedL, CV.closed, hco]
  by_cases h0 : tagErr s.l = 0
  · by_cases h1 : opErr o = 0
    · simp [encOp]
      refine pure_call hck (by simp [closedL, CV.closed, hcs]) ?_
      simp [h0]
      refine pure_call hoc hcop ?_
      simp [h1, hblen]
      by_cases h2 : 60 < b.l.length
      · have h2' : (60 : Int) < (b.l.length : Int) := by omega
        have ha : appR s o b = (none, 4) := by unfold appR; rw [if_pos h0, if_pos h1, if_pos h2]
        rw [ha]
        simp [h2']
        exact rd_eq rfl rfl
      · have h2' : ¬ (60 : Int) < (b.l.length : Int) := by omega
        simp [h2']
        have hgd := (good_err h0).2
        by_cases k2 : o.act.kind = 2#8
        · have k2' := (e_2 o).2 k2
          obtain ⟨x, hx⟩ : ∃ x : Tg, x = ⟨o.act.key, idOf o⟩ := ⟨_, rfl⟩
          have ha : appR s o b = addR s x := by unfold appR; rw [if_pos h0, if_pos h1, if_neg h2, if_pos k2, hx]
          rw [ha]
          have hxi : x.id.length = 32 := by rw [hx]; exact hil
          have hof := rOf6_ok o ho (by have := opErr_len h1; omega)
          have hide : idOf o = sha (opBytes o) := by unfold idOf; rw [if_pos h1]
          rw [← hide] at hof
          obtain ⟨D, hD⟩ : ∃ D, D = (idOf o).map e8 := ⟨_, rfl⟩
          have hDl : D.length = 32 := by rw [hD, List.length_map, hil]
          unfold idC at hof
          rw [← hD] at hof
          have hX : encT x = .str o.act.key :: D := by rw [hx, hD]; rfl
          have hspx := spT (E := .str o.act.key :: D) (by simp [hDl])
          simp [k2']
          refine pure_call hof hcop ?_
          have hspD : splice (rep 32 (.int .u8 0)) 0 D = D := splice_full (by rw [hDl]; rfl)
          simp [hDl, hspD, hspx, List.take_of_length_le]
          rw [← opWords o, ← hX]
          obtain ⟨L, hL⟩ : ∃ L, L = [CB.cells 1 [encTs s], CB.cells 11 (encOp o), CB.cells 1 [.nilS], CB.cells 33 (encT x)] := ⟨_, rfl⟩
          rw [← hL]
          have q0 : L[0]? = some (.cells 1 [encTs s]) := by rw [hL]; rfl
          have q2 : L[2]? = some (.cells 1 [.nilS]) := by rw [hL]; rfl
          have q3 : L[3]? = some (.cells 33 (encT x)) := by rw [hL]; rfl
          have hLl : L.length = 4 := by rw [hL]; rfl
          have hs2 : ∀ c : CB, (L.set 2 c)[2]? = some c := fun c => List.getElem?_set_self (by omega)
          have hXl := encT_len hxi
          have hput := rPut_ok s hs hsl x hxi
          have hxc := closed_encT x
          obtain ⟨X, hXX⟩ : ∃ X, X = encT x := ⟨_, rfl⟩
          have heq : ∀ y ∈ s.l, binC Tryz.prog .eql 77 (.ag (encT y)) (.ag X) = some (.bool (decide (y = x))) := fun y hy => by rw [hXX]; exact tEql (hs y hy) hxi
          rw [← hXX] at q3 hXl hput hxc
          refine loop_up s.l.length (AddI s x L) ?_ ⟨rfl, by simp, by simp, by simp, by simp, fun j t h => by omega⟩
          rintro k σ l hk ⟨rfl, g3, g6, g8, g9, hss⟩
          obtain ⟨σ, rfl⟩ := upds4 g3 g6 g8 g9
          clear g3 g6 g8 g9
          unfold l12_0
          simp [q0, hslen]
          refine kIf_intro (fun h => ?_) (fun h => ?_)
          · simp only [decide_eq_true_eq] at h
            obtain ⟨y, hy, hym⟩ := get_of (l := s.l) (k := k) (by omega)
            have e1 : IntKind.i64.wrap ((k : Int) + 1) = ((k + 1 : Nat) : Int) := by rw [IntKind.wrap_i64]; omega
            have hia : iaC (.sl 33) (encTs s) (.int .i64 (k : Int)) = some (.rptr (encT y) 0) := by simp [encTs, hy]
            have hyl := encT_len (hs y hym)
            have heqy := heq y hym
            obtain ⟨Y, hY⟩ : ∃ Y, Y = encT y := ⟨_, rfl⟩
            rw [← hY] at hia hyl heqy
            simp [q0, hia, hyl, q3, hXl, heqy, List.take_of_length_le]
            by_cases he : y = x
            · have haw : addR s x = (none, 14) := by unfold addR; rw [if_pos (by rw [← he]; exact hym)]
              rw [haw]
              simp [he, q2, hs2]
              exact rd_eq rfl rfl
            · simp [he, e1]
              refine ⟨by omega, rfl, by simp, by simp, by simp, by simp, fun j z hj hz => ?_⟩
              by_cases hjk : j = k
              · rw [hjk, hy] at hz; obtain rfl := Option.some.inj hz; exact he
              · exact hss j z (by omega) hz
          · have hk2 : k = s.l.length := by simp at h; omega
            have hnm : ¬ x ∈ s.l := fun hm => by
              obtain ⟨j, hj⟩ := List.mem_iff_getElem?.1 hm
              exact hss j x (by rw [hk2]; exact (List.getElem?_eq_some_iff.1 hj).1) hj rfl
            by_cases h60 : s.l.length = 60
            · have haw : addR s x = (none, 18) := by unfold addR; rw [if_neg hnm, if_pos h60]
              rw [haw]
              have h60' : (s.l.length : Int) = 60 := by omega
              simp [h, q0, hslen, h60, q2, hs2]
              exact rd_eq rfl rfl
            · have haw : addR s x = (some (putR s.l x), 0) := by unfold addR; rw [if_neg hnm, if_neg h60]
              rw [haw]
              have h60' : ¬ (s.l.length : Int) = 60 := by omega
              have hpc := closed_Ts (some (putR s.l x))
              simp [h, q0, hslen, h60, h60', q3, hXl, List.take_of_length_le]
              refine pure_call hput (by simp [closedL, CV.closed, hcs, hxc]) ?_
              have hcel : (encTs (some (putR s.l x))).cells = some [encTs (some (putR s.l x))] := rfl
              simp [hcel, q2, hs2, splice]
              exact rd_eq rfl (by simp [CV.closed, closedL, hpc])
        · have k2' : ¬ (u o.act.kind : Int) = 2 := fun h => k2 ((e_2 o).1 h)
          have ha : appR s o b = (svOf (s.l.filter (keepR o b)), 0) := by unfold appR; rw [if_pos h0, if_pos h1, if_neg h2, if_neg k2]
          rw [ha]
          simp [k2']
          rw [← opWords o]
          refine loop_up s.l.length (StrI s o b) ?_ ⟨by simp, by simp, by simp, by simp, by simp, by simp, ⟨⟨.nilS, 0, rfl, .nil 0, .inl rfl, rfl⟩, by simp, rfl, rfl, rfl⟩⟩
          rintro k σ l hk ⟨g2, g3, g4, g6, g10, g11, ⟨⟨v, j, q3, hown, hvj, hvn⟩, hlen, q0, q1, q2⟩⟩
          obtain ⟨σ, rfl⟩ := upds6 g2 g3 g4 g6 g10 g11
          clear g2 g3 g4 g6 g10 g11
          unfold l12_1
          simp [q0, hslen]
          refine kIf_intro (fun h => ?_) (fun h => ?_)
          · simp only [decide_eq_true_eq] at h
            obtain ⟨y, hy, hym⟩ := get_of (l := s.l) (k := k) (by omega)
            have e1 : IntKind.i64.wrap ((k : Int) + 1) = ((k + 1 : Nat) : Int) := by rw [IntKind.wrap_i64]; omega
            have hia : iaC (.sl 33) (encTs s) (.int .i64 (k : Int)) = some (.rptr (encT y) 0) := by simp [encTs, hy]
            have hyl := encT_len (hs y hym)
            have hks := keep_step (p := keepR o b) hy
            have hin := rIn_ok b hb hbl y.id (hs y hym)
            have hyi := closed_eId y.id
            obtain ⟨E, hE⟩ : ∃ E, E = eId y.id := ⟨_, rfl⟩
            have hET : encT y = .str y.key :: E := by rw [hE]; rfl
            have hEl : E.length = 32 := by rw [hE]; exact eId_len (hs y hym)
            have hsp := spT (E := .str y.key :: E) (by simp [hEl])
            have hspE : splice (rep 32 (.int .u8 0)) 0 E = E := splice_full (by rw [hEl]; rfl)
            rw [← hE] at hin hyi
            rw [hET] at hia
            obtain ⟨l2, hl2⟩ : ∃ l2, l2 = l ++ [CB.cells 33 (.str y.key :: E)] := ⟨_, rfl⟩
            have f0 : l2[0]? = some (.cells 1 [encTs s]) := by rw [hl2, List.getElem?_append_left (by omega)]; exact q0
            have f1 : l2[1]? = some (.cells 11 (encOp o)) := by rw [hl2, List.getElem?_append_left (by omega)]; exact q1
            have f2 : l2[2]? = some (.cells 1 [.nilS]) := by rw [hl2, List.getElem?_append_left (by omega)]; exact q2
            have f3 : l2[3]? = some (.cells 1 [v]) := by rw [hl2, List.getElem?_append_left (by omega)]; exact q3
            have f4 : l2[l.length]? = some (.cells 33 (.str y.key :: E)) := by rw [hl2]; simp
            have f5 : 4 ≤ l2.length := by rw [hl2]; simp; omega
            have hown2 : OwnS 33 l2 v j (((s.l.take k).filter (keepR o b)).map encT) := by rw [hl2]; exact hown.more _
            have f1' := f1
            simp [encOp] at f1'
            have hr : roomMax = 140737488355328 := rfl
            have hfl : ((s.l.take k).filter (keepR o b)).length ≤ 1000000 := by
              have := List.length_filter_le (keepR o b) (s.l.take k)
              rw [List.length_take] at this; omega
            obtain ⟨v', j', l3, a1, b1, c1, d1, e1', f1x⟩ := appS (hown2.more [CB.cells 33 (.str y.key :: E)]) (by_ := 48) (x := .sl 33 l2.length 0 1 1 33) (xs := [encT y]) (by simp [contentsL, hET, hEl, List.take_of_length_le]) (by simp [hyl]) (by omega) (by omega) (by rw [hr]; simp; omega)
            simp at c1
            have hvc := hown.cells
            have g1 : ∀ b, b < 4 → l3[b]? = l2[b]? := fun b hb => by
              rw [d1 b (by simp; omega) (hvj.imp id (fun h => by omega)), List.getElem?_append_left (by omega)]
            have hv'c := b1.cells
            have hj' : v' = .nilS ∨ 4 ≤ j' := by
              rcases e1' with h | ⟨h, h'⟩ | h
              · exact .inr (by simp at h; omega)
              · rcases hvj with h2 | h2
                · exact absurd h2 h
                · exact .inr (by omega)
              · exact .inl h
            have hset : ∀ c : CB, (l3.set 3 c)[3]? = some c := fun c => List.getElem?_set_self (by omega)
            have hkeep : keepR o b y = true → StrH s o b (k + 1) (l3.set 3 (.cells 1 [v'])) := fun hkp => by
              rw [hkp, if_pos rfl] at hks
              refine ⟨⟨v', j', hset _, ?_, hj', ?_⟩, by simp; omega, ?_, ?_, ?_⟩
              · rw [hks, List.map_append]
                refine b1.frame2 (hj'.imp id fun h => by rw [List.getElem?_set_ne (by omega)])
              · rw [f1x, hvn, hks]; simp
              · rw [List.getElem?_set_ne (by omega), g1 0 (by omega)]; exact f0
              · rw [List.getElem?_set_ne (by omega), g1 1 (by omega)]; exact f1
              · rw [List.getElem?_set_ne (by omega), g1 2 (by omega)]; exact f2
            simp [q0, hia, hEl, hsp, List.take_of_length_le]
            rw [← hl2]
            have hskip : keepR o b y = false → StrH s o b (k + 1) l2 := fun hkp => by
              rw [hkp, if_neg (by simp), List.append_nil] at hks
              exact ⟨⟨v, j, f3, by rw [hks]; exact hown2, hvj, by rw [hks]; exact hvn⟩, f5, f0, f1, f2⟩
            by_cases k3 : o.act.kind = 3#8
            · have k3' := (e_3 o).2 k3
              by_cases hke : y.key = o.act.key
              · simp [f1', k3', f4, hke, hEl, List.take_of_length_le]
                refine pure_call hin (by simp [closedL, CV.closed, hcb, hyi]) ?_
                by_cases hmem : y.id ∈ b.l
                · have hkp : keepR o b y = false := by unfold keepR; simp [hke, k3, hmem]
                  have K1 := hskip hkp
                  simp [hmem, e1]
                  exact ⟨by omega, by simp, by simp, by simp, by simp, by simp, by simp, K1⟩
                · have hkp : keepR o b y = true := by unfold keepR; simp [hmem]
                  have K1 := hkeep hkp
                  simp [hmem, f3, f4, hEl, hvc, hspE, List.take_of_length_le, a1]
                  refine AppK.keep ?_
                  have r3 : l3[3]? = some (.cells 1 [v]) := by rw [g1 3 (by omega)]; exact f3
                  simp [hv'c, r3, splice, e1]
                  exact ⟨by omega, by simp, by simp, by simp, by simp, by simp, by simp, K1⟩
              · have hkp : keepR o b y = true := by unfold keepR; simp [hke]
                have K1 := hkeep hkp
                simp [f1', k3', f4, hke, f3, hEl, hvc, hspE, List.take_of_length_le, a1]
                refine AppK.keep ?_
                have r3 : l3[3]? = some (.cells 1 [v]) := by rw [g1 3 (by omega)]; exact f3
                simp [hv'c, r3, splice, e1]
                exact ⟨by omega, by simp, by simp, by simp, by simp, by simp, by simp, K1⟩
            · have k3' : ¬ (u o.act.kind : Int) = 3 := fun h => k3 ((e_3 o).1 h)
              have hkp : keepR o b y = true := by unfold keepR; simp [k3]
              simp [f1', k3', f3, f4, hEl, hvc, hspE, List.take_of_length_le, a1]
              refine AppK.keep ?_
              have K1 := hkeep hkp
              have r3 : l3[3]? = some (.cells 1 [v]) := by rw [g1 3 (by omega)]; exact f3
              simp [hv'c, r3, splice, e1]
              exact ⟨by omega, by simp, by simp, by simp, by simp, by simp, by simp, K1⟩
          · simp [h]
            have hk2 : k = s.l.length := by simp at h; omega
            rw [hk2, List.take_length] at hown hvn
            have hset : ∀ c : CB, (l.set 2 c)[2]? = some c := fun c => List.getElem?_set_self (by omega)
            have hown2 : ∀ c : CB, OwnS 33 (l.set 2 c) v j ((s.l.filter (keepR o b)).map encT) := fun c => hown.frame2 (hvj.imp id fun h => by rw [List.getElem?_set_ne (by omega)])
            simp [q3, q2, hset]
            exact rd_tu2 (rd_ag1 ((hown2 _).q.rd_enc closed_encT (svOf (s.l.filter (keepR o b))) (by rw [hvn, svOf_none]) (svOf_l _))) (.same _ rfl)
    · have ha : appR s o b = (none, 8) := by unfold appR; rw [if_pos h0, if_neg h1]
      rw [ha]
      simp [encOp]
      refine pure_call hck (by simp [closedL, CV.closed, hcs]) ?_
      simp [h0]
      refine pure_call hoc hcop ?_
      simp [h1]
      exact rd_eq rfl rfl
  · have ha : appR s o b = (none, tagErr s.l) := by unfold appR; rw [if_neg h0]
    rw [ha]
    simp [encOp]
    refine pure_call hck (by simp [closedL, CV.closed, hcs]) ?_
    simp [h0]
    refine pure_call hck (by simp [closedL, CV.closed, hcs]) ?_
    simp
    exact rd_eq rfl rfl
end Op
end Go.CM

/-
  Sets of tags: both ways agree, in plain words.
-/
namespace Go.CM
open Go Go.Proofs
set_option linter.unusedVariables false
set_option linter.unusedSimpArgs false
set_option maxRecDepth 100000
namespace Op
open Sha

theorem posR_hi (l : List Tg) (x : Tg) : ∀ (n i : Nat), posR l x n ≤ i → i < n → ltT x (tgAt l i) = true
  | 0, i, _, h => by omega
  | n + 1, i, h1, h2 => by
    unfold posR at h1
    split at h1
    · rename_i h
      by_cases hi : i = n
      · rw [hi]; exact h
      · exact posR_hi l x n i h1 (by omega)
    · omega
theorem posR_lo (l : List Tg) (x : Tg) : ∀ (n i : Nat), posR l x n = i + 1 → ltT x (tgAt l i) = false
  | 0, i, h => by cases h
  | n + 1, i, h1 => by
    unfold posR at h1
    split at h1
    · exact posR_lo l x n i h1
    · rename_i h
      obtain rfl : n = i := by omega
      exact Bool.eq_false_iff.2 h
theorem pos_cnt {l : List Tg} {x : Tg} (hg : goodTs l = true) (hx : x ∉ l) : posR l x l.length = cntT l x := by
  refine (cnt_of x (posR_le l x l.length) (fun t y ht hy => ?_) (fun y hy => ?_)).symm
  · obtain ⟨i, hi⟩ : ∃ i, posR l x l.length = i + 1 := ⟨posR l x l.length - 1, by omega⟩
    have hle := posR_le l x l.length
    obtain ⟨z, hz, hzm⟩ := get_of (l := l) (k := i) (by omega)
    have h1 := posR_lo l x l.length i hi
    rw [tgAt_get hz] at h1
    have h2 := ltT_tri h1 (fun h => hx (by rw [h]; exact hzm))
    exact good_mono hg x t i y z (by omega) hy hz h2
  · have hlt := (List.getElem?_eq_some_iff.1 hy).1
    have h1 := posR_hi l x l.length _ (Nat.le_refl _) hlt
    rw [tgAt_get hy] at h1
    cases h2 : ltT y x with
    | false => rfl
    | true => have := ltT_trans h1 h2; rw [ltT_irrefl] at this; cases this
theorem found_iff {l : List Tg} {x : Tg} (hg : goodTs l = true) : foundT l x = true ↔ x ∈ l := by
  unfold foundT
  rw [Bool.and_eq_true, decide_eq_true_eq, decide_eq_true_eq]
  constructor
  · rintro ⟨h1, h2⟩
    obtain ⟨z, hz, hzm⟩ := get_of (l := l) (k := cntT l x) h1
    rw [tgAt_get hz] at h2
    rw [← h2]; exact hzm
  · intro hm
    obtain ⟨j, hj⟩ := List.mem_iff_getElem?.1 hm
    have hlt := (List.getElem?_eq_some_iff.1 hj).1
    have hc := cnt_of x (l := l) (p := j) (by omega) (fun t y ht hy => good_lt hg (d := j - t - 1) hy (by rw [show t + (j - t - 1) + 1 = j by omega]; exact hj)) (fun y hy => by
      rw [hj] at hy; obtain rfl := Option.some.inj hy; exact ltT_irrefl _)
    rw [hc]
    exact ⟨hlt, tgAt_get hj⟩
theorem add_same (s : Tgs) (x : Tg) (hg : goodTs s.l = true) : (addW s x).1.l = (addR s x).1.l ∧ (addW s x).2 = (addR s x).2 := by
  unfold addW addR
  have hf := found_iff (x := x) hg
  by_cases hm : x ∈ s.l
  · rw [hf.2 hm, if_pos rfl, if_pos hm]; exact ⟨rfl, rfl⟩
  · have hff : foundT s.l x = false := by
      cases h : foundT s.l x with
      | false => rfl
      | true => exact absurd (hf.1 h) hm
    rw [hff, if_neg (by simp), if_neg hm]
    split
    · exact ⟨rfl, rfl⟩
    · refine ⟨?_, rfl⟩
      show insAt s.l (cntT s.l x) x = putR s.l x
      unfold putR
      rw [pos_cnt hg hm]
theorem app_same (s : Tgs) (o : Opr) (b : Ids) : (appW s o b).1.l = (appR s o b).1.l ∧ (appW s o b).2 = (appR s o b).2 := by
  unfold appW appR
  by_cases h0 : tagErr s.l = 0
  · rw [if_pos h0, if_pos h0]
    have hg := (good_err h0).2
    by_cases h1 : opErr o = 0
    · rw [if_pos h1, if_pos h1]
      by_cases h2 : 60 < b.l.length
      · rw [if_pos h2, if_pos h2]; exact ⟨rfl, rfl⟩
      · rw [if_neg h2, if_neg h2]
        by_cases k2 : o.act.kind = 2#8
        · rw [if_pos k2, if_pos k2]; exact add_same s _ hg
        · rw [if_neg k2, if_neg k2]
          by_cases k3 : o.act.kind = 3#8
          · rw [if_pos k3]
            refine ⟨?_, rfl⟩
            have hks : ∀ t, keepR o b t = !struck o b t := fun t => by
              unfold keepR struck
              by_cases e1 : t.key = o.act.key <;> by_cases e2 : t.id ∈ b.l <;> simp [k3, e1, e2]
            rw [svOf_l]
            show (svMap (fun l => l.filter fun t => !struck o b t) s).l = _
            cases s with
            | none => rfl
            | some a =>
              show a.filter (fun t => !struck o b t) = a.filter (keepR o b)
              congr 1
              funext t; exact (hks t).symm
          · rw [if_neg k3]
            refine ⟨?_, rfl⟩
            rw [svOf_l]
            show s.l = _
            rw [List.filter_eq_self.2]
            intro t _
            unfold keepR; simp [k3]
    · rw [if_neg h1, if_neg h1]; exact ⟨rfl, rfl⟩
  · rw [if_neg h0, if_neg h0]; exact ⟨rfl, rfl⟩
/-- Keys do not fall. -/
theorem key_le {a b : Tg} (h : ltT a b = true) : a.key = b.key ∨ sLt a.key b.key = true := by
  unfold ltT at h
  by_cases e : a.key = b.key
  · exact .inl e
  · rw [if_neg e] at h; exact .inr h
theorem key_new {l : List Tg} (hg : goodTs l = true) {k : Nat} {y : Tg} (hy : l[k]? = some y) : hasK (l.take k) y.key = true ↔ ∃ x, 1 ≤ k ∧ l[k - 1]? = some x ∧ x.key = y.key := by
  constructor
  · intro h
    unfold hasK at h
    rw [decide_eq_true_eq] at h
    obtain ⟨z, hz, hzk⟩ := List.mem_map.1 h
    obtain ⟨i, hi⟩ := List.mem_iff_getElem?.1 hz
    have hil := (List.getElem?_eq_some_iff.1 hi).1
    rw [List.length_take] at hil
    rw [List.getElem?_take_of_lt (by omega)] at hi
    have hk1 : 1 ≤ k := by omega
    have hkl := (List.getElem?_eq_some_iff.1 hy).1
    obtain ⟨x, hx, _⟩ := get_of (l := l) (k := k - 1) (by omega)
    refine ⟨x, hk1, hx, ?_⟩
    have h1 := key_le (good_step hg hx (by rw [show k - 1 + 1 = k by omega]; exact hy))
    rcases h1 with h1 | h1
    · exact h1
    · exfalso
      by_cases hik : i = k - 1
      · rw [hik, hx] at hi; obtain rfl := Option.some.inj hi
        rw [hzk, sLt_irrefl] at h1; cases h1
      · have h2 := key_le (good_lt hg (d := k - 1 - i - 1) hi (by rw [show i + (k - 1 - i - 1) + 1 = k - 1 by omega]; exact hx))
        rcases h2 with h2 | h2
        · rw [← h2, hzk, sLt_irrefl] at h1; cases h1
        · have := sLt_trans h2 h1
          rw [hzk, sLt_irrefl] at this; cases this
  · rintro ⟨x, hk1, hx, hxk⟩
    exact hasK_true (List.mem_iff_getElem?.2 ⟨k - 1, by rw [List.getElem?_take_of_lt (by omega)]; exact hx⟩) hxk
theorem kAt_map {l : List Tg} {k : Nat} {y : Tg} (hy : l[k]? = some y) : kAt (l.map Tg.key) k = y.key := by
  unfold kAt; rw [List.getD_eq_getElem?_getD, List.getElem?_map, hy]; rfl
theorem keys_same_n {l : List Tg} (hg : goodTs l = true) : ∀ m, m ≤ l.length → ddKN (l.map Tg.key) m = rKsN l m
  | 0, _ => rfl
  | m + 1, h => by
    obtain ⟨y, hy, _⟩ := get_of (l := l) (k := m) (by omega)
    rw [ddKN_succ, rKsN_succ, keys_same_n hg m (by omega), kAt_map hy, tgAt_get hy]
    congr 1
    have hn := key_new hg hy
    by_cases hh : hasK (l.take m) y.key = true
    · rw [if_pos hh]
      obtain ⟨x, hk1, hx, hxk⟩ := hn.1 hh
      rw [if_neg]
      rintro (h0 | h0)
      · omega
      · exact h0 (by rw [kAt_map hx, hxk])
    · rw [if_neg hh, if_pos]
      by_cases h0 : m = 0
      · exact .inl h0
      · right
        intro he
        obtain ⟨x, hx, _⟩ := get_of (l := l) (k := m - 1) (by omega)
        rw [kAt_map hx] at he
        exact hh (hn.2 ⟨x, by omega, hx, he.symm⟩)
theorem keys_same (l : List Tg) : (keysW l).l = (keysR l).l := by
  unfold keysW keysR
  by_cases h0 : tagErr l = 0
  · rw [if_pos h0, if_pos h0]
    have hg := (good_err h0).2
    unfold wKs rKs
    by_cases hl : l = []
    · rw [if_pos hl, if_pos hl]
    · rw [if_neg hl, if_neg hl]
      show ddK (l.map Tg.key) = rKsN l l.length
      unfold ddK
      rw [List.length_map]
      exact keys_same_n hg l.length (Nat.le_refl _)
  · rw [if_neg h0, if_neg h0]
theorem mem_rKsN {l : List Tg} {k : List UInt8} : ∀ m, m ≤ l.length → (k ∈ rKsN l m ↔ k ∈ (l.take m).map Tg.key)
  | 0, _ => by simp [rKsN]
  | m + 1, h => by
    obtain ⟨y, hy, _⟩ := get_of (l := l) (k := m) (by omega)
    rw [rKsN_succ, List.mem_append, mem_rKsN m (by omega), tgAt_get hy, List.take_add_one, hy, List.map_append, List.mem_append]
    by_cases hh : hasK (l.take m) y.key = true
    · rw [if_pos hh]
      unfold hasK at hh
      rw [decide_eq_true_eq] at hh
      simp
      rintro rfl
      simpa using hh
    · rw [if_neg hh]
      simp
theorem has_same (l : List Tg) (k : List UInt8) : hasW l k = hasR l k := by
  unfold hasW hasR
  rw [keys_same]
  unfold keysR
  by_cases h0 : tagErr l = 0
  · rw [if_pos h0, decide_eq_true h0, Bool.true_and]
    unfold rKs hasK
    by_cases hl : l = []
    · rw [if_pos hl, hl]; simp
    · rw [if_neg hl]
      have := mem_rKsN (l := l) (k := k) l.length (Nat.le_refl _)
      rw [List.take_length] at this
      show decide (k ∈ rKsN l l.length) = _
      simp only [this]
  · rw [if_neg h0, decide_eq_false h0]; simp
end Op
end Go.CM

/-
  Sets of tags: OrsetDoes, walked.
-/
namespace Go.CM
open Go Go.Proofs Go.RowKit
set_option linter.unusedVariables false
set_option linter.unusedSimpArgs false
set_option maxRecDepth 100000
namespace Op
open Sha

theorem ty_tag {ts : List TypeId} {cs : List CV} (h : Ty Tryz.prog (77 :: ts) cs) : ∃ (t : Tg) (cs' : List CV), cs = encT t ++ cs' ∧ t.id.length = 32 ∧ Ty Tryz.prog ts cs' := by
  have h1 := ty_struct (fs := [9, 71]) (by kernel_rfl) h
  obtain ⟨s, _, rfl, h2⟩ := ty_str (by kernel_rfl) h1
  obtain ⟨x, cs', rfl, hx, h3⟩ := ty_idm h2
  exact ⟨⟨s, x⟩, cs', rfl, hx, h3⟩
theorem tyA_tags {ts : List TypeId} {cs : List CV} (h : TyA Tryz.prog (24 :: ts) cs) : ∃ (s : Tgs) (cs' : List CV), cs = .ag [encTs s] :: cs' ∧ okTs s.l ∧ TyA Tryz.prog ts cs' := by
  obtain ⟨c, cs', rfl, h1, h2⟩ := tyA_cons h
  obtain ⟨cs, rfl, h3⟩ := tyV_agg (by kernel_rfl) h1
  have h4 := ty_struct (fs := [22]) (by kernel_rfl) h3
  obtain ⟨s, _, rfl, _, ho, h5⟩ := ty_sl (e := 77) (z := 33) (enc := encT) (Q := fun t => t.id.length = 32) (by kernel_rfl) (by kernel_rfl) (fun r hr => by
    obtain ⟨x, _, rfl, hx, h3⟩ := ty_tag hr
    rw [ty_nil h3, List.append_nil]
    exact ⟨x, rfl, hx⟩) h4
  rw [ty_nil h5]
  exact ⟨s, cs', rfl, ho, h2⟩
theorem okOp_of {o : Opr} (h : TyOp o) (hl : longO o = false) : OkOp o := by
  unfold longO at hl
  simp only [Bool.or_eq_false_iff, decide_eq_false_iff_not] at hl
  exact ⟨h.ids, by omega, ⟨h.n1, h.n2, by omega⟩, by omega⟩
theorem new_ok : PureC Tryz.prog GS 17 [] (.ag [.nilS]) := by
  refine pure_of Tryz.checked.mixed GS_closed ?_
  apply call_intro c17_eq r17_eq
  unfold c17 r17
  simp
  exact rd_eq rfl rfl
theorem appW_ok (s : Tgs) (o : Opr) (b : Ids) (hs : okTs s.l) (hl : s.l.length ≤ 1000000) : okTs (appW s o b).1.l ∧ (appW s o b).1.l.length ≤ 1000000 := by
  have h0 : okTs (Sv.l (none : Tgs)) ∧ (Sv.l (none : Tgs)).length ≤ 1000000 := ⟨fun t ht => (by cases ht), by simp⟩
  unfold appW
  split
  · rename_i ht
    have h60 := (good_err ht).1
    split
    · split
      · exact h0
      · split
        · unfold addW
          split
          · exact h0
          · split
            · exact h0
            · refine ⟨insAt_ok hs (idOf_len o), ?_⟩
              show (insAt s.l _ _).length ≤ _
              rw [insAt_len]; omega
        · split
          · cases s with
            | none => exact h0
            | some a =>
              refine ⟨fun t ht => hs t (List.mem_filter.1 ht).1, ?_⟩
              have := List.length_filter_le (fun t => !struck o b t) a
              exact Nat.le_trans this hl
          · exact ⟨hs, hl⟩
    · exact h0
  · exact h0
theorem app_emptyT (l : Hl) (s : Tgs) (ho : okTs s.l) (hs : s.l.length ≤ 1000000) : appM (l ++ [CB.cells 0 []]) 33 48 (.sl 33 l.length 0 0 0 0) (encTs s) = some (.sl 33 l.length 0 s.l.length s.l.length (s.l.length * 33), l ++ [.cells (s.l.length * 33) (s.l.map encT).flatten]) := by
  have hr : roomMax = 140737488355328 := rfl
  have hfl := flatT_len ho
  unfold appM encTs
  rw [contents_encS]
  simp only []
  unfold appendL
  by_cases hz : s.l.length = 0
  · have h0 : s.l = [] := List.length_eq_zero_iff.1 hz
    rw [h0]
    simp
  · rw [if_neg hz, if_neg (by omega)]
    simp [hr]
    exact ⟨by omega, fun h => by simp [h]⟩
theorem orsetDoes_call (s : Tgs) (o : Opr) (b : Ids) (k : List UInt8) (hs : okTs s.l) (hto : TyOp o) (hb : okIds b) :
    CallP Tryz.prog GS 3 [.ag [encTs s], .ag (encOp o), encIds b, .str k] [] (c := ⟨fun r _ => r = .bool true⟩) := by
  apply call_intro c3_eq r3_eq
  unfold c3 r3
  have hcs := closed_Ts s
  have hco := closed_op o
  have hcb := closed_ids b
  have hcop : closedL [CV.ag (encOp o)] = true := by simp [closedL, CV.closed, hco]
  have hcts : closedL [CV.ag [encTs s]] = true := by simp [closedL, CV.closed, hcs]
  have hblen : lenM (.sl 32) (encIds b) = some (.int .i64 b.l.length) := by simp [encIds]
  simp [encOp]
  refine pure_call (rTGreat_ok s hs) hcts ?_
  cases hg : greatT s.l with
  | true => simp
  | false =>
    simp
    refine pure_call (rLong_ok o) hcop ?_
    cases hl : longO o with
    | true => simp
    | false =>
      have ho := okOp_of hto hl
      have hsl : s.l.length ≤ 1000000 := by have := (great_le hg).1; omega
      by_cases h1 : 70 < b.l.length
      · have h1' : (70 : Int) < (b.l.length : Int) := by omega
        simp [hblen, h1']
      · have h1' : ¬ (70 : Int) < (b.l.length : Int) := by omega
        by_cases h2 : 100 < k.length
        · have h2' : (100 : Int) < (k.length : Int) := by omega
          simp [hblen, h1', h2']
        · have h2' : ¬ (100 : Int) < (k.length : Int) := by omega
          have happ := app_emptyT [CB.cells 1 [encTs s], CB.cells 11 (encOp o)] s hs hsl
          simp only [encOp, List.length_cons, List.length_nil, List.cons_append, List.nil_append] at happ
          simp [hblen, h1', h2', happ]
          have hown : ∀ l : Hl, l[2]? = some (.cells (s.l.length * 33) (s.l.map encT).flatten) → OwnS 33 l (.sl 33 2 0 s.l.length s.l.length (s.l.length * 33)) 2 (s.l.map encT) := fun l h => own_ts hs rfl h
          refine AppK.frzS (hown _ rfl) rfl ?_
          obtain ⟨w, hw⟩ : ∃ w : Tgs, w = some s.l := ⟨_, rfl⟩
          have hwe : CV.rsl 33 (s.l.map encT) = encTs w := by rw [hw]; rfl
          have hwl : w.l = s.l := by rw [hw]; rfl
          have hwo : okTs w.l := by rw [hwl]; exact hs
          have hwn : w.l.length ≤ 1000000 := by rw [hwl]; exact hsl
          have hcw := closed_Ts w
          have hbl : b.l.length ≤ 1000000 := by omega
          have hctw : closedL [CV.ag [encTs w]] = true := by simp [closedL, CV.closed, hcw]
          have hcell : (encTs w).cells = some [encTs w] := by rw [hw]; rfl
          rw [hwe]
          simp [hcell]
          have hce : ∀ x : Tgs, (encTs x).cells = some [encTs x] := fun x => by cases x <;> rfl
          have hckl : ∀ x : Ks, (encKs x).closed = true := closed_Ks
          have hctA : ∀ x : Tgs, (encTs x).closed = true := closed_Ts
          obtain ⟨he1, he2⟩ := app_same s o b
          have hWw : appW w o b = ((appW w o b).1, (appR s o b).2) ∧ (appW w o b).1.l = (appR s o b).1.l := by
            have h3 := app_same w o b
            have h4 : appR w o b = appR s o b := by
              unfold appR addR
              rw [hwl]
            rw [h4] at h3
            exact ⟨by rw [← h3.2], h3.1⟩
          have hok := appW_ok w o b hwo hwn
          obtain ⟨A1, hA1⟩ : ∃ A, A = (appW w o b).1 := ⟨_, rfl⟩
          obtain ⟨B1, hB1⟩ : ∃ A, A = (appR s o b).1 := ⟨_, rfl⟩
          obtain ⟨E1, hE1⟩ : ∃ A, A = (appR s o b).2 := ⟨_, rfl⟩
          have hE2 : (appW w o b).2 = E1 := by rw [hWw.1, hE1]
          have hAB : A1.l = B1.l := by rw [hA1, hB1]; exact hWw.2
          have hwa := wApply_ok w o b hwo hwn ho hb hbl
          have hra := rApply_ok s o b hs hsl ho hb hbl
          rw [← hA1] at hwa hok
          rw [hE2] at hwa
          rw [← hB1, ← hE1] at hra
          refine pure_call hwa (show closedL [CV.ag [encTs w], CV.ag (encOp o), encIds b] = true by simp [closedL, CV.closed, hcw, hco, hcb]) ?_
          simp [hce]
          refine pure_call hra (show closedL [CV.ag [encTs s], CV.ag (encOp o), encIds b] = true by simp [closedL, CV.closed, hcs, hco, hcb]) ?_
          simp [hce]
          refine pure_call (wHas_ok w hwo hwn k) (by simp [closedL, CV.closed, hcw]) ?_
          simp
          refine pure_call (rHas_ok s hs hsl k) (by simp [closedL, CV.closed, hcs]) ?_
          simp
          refine pure_call (wKeys_ok w hwo hwn) hctw ?_
          simp
          refine pure_call (rKeys_ok s hs hsl) hcts ?_
          simp
          refine pure_call new_ok rfl ?_
          simp
          refine pure_call (wTCheck_ok w hwo hwn) hctw ?_
          simp
          refine pure_call (rTCheck_ok s hs hsl) hcts ?_
          have hhw : hasW s.l k = hasR s.l k := has_same _ _
          have hkw : (keysW s.l).l = (keysR s.l).l := keys_same _
          simp [hwl]
          refine pure_call (sameT_ok A1 B1 hok.1 (by rw [← hAB]; exact hok.1) hok.2) (by simp [closedL, CV.closed, hctA]) ?_
          have hbe : ∀ x y : Bool, binC Tryz.prog .eql 4 (.bool x) (.bool y) = some (.bool (x == y)) := bin_bool_eql (by kernel_rfl)
          simp [hAB, hhw, hbe, hwl]
          refine pure_call (sameK_ok (keysW s.l) (keysR s.l) (by have := keysW_len s.l; omega)) (by simp [closedL, CV.closed, hckl]) ?_
          simp [hkw, hwl]
          refine pure_call (sameT_ok w s hwo hs hwn) (by simp [closedL, CV.closed, hctA]) ?_
          simp [hwl]
end Op
end Go.CM

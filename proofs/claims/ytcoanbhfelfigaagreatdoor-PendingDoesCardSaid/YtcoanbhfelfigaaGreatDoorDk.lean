/-
  op.Message: walked.
-/
import Derived.Test.YtcoanbhfelfigaaGreatDoorDj
set_option linter.unusedVariables false
set_option linter.unusedSimpArgs false
set_option linter.unnecessarySimpa false
namespace Go.CM
open Go Go.Proofs
set_option maxRecDepth 100000
namespace Op
open Sha
def bareO (o : Opr) : Opr := { o with e := 0#32, s := 0#32 }
theorem wMsg_ob (o : Opr) (ho : OkOp o) (hk : opErr (bareO o) = 0) {l : Hl} {K : CV → Hl → Prop} (hK : ∀ w l', Ob 1 enc8 l l' w (opText o) false → K (.tu [w, .int .i64 0]) l') :
  CallP Tryz.prog GS 88 [.ag (encOp o)] l (c := ⟨K⟩) := by
 apply call_intro c88_eq r88_eq
 unfold c88 r88
 have hr : roomMax = 140737488355328 := rfl
 have hna := numB_len o.author.toNat
 have hns := numB_len o.stamp.toNat
 have hpl := listB_len ho.ids
 have hob : OkOp (bareO o) := ⟨ho.ids, ho.len, ho.val, ho.key⟩
 have hck := wOpCheck_ok (bareO o) hob
 rw [hk] at hck
 have hl4 : o.preds.l.length ≤ 4 := opErr_len (o := bareO o) hk
 have hris : ris o.preds.l = true := by
  unfold opErr at hk
  have e1 : (bareO o).preds = o.preds := rfl
  rw [e1, if_neg (by omega)] at hk
  cases h3 : ris o.preds.l with
  | true => rfl
  | false => rw [h3] at hk; cases hk
 have hsw : (BitVec.setWidth 64 o.author).toNat = o.author.toNat := by rw [BitVec.toNat_setWidth]; exact Nat.mod_eq_of_lt (by have := o.author.isLt; omega)
 have hclb := closed_op (bareO o)
 have hlt : l.length < (l ++ [CB.cells 11 (encOp (bareO o))]).length := by simp
 have hat : (l ++ [CB.cells 11 (encOp (bareO o))])[l.length]? = some (.cells 11 (encOp (bareO o))) := by simp
 simp [encOp]
 refine pure_call hck (show closedL [CV.ag (encOp (bareO o))] = true by simp [closedL, CV.closed, hclb]) ?_
 simp
 refine wIDs_ob o.preds ho.ids (by omega) hris fun w1 l1 h1 => ?_
 have hp1 : l1[l.length]? = some (.cells 11 (encOp (bareO o))) := by rw [h1.same _ hlt]; exact hat
 have hlt1 : l.length < l1.length := by have := h1.le; simp at this; omega
 have hp1' := hp1
 simp [encOp, bareO] at hp1'
 have hq1 : (l1 ++ [CB.cells 1 [CV.int .u8 111]])[l.length]? = some (.cells 11 (encOp (bareO o))) := by rw [List.getElem?_append_left hlt1]; exact hp1
 have hltq : l.length < (l1 ++ [CB.cells 1 [CV.int .u8 111]]).length := by simp; omega
 have hq1' := hq1
 simp [encOp, bareO] at hq1'
 simp [hq1']
 have hqL : (l1 ++ [CB.cells 1 [CV.int .u8 111], CB.cells 1 [CV.int .u8 (u o.act.kind)]])[l.length]? = some (.cells 11 (encOp (bareO o))) := by rw [List.getElem?_append_left hlt1]; exact hp1
 have hq111 : (l1 ++ [CB.cells 1 [CV.int .u8 111], CB.cells 1 [CV.int .u8 (u o.act.kind)]])[l1.length]? = some (.cells 1 [.int .u8 111]) := by simp
 have hqk : (l1 ++ [CB.cells 1 [CV.int .u8 111], CB.cells 1 [CV.int .u8 (u o.act.kind)]])[l1.length + 1]? = some (.cells 1 [.int .u8 (u o.act.kind)]) := by simp
 have hLl : (l1 ++ [CB.cells 1 [CV.int .u8 111], CB.cells 1 [CV.int .u8 (u o.act.kind)]]).length = l1.length + 2 := by simp
 refine wNumber_ob _ fun w2 l2 h2 => ?_
 rw [hsw] at h2
 have hle2 := h2.le
 rw [hLl] at hle2
 have hp2 : l2[l.length]? = some (.cells 11 (encOp (bareO o))) := by rw [h2.same _ (by rw [hLl]; omega)]; exact hqL
 have h2111 : l2[l1.length]? = some (.cells 1 [.int .u8 111]) := by rw [h2.same _ (by rw [hLl]; omega)]; exact hq111
 have h2k : l2[l1.length + 1]? = some (.cells 1 [.int .u8 (u o.act.kind)]) := by rw [h2.same _ (by rw [hLl]; omega)]; exact hqk
 have hp2' := hp2
 simp [encOp, bareO] at hp2'
 simp [hp2', h2111, h2k]
 refine wNumber_ob _ fun w3 l3 h3 => ?_
 have hle3 := h3.le
 have hp3 : l3[l.length]? = some (.cells 11 (encOp (bareO o))) := by rw [h3.same _ (by omega)]; exact hp2
 have h3111 : l3[l1.length]? = some (.cells 1 [.int .u8 111]) := by rw [h3.same _ (by omega)]; exact h2111
 have h3k : l3[l1.length + 1]? = some (.cells 1 [.int .u8 (u o.act.kind)]) := by rw [h3.same _ (by omega)]; exact h2k
 have hp3' := hp3
 simp [encOp, bareO] at hp3'
 simp [hp3', h3111, h3k, h1.cells, h2.cells, h3.cells, splice]
 obtain ⟨L, hL⟩ : ∃ L, L = l3 ++ [CB.cells 5 [.sl 1 l1.length 0 1 1 1, w2, w1, w3, .sl 1 (l1.length + 1) 0 1 1 1]] := ⟨_, rfl⟩
 have hLle : l3.length ≤ L.length := by rw [hL]; simp
 have hLs : ∀ b, b < l3.length → L[b]? = l3[b]? := fun b hb => by rw [hL, List.getElem?_append_left hb]
 have hLb : L[l3.length]? = some (.cells 5 [.sl 1 l1.length 0 1 1 1, w2, w1, w3, .sl 1 (l1.length + 1) 0 1 1 1]) := by rw [hL]; simp
 rw [← hL]
 have P0 : Part L (.sl 1 l1.length 0 1 1 1) [111#8] := part_one (by rw [hLs _ (by omega)]; exact h3111)
 have P4 : Part L (.sl 1 (l1.length + 1) 0 1 1 1) [o.act.kind] := part_one (by rw [hLs _ (by omega)]; exact h3k)
 have P1 : Part L w2 (numB o.author.toNat) := ((ob_part h2).frame hle3 h3.same).frame hLle hLs
 have P2 : Part L w1 (listB o.preds.l) := ((((ob_part h1).frame (l1 := l1 ++ [CB.cells 1 [CV.int .u8 111], CB.cells 1 [CV.int .u8 (u o.act.kind)]]) (by rw [hLl]; omega) (fun b hb => List.getElem?_append_left hb)).frame (by rw [hLl]; exact hle2) h2.same).frame hle3 h3.same).frame hLle hLs
 have P3 : Part L w3 (numB o.stamp.toNat) := (ob_part h3).frame hLle hLs
 have hpL : L[l.length]? = some (.cells 11 (encOp (bareO o))) := by rw [hLs _ (by omega)]; exact hp3
 obtain ⟨M, hM⟩ : ∃ M, M = flB [[111#8], numB o.author.toNat, listB o.preds.l, numB o.stamp.toNat, [o.act.kind]] := ⟨_, rfl⟩
 have hMe : M = [111#8] ++ numB o.author.toNat ++ listB o.preds.l ++ numB o.stamp.toNat ++ [o.act.kind] := by rw [hM]; simp [flB]
 have hMl : M.length ≤ 40000 := by rw [hMe]; simp only [List.length_append, List.length_cons, List.length_nil]; omega
 have hM0 : M.length ≠ 0 := by rw [hMe]; simp
 refine concat_ob (bs := [[111#8], numB o.author.toNat, listB o.preds.l, numB o.stamp.toNat, [o.act.kind]]) hLb rfl rfl ?_ (by rw [← hM]; omega) (by omega) fun w4 l4 h4 => ?_
 ·intro k w s hw hs
  rcases k with _ | _ | _ | _ | _ | k
  ·obtain rfl := Option.some.inj hw; obtain rfl := Option.some.inj hs; exact P0
  ·obtain rfl := Option.some.inj hw; obtain rfl := Option.some.inj hs; exact P1
  ·obtain rfl := Option.some.inj hw; obtain rfl := Option.some.inj hs; exact P2
  ·obtain rfl := Option.some.inj hw; obtain rfl := Option.some.inj hs; exact P3
  ·obtain rfl := Option.some.inj hw; obtain rfl := Option.some.inj hs; exact P4
  ·cases hw
 rw [← hM, decide_eq_false hM0] at h4
 have hLl2 : l.length ≤ L.length := by omega
 have h4' : Ob 1 enc8 l l4 w4 M false := h4.base hLl2 fun b hb => by
  have hbl : b < l1.length := by omega
  rw [hLs b (by omega), h3.same b (by omega), h2.same b (by rw [hLl]; omega), List.getElem?_append_left hbl, h1.same b (by simp; omega), List.getElem?_append_left hb]
 have hp4 : l4[l.length]? = some (.cells 11 (encOp (bareO o))) := by rw [h4.same _ (by omega)]; exact hpL
 have hlt4 : l.length < l4.length := get_lt hp4
 have hp4' := hp4
 simp [encOp, bareO] at hp4'
 have hT : opText o = M ++ (if o.act.kind = 1#8 then [] else textB (tB o.act.key)) ++ (if o.act.kind = 4#8 then valBytes o.act.val else []) := by rw [hMe]; rfl
 have htl := textB_len (tB o.act.key)
 rw [tB_len] at htl
 have hkey := ho.key
 have hvl := valBytes_len o.act.val
 have hvt := ho.val.2.2
 have hc : csbC (.str o.act.key) = some (.rsl 1 ((tB o.act.key).map enc8)) := by
  show some (CV.rsl 1 (o.act.key.map fun b => [byteC b])) = _
  rw [tB_rsl]
 by_cases c1 : o.act.kind = 1#8
 ·have e1 : (u o.act.kind : Int) = 1 := (u_1 o.act.kind).2 c1
  have c4 : ¬ o.act.kind = 4#8 := by rw [c1]; decide
  rw [if_pos c1, if_neg c4, List.append_nil, List.append_nil] at hT
  simp [hp4', e1]
  exact hK _ _ (by rw [hT]; exact h4')
 ·have e1 : ¬ (u o.act.kind : Int) = 1 := fun h => c1 ((u_1 o.act.kind).1 h)
  rw [if_neg c1] at hT
  simp [hp4', e1, hc]
  refine wBytes_ob (some (tB o.act.key)) (by simpa [tB_len] using hkey) (by simp [contentsL]) (by simp) (fun l' _ _ => by simp [contentsL]) fun w8 l8 h8 => ?_
  obtain ⟨w9, l9, a9, b9, _⟩ := (h4'.frame h8.le h8.same).app (by_ := 1) (x := w8) (xs := textB (tB o.act.key)) h8.contents (by simp [enc8]) (by omega) (by omega) (by rw [hr]; omega)
  have b9' := (h4.frame h8.le h8.same).app (by_ := 1) (x := w8) (xs := textB (tB o.act.key)) h8.contents (by simp [enc8]) (by omega) (by omega) (by rw [hr]; omega)
  obtain ⟨w9', l9', a9', c9, _⟩ := b9'
  rw [a9] at a9'
  obtain ⟨rfl, rfl⟩ := Prod.mk.inj (Option.some.inj a9')
  have hp9 : l9[l.length]? = some (.cells 11 (encOp (bareO o))) := by rw [c9.same _ (by omega)]; exact hpL
  have hp9' := hp9
  simp [encOp, bareO] at hp9'
  simp [a9]
  refine AppK.keep ?_
  simp only [Bool.false_and] at b9
  by_cases c4 : o.act.kind = 4#8
  ·have e4 : (u o.act.kind : Int) = 4 := (u_4 o.act.kind).2 c4
   rw [if_pos c4] at hT
   have hact : actB o.act = true := by
    cases h : actB o.act with
    | true => rfl
    | false =>
     unfold opErr at hk
     have e2 : (bareO o).preds = o.preds := rfl
     have e3 : (bareO o).act = o.act := rfl
     rw [e2, if_neg (by omega), hris, if_pos rfl] at hk
     unfold goodB at hk
     rw [e3, h] at hk
     simp at hk
   rw [act4 c4, Bool.and_eq_true] at hact
   simp [hp9', e4]
   refine wValBytes_ob o.act.val ho.val hact.2 fun w10 l10 h10 => ?_
   obtain ⟨w11, l11, a11, b11, _⟩ := (b9.frame h10.le h10.same).app (by_ := 1) (x := w10) (xs := valBytes o.act.val) h10.contents (by simp [enc8]) (by omega) (by omega) (by rw [hr]; simp only [List.length_append]; omega)
   simp [a11]
   refine AppK.keep ?_
   simp
   exact hK _ _ (by rw [hT]; exact b11)
  ·have e4 : ¬ (u o.act.kind : Int) = 4 := fun h => c4 ((u_4 o.act.kind).1 h)
   rw [if_neg c4, List.append_nil] at hT
   simp [hp9', e4]
   exact hK _ _ (by rw [hT]; exact b9)
theorem bare_err {o : Opr} (h : opErr o = 0) : opErr (bareO o) = 0 := by
 unfold opErr at h ⊢
 have e1 : (bareO o).preds = o.preds := rfl
 rw [e1]
 have hg : goodB o = true → goodB (bareO o) = true := by
  unfold goodB bareO
  simp only [Bool.and_eq_true]
  rintro ⟨a, b, c, d, e⟩
  exact ⟨a, b, c, by decide, by decide⟩
 split at h
 ·cases h
 ·rename_i h1
  rw [if_neg h1]
  split at h
  ·rename_i h2
   rw [if_pos h2]
   split at h
   ·rename_i h3
    rw [if_pos (hg h3)]
   ·cases h
  ·cases h
theorem err_act {o : Opr} (h : opErr o = 0) : actB o.act = true := by
 unfold opErr at h
 split at h
 ·cases h
 ·split at h
  ·split at h
   ·rename_i h3
    unfold goodB at h3
    simp only [Bool.and_eq_true] at h3
    exact h3.2.2.1
   ·cases h
  ·cases h
theorem keyB_len {s : List UInt8} (h : keyB s = true) : s.length ≤ 20 := by
 unfold keyB at h
 simp only [Bool.and_eq_true, decide_eq_true_eq] at h
 omega
theorem err_small {o : Opr} (ho : OkOp o) (h : opErr o = 0) : (opBytes o).length ≤ 1000 := by
 have h1 := numB_len o.author.toNat
 have h2 := numB_len o.stamp.toNat
 have h3 := listB_len ho.ids
 have h4 := textB_len (tB o.act.key)
 rw [tB_len] at h4
 have h6 := valBytes_len o.act.val
 have hp := opErr_len h
 have he := numB_len o.e.toNat
 have hs := numB_len o.s.toNat
 have ha := err_act h
 have g1 : (if o.act.kind = 1#8 then [] else textB (tB o.act.key)).length ≤ 100 := by
  split
  ·simp
  ·rename_i c1
   have : o.act.key.length ≤ 20 := by
    by_cases c2 : o.act.kind = 2#8
    ·rw [act2 c2, Bool.and_eq_true] at ha; exact keyB_len ha.1
    ·by_cases c3 : o.act.kind = 3#8
     ·rw [act3 c3, Bool.and_eq_true] at ha; exact keyB_len ha.1
     ·by_cases c4 : o.act.kind = 4#8
      ·rw [act4 c4, Bool.and_eq_true] at ha; exact keyB_len ha.1
      ·rw [act5 c1 c2 c3 c4] at ha; cases ha
   omega
 have g2 : (if o.act.kind = 4#8 then valBytes o.act.val else []).length ≤ 100 := by
  split
  ·rename_i c4
   rw [act4 c4, Bool.and_eq_true] at ha
   have hv := ha.2
   have : o.act.val.text.length ≤ 30 := by
    by_cases k1 : o.act.val.kind = 1#8
    ·rw [valB1 k1] at hv
     simp only [Bool.and_eq_true, decide_eq_true_eq] at hv
     rw [hv.2]; simp
    ·by_cases k2 : o.act.val.kind = 2#8
     ·rw [valB2 k2] at hv
      simp only [Bool.and_eq_true, decide_eq_true_eq] at hv
      rw [hv.2.2]; simp
     ·by_cases k3 : o.act.val.kind = 3#8
      ·by_cases hl : o.act.val.text.length ≤ 30
       ·exact hl
       ·rw [valB3 k3] at hv
        unfold textV at hv
        rw [if_neg hl] at hv
        simp only [Bool.and_eq_true, decide_eq_true_eq, zeroVal] at hv
        have := hv.1
        rw [k3] at this
        exact absurd this (by decide)
      ·rw [valB4 k1 k2 k3] at hv; cases hv
   omega
  ·simp
 unfold opBytes opText opHead
 simp only [List.length_append, List.length_cons, List.length_nil]
 omega
theorem wEncode_ob (o : Opr) (ho : OkOp o) (hk : opErr o = 0) {l : Hl} {K : CV → Hl → Prop} (hK : ∀ w l', Ob 1 enc8 l l' w (opBytes o) false → K (.tu [w, .int .i64 0]) l') :
  CallP Tryz.prog GS 59 [.ag (encOp o)] l (c := ⟨K⟩) := by
 apply call_intro c59_eq r59_eq
 unfold c59 r59
 have hck := wOpCheck_ok o ho
 rw [hk] at hck
 have hcl := closed_op o
 have hsm := err_small ho hk
 have hse : (BitVec.setWidth 64 o.e).toNat = o.e.toNat := by rw [BitVec.toNat_setWidth]; exact Nat.mod_eq_of_lt (by have := o.e.isLt; omega)
 have hss : (BitVec.setWidth 64 o.s).toNat = o.s.toNat := by rw [BitVec.toNat_setWidth]; exact Nat.mod_eq_of_lt (by have := o.s.isLt; omega)
 have hlt : l.length < (l ++ [CB.cells 11 (encOp o)]).length := by simp
 have hat : (l ++ [CB.cells 11 (encOp o)])[l.length]? = some (.cells 11 (encOp o)) := by simp
 simp [encOp]
 refine pure_call hck (show closedL [CV.ag (encOp o)] = true by simp [closedL, CV.closed, hcl]) ?_
 simp
 refine wMsg_ob o ho (bare_err hk) fun w1 l1 h1 => ?_
 have hp1 : l1[l.length]? = some (.cells 11 (encOp o)) := by rw [h1.same _ hlt]; exact hat
 have hlt1 : l.length < l1.length := get_lt hp1
 have hp1' := hp1
 simp [encOp] at hp1'
 simp [hp1']
 refine wNumber_ob _ fun w2 l2 h2 => ?_
 rw [hse] at h2
 have hp2 : l2[l.length]? = some (.cells 11 (encOp o)) := by rw [h2.same _ hlt1]; exact hp1
 have hp2' := hp2
 simp [encOp] at hp2'
 simp [hp2']
 refine wNumber_ob _ fun w3 l3 h3 => ?_
 rw [hss] at h3
 simp [h1.cells, h2.cells, h3.cells, splice]
 obtain ⟨L, hL⟩ : ∃ L, L = l3 ++ [CB.cells 3 [w1, w2, w3]] := ⟨_, rfl⟩
 have hLle : l3.length ≤ L.length := by rw [hL]; simp
 have hLs : ∀ b, b < l3.length → L[b]? = l3[b]? := fun b hb => by rw [hL, List.getElem?_append_left hb]
 have hLb : L[l3.length]? = some (.cells 3 [w1, w2, w3]) := by rw [hL]; simp
 rw [← hL]
 have P0 : Part L w1 (opText o) := (((ob_part h1).frame h2.le h2.same).frame h3.le h3.same).frame hLle hLs
 have P1 : Part L w2 (numB o.e.toNat) := ((ob_part h2).frame h3.le h3.same).frame hLle hLs
 have P2 : Part L w3 (numB o.s.toNat) := (ob_part h3).frame hLle hLs
 have hM : flB [opText o, numB o.e.toNat, numB o.s.toNat] = opBytes o := by simp [flB, opBytes]
 have hM0 : (opBytes o).length ≠ 0 := by unfold opBytes opText opHead; simp
 refine concat_ob (bs := [opText o, numB o.e.toNat, numB o.s.toNat]) hLb rfl rfl ?_ (by rw [hM]; omega) (by omega) fun w4 l4 h4 => ?_
 ·intro k w s hw hs
  rcases k with _ | _ | _ | k
  ·obtain rfl := Option.some.inj hw; obtain rfl := Option.some.inj hs; exact P0
  ·obtain rfl := Option.some.inj hw; obtain rfl := Option.some.inj hs; exact P1
  ·obtain rfl := Option.some.inj hw; obtain rfl := Option.some.inj hs; exact P2
  ·cases hw
 rw [hM, decide_eq_false hM0] at h4
 simp
 refine hK _ _ (h4.base ?_ fun b hb => ?_)
 ·have := h2.le; have := h3.le; omega
 ·have := h2.le; have := h3.le
  rw [hLs b (by omega), h3.same b (by omega), h2.same b (by omega), h1.same b (by simp; omega), List.getElem?_append_left hb]
theorem wEncode_bad (o : Opr) (ho : OkOp o) (hk : ¬ opErr o = 0) : PureC Tryz.prog GS 59 [.ag (encOp o)] (.tu [.nilS, .int .i64 (opErr o)]) := by
 refine pure_of Tryz.checked.mixed GS_closed ?_
 apply call_intro c59_eq r59_eq
 unfold c59 r59
 have hck := wOpCheck_ok o ho
 have hcl := closed_op o
 obtain ⟨E, hE⟩ : ∃ E, E = encOp o := ⟨_, rfl⟩
 have hEl : E.length = 11 := by rw [hE]; rfl
 rw [← hE] at hck hcl ⊢
 simp [hEl, List.take_of_length_le]
 refine pure_call hck (by simp [closedL, CV.closed, hcl]) ?_
 simp [hk]
 exact rd_eq rfl rfl
theorem wID_ok (o : Opr) (ho : OkOp o) : PureC Tryz.prog GS 43 [.ag (encOp o)] (.tu [idC (idOf o), .int .i64 (opErr o)]) := by
 refine pure_of Tryz.checked.mixed GS_closed ?_
 apply call_intro c43_eq r43_eq
 unfold c43 r43 idOf
 have hcl := closed_op o
 have hz : (rep 32 (.int .u8 0) : List CV) = (List.replicate 32 0#8).map e8 := by simp [rep]
 obtain ⟨E, hE⟩ : ∃ E, E = encOp o := ⟨_, rfl⟩
 have hEl : E.length = 11 := by rw [hE]; rfl
 by_cases h0 : opErr o = 0
 ·have hsm := err_small ho h0
  have hsl : (sha (opBytes o)).length = 32 := sha_length _
  rw [← hE]
  simp [hEl, List.take_of_length_le]
  rw [hE]
  refine wEncode_ob o ho h0 fun w1 l1 h1 => ?_
  rw [← hE] at h1
  have hat : l1[1]? = some (.cells 32 (rep 32 (.int .u8 0))) := by rw [h1.same 1 (by simp)]; rfl
  simp
  refine pure_callB (sum_ok (some (opBytes o)) (by simp; omega)) (.cons (h1.rdH (fun _ => rfl) (some (opBytes o)) rfl rfl) .nil) (by simp [CV.flat, flatL, idC, flatL_map e8 (fun _ => rfl)]) ?_
  have hspl : splice (rep 32 (.int .u8 0)) 0 ((sha (opBytes o)).map e8) = (sha (opBytes o)).map e8 := splice_full (by rw [List.length_map, hsl]; rfl)
  have hset : (l1.set 1 (CB.cells 32 ((sha (opBytes o)).map e8)))[1]? = some (.cells 32 ((sha (opBytes o)).map e8)) := List.getElem?_set_self (get_lt hat)
  simp [hat, idC, hsl, hspl, hset, List.take_of_length_le]
  exact rd_eq (by rw [if_pos h0, h0]) (by simp [CV.closed, closedL, closedL_map e8 (fun _ => rfl)])
 ·have hen := wEncode_bad o ho h0
  rw [← hE] at hen hcl ⊢
  simp [hEl, List.take_of_length_le]
  refine pure_call hen (by simp [closedL, CV.closed, hcl]) ?_
  simp [h0, idC, hz]
  exact rd_eq rfl (by simp only [CV.closed, closedL, closedL_map e8 (fun _ => rfl), Bool.and_self])
end Op
end Go.CM

namespace Go.CM
open Go Go.Proofs Go.RowKit
set_option maxRecDepth 100000
namespace Op
open Sha
theorem ty_str {P : Program} {t : TypeId} {ts : List TypeId} {cs : List CV} (hu : P.underlying t = some .string) (h : Ty P (t :: ts) cs) : ∃ s cs', cs = .str s :: cs' ∧ Ty P ts cs' := by
 cases h
 case str s cs' hs hu' h => exact ⟨_, _, rfl, h⟩
 all_goals (exfalso; simp_all; done)
theorem ty_u8 {ts : List TypeId} {cs : List CV} (h : Ty Tryz.prog (5 :: ts) cs) : ∃ (x : B) (cs' : List CV), cs = e8 x :: cs' ∧ Ty Tryz.prog ts cs' := by
 obtain ⟨k, cs1, rfl, h1, h2, h3⟩ := ty_int (k := .u8) (by kernel_rfl) h
 have h5 : (0 : Int) ≤ k := h1
 have h6 : k ≤ 255 := h2
 refine ⟨BitVec.ofNat 8 k.toNat, cs1, ?_, h3⟩
 have : ((BitVec.ofNat 8 k.toNat).toNat : Int) = k := by
  rw [BitVec.toNat_ofNat, Nat.mod_eq_of_lt (by omega)]; omega
 simp [e8, u]; omega
theorem ty_idm {ts : List TypeId} {cs : List CV} (h : Ty Tryz.prog (32 :: ts) cs) : ∃ (x : List B) (cs' : List CV), cs = x.map e8 ++ cs' ∧ x.length = 32 ∧ Ty Tryz.prog ts cs' := by
 have h1 := ty_array (e := 5) (n := 32) (by kernel_rfl) h
 exact ty_bytes (by kernel_rfl) 32 h1
theorem ty_ids {ts : List TypeId} {cs : List CV} (h : Ty Tryz.prog (25 :: ts) cs) : ∃ (s : Ids) (cs' : List CV), cs = encIds s :: cs' ∧ okIds s ∧ Ty Tryz.prog ts cs' := by
 obtain ⟨s, cs', rfl, _, h1, h2⟩ := ty_sl (e := 32) (z := 32) (enc := eId) (Q := fun x => x.length = 32) (by kernel_rfl) (by kernel_rfl) (fun r hr => by
  obtain ⟨x, cs', rfl, hx, h3⟩ := ty_idm hr
  rw [ty_nil h3, List.append_nil]
  exact ⟨x, rfl, hx⟩) h
 exact ⟨s, cs', rfl, h1, h2⟩
theorem ty_u32 {ts : List TypeId} {cs : List CV} (h : Ty Tryz.prog (35 :: ts) cs) : ∃ (x : D) (cs' : List CV), cs = e32 x :: cs' ∧ Ty Tryz.prog ts cs' := by
 obtain ⟨k, cs1, rfl, h1, h2, h3⟩ := ty_int (k := .u32) (by kernel_rfl) h
 have h5 : (0 : Int) ≤ k := h1
 have h6 : k ≤ 4294967295 := h2
 refine ⟨BitVec.ofNat 32 k.toNat, cs1, ?_, h3⟩
 have : ((BitVec.ofNat 32 k.toNat).toNat : Int) = k := by
  rw [BitVec.toNat_ofNat, Nat.mod_eq_of_lt (by omega)]; omega
 simp [e32, u]; omega
structure TyOp (o : Opr) : Prop where
 ids : okIds o.preds
 n1 : -9223372036854775808 ≤ o.act.val.num
 n2 : o.act.val.num < 9223372036854775808
theorem ty_val2 {ts : List TypeId} {cs : List CV} (h : Ty Tryz.prog (38 :: ts) cs) : ∃ (v : Val) (cs' : List CV), cs = [e8 v.kind, .int .i64 v.num, e64 v.bits, .str v.text] ++ cs' ∧ (-9223372036854775808 ≤ v.num ∧ v.num < 9223372036854775808) ∧ Ty Tryz.prog ts cs' := by
 have h1 := ty_struct (fs := [5, 2, 36, 9]) (by kernel_rfl) h
 obtain ⟨k, _, rfl, h2⟩ := ty_u8 h1
 obtain ⟨n, _, rfl, hn1, hn2, h3⟩ := ty_int (k := .i64) (by kernel_rfl) h2
 obtain ⟨b, _, rfl, h4⟩ := ty_u64 h3
 obtain ⟨s, _, rfl, h5⟩ := ty_str (by kernel_rfl) h4
 have h6 : n ≤ 9223372036854775807 := hn2
 exact ⟨⟨k, n, b, s⟩, _, rfl, ⟨hn1, by show n < 9223372036854775808; omega⟩, h5⟩
theorem ty_act2 {ts : List TypeId} {cs : List CV} (h : Ty Tryz.prog (40 :: ts) cs) : ∃ (a : Act) (cs' : List CV), cs = [e8 a.kind, .str a.key, e8 a.val.kind, .int .i64 a.val.num, e64 a.val.bits, .str a.val.text] ++ cs' ∧ (-9223372036854775808 ≤ a.val.num ∧ a.val.num < 9223372036854775808) ∧ Ty Tryz.prog ts cs' := by
 have h1 := ty_struct (fs := [5, 9, 38]) (by kernel_rfl) h
 obtain ⟨k, _, rfl, h2⟩ := ty_u8 h1
 obtain ⟨s, _, rfl, h3⟩ := ty_str (by kernel_rfl) h2
 obtain ⟨v, _, rfl, hv, h4⟩ := ty_val2 h3
 exact ⟨⟨k, s, v⟩, _, rfl, hv, h4⟩
theorem ty_op {ts : List TypeId} {cs : List CV} (h : Ty Tryz.prog (44 :: ts) cs) : ∃ (o : Opr) (cs' : List CV), cs = encOp o ++ cs' ∧ TyOp o ∧ Ty Tryz.prog ts cs' := by
 have h1 := ty_struct (fs := [35, 25, 36, 40, 42]) (by kernel_rfl) h
 obtain ⟨a, _, rfl, h2⟩ := ty_u32 h1
 obtain ⟨p, _, rfl, hp, h3⟩ := ty_ids h2
 obtain ⟨n, _, rfl, h4⟩ := ty_u64 h3
 obtain ⟨c, _, rfl, hc, h5⟩ := ty_act2 h4
 have h6 := ty_struct (fs := [35, 35]) (by kernel_rfl) h5
 obtain ⟨x, _, rfl, h7⟩ := ty_u32 h6
 obtain ⟨y, cs', rfl, h8⟩ := ty_u32 h7
 exact ⟨⟨a, p, n, c, x, y⟩, cs', by simp [encOp], ⟨hp, hc.1, hc.2⟩, h8⟩
theorem tyA_op {ts : List TypeId} {cs : List CV} (h : TyA Tryz.prog (44 :: ts) cs) : ∃ (o : Opr) (cs' : List CV), cs = .ag (encOp o) :: cs' ∧ TyOp o ∧ TyA Tryz.prog ts cs' := by
 obtain ⟨c, cs', rfl, h1, h2⟩ := tyA_cons h
 obtain ⟨cs, rfl, h3⟩ := tyV_agg (by kernel_rfl) h1
 obtain ⟨o, _, rfl, ho, h4⟩ := ty_op h3
 rw [ty_nil h4, List.append_nil]
 exact ⟨o, cs', rfl, ho, h2⟩
theorem tyA_ids {ts : List TypeId} {cs : List CV} (h : TyA Tryz.prog (25 :: ts) cs) : ∃ (s : Ids) (cs' : List CV), cs = encIds s :: cs' ∧ okIds s ∧ TyA Tryz.prog ts cs' := by
 obtain ⟨c, cs', rfl, h1, h2⟩ := tyA_cons h
 obtain ⟨s, cs1, hs, ho, h3⟩ := ty_ids (tyV_one (by kernel_rfl) h1)
 cases hs
 exact ⟨s, cs', rfl, ho, h2⟩
end Op
end Go.CM

namespace Go.CM
open Go Go.Proofs
set_option maxRecDepth 100000
namespace Op
open Sha
section
variable {α : Type} {z : Nat} {enc : α → List CV}
theorem ow_cut {l : Hl} {v : CV} {j k : Nat} {ys : List α} {zr : List CV} (hzr : zr.length = z) (h : OwnS z l v j (ys.map enc)) (hk : k < ys.length) :
  ∃ v3 l3 r, sliceM (.sl z) v (some (.int .i64 (k : Int))) none none = some v3 ∧ clearL zr l v3 = some l3 ∧ sliceM (.sl z) v none (some (.int .i64 (k : Int))) none = some r ∧
   OwnS z l3 r j ((ys.take k).map enc) ∧ isNilS r = false ∧ l3.length = l.length ∧ ∀ b, b ≠ j → l3[b]? = l[b]? := by
 generalize he : ys.map enc = es at h
 cases h with
 | nil j => rw [List.map_eq_nil_iff] at he; subst he; simp at hk
 | sl j n cap sz cs es hb hl hn hz hc hcap hcs =>
  subst he
  have hn' : ys.length = n := by simpa using hn
  have hb1 : boundC (.int .i64 (k : Int)) n = some k := by
   show (if 0 ≤ (k : Int) ∧ (k : Int) ≤ (n : Int) then some (k : Int).toNat else none) = some k
   rw [if_pos ⟨by omega, by omega⟩]; simp
  have hb2 : boundC (.int .i64 (k : Int)) cap = some k := by
   show (if 0 ≤ (k : Int) ∧ (k : Int) ≤ (cap : Int) then some (k : Int).toNat else none) = some k
   rw [if_pos ⟨by omega, by omega⟩]; simp
  have b1 : boundsC n cap (some (.int .i64 (k : Int))) none none = some (k, n, cap) := by
   show (match boundC (.int .i64 (k : Int)) n with | none => none | some l => some (l, n, cap)) = _
   rw [hb1]
  have b2 : boundsC n cap none (some (.int .i64 (k : Int))) none = some (0, k, cap) := by
   show (match boundC (.int .i64 (k : Int)) cap with | none => none | some h => some (0, h, cap)) = _
   rw [hb2]
  have hck : ¬ cap = k := by omega
  have hc0 : ¬ cap = 0 := by omega
  have hjl : j < l.length := get_lt hb
  have hm1 : k * z ≤ n * z := Nat.mul_le_mul_right _ (by omega)
  have hm2 : n * z ≤ cap * z := Nat.mul_le_mul_right _ hc
  have hrl : (repeatC zr (n - k)).length = (n - k) * z := by rw [repeatC_len', hzr]
  have hm3 : k * z + (n - k) * z = n * z := by rw [← Nat.add_mul]; congr 1; omega
  refine ⟨.sl z j (k * z) (n - k) (cap - k) sz, l.set j (.cells sz (splice cs (k * z) (repeatC zr (n - k)))), .sl z j 0 k cap sz, ?_, ?_, ?_, ?_, rfl, by simp, fun b hbj => by rw [List.getElem?_set_ne (fun h => hbj h.symm)]⟩
  ·rw [sliceM_sl, b1]; simp [hck]
  ·unfold clearL
   simp only
   rw [if_neg (by omega)]
   simp [hb, hzr]
  ·rw [sliceM_sl, b2]; simp [hc0]
  ·refine .sl j k cap sz _ _ (List.getElem?_set_self hjl) (by rw [splice_length (by omega), hrl]; omega) (by simp; omega) (fun e he => ?_) (by omega) hcap ?_
   ·obtain ⟨y, hy, rfl⟩ := List.mem_map.1 he
    exact hz _ (List.mem_map_of_mem (List.mem_of_mem_take hy))
   ·unfold splice
    rw [List.append_assoc, List.take_append_of_le_length (by rw [List.length_take]; omega), List.take_take, Nat.min_self]
    have e1 : cs.take (k * z) = (cs.take (n * z)).take (k * z) := by rw [List.take_take, Nat.min_eq_left hm1]
    have e2 : ys.map enc = (ys.take k).map enc ++ (ys.drop k).map enc := by rw [← List.map_append, List.take_append_drop]
    have e3 : ((ys.take k).map enc).flatten.length = k * z := by
     rw [flatten_len (z := z) (fun e he => by obtain ⟨y, hy, rfl⟩ := List.mem_map.1 he; exact hz _ (List.mem_map_of_mem (List.mem_of_mem_take hy)))]
     rw [List.length_map, List.length_take, Nat.min_eq_left (by omega)]
    rw [e1, hcs, e2, List.flatten_append, List.take_append_of_le_length (by omega), List.take_of_length_le (by omega)]
theorem ow_part {ys : List α} (hz : ∀ y ∈ ys, (enc y).length = z) (k : Nat) (hk : k ≤ ys.length) {n : Nat} (hn : ys.length = n) {cs : List CV} (hcs : cs.take (n * z) = (ys.map enc).flatten) (hl : n * z ≤ cs.length) :
  cs.take (k * z) = ((ys.take k).map enc).flatten ∧ (cs.drop (k * z)).take (n * z - k * z) = ((ys.drop k).map enc).flatten := by
 have hm1 : k * z ≤ n * z := Nat.mul_le_mul_right _ (by omega)
 have e2 : ys.map enc = (ys.take k).map enc ++ (ys.drop k).map enc := by rw [← List.map_append, List.take_append_drop]
 have e3 : ((ys.take k).map enc).flatten.length = k * z := by
  rw [flatten_len (z := z) (fun e he => by obtain ⟨y, hy, rfl⟩ := List.mem_map.1 he; exact hz _ (List.mem_of_mem_take hy))]
  rw [List.length_map, List.length_take, Nat.min_eq_left (by omega)]
 have e1 : cs.take (k * z) = (cs.take (n * z)).take (k * z) := by rw [List.take_take, Nat.min_eq_left hm1]
 constructor
 ·rw [e1, hcs, e2, List.flatten_append, List.take_append_of_le_length (by omega), List.take_of_length_le (by omega)]
 ·rw [← List.drop_take, hcs, e2, List.flatten_append, List.drop_append_of_le_length (by omega), List.drop_of_length_le (by omega), List.nil_append]
theorem ow_set {l : Hl} {v : CV} {j k : Nat} {ys : List α} {x : α} {X : CV} (hX : X.cells = some (enc x)) (h : OwnS z l v j (ys.map enc)) (hz : ∀ y ∈ ys, (enc y).length = z) (hk : k < ys.length) (hx : (enc x).length = z) :
  ∃ p l', iaC (.sl z) v (.int .i64 (k : Int)) = some p ∧ storeL z l p (X) = some l' ∧ OwnS z l' v j ((ys.set k x).map enc) ∧ l'.length = l.length ∧ ∀ b, b ≠ j → l'[b]? = l[b]? := by
 generalize he : ys.map enc = es at h
 cases h with
 | nil j => rw [List.map_eq_nil_iff] at he; subst he; simp at hk
 | sl j n cap sz cs es hb hl hn hz2 hc hcap hcs =>
  subst he
  have hn' : ys.length = n := by simpa using hn
  have hjl : j < l.length := get_lt hb
  have hxl := hx
  have hm1 : (k + 1) * z ≤ n * z := Nat.mul_le_mul_right _ (by omega)
  have hm2 : n * z ≤ cap * z := Nat.mul_le_mul_right _ hc
  have hs : (k + 1) * z = k * z + z := by rw [Nat.succ_mul]
  obtain ⟨f1, _⟩ := ow_part hz k (by omega) hn' hcs (by omega)
  obtain ⟨_, f2⟩ := ow_part hz (k + 1) (by omega) hn' hcs (by omega)
  refine ⟨.ptr j (k * z) sz, l.set j (.cells sz (splice cs (k * z) (enc x))), ?_, ?_, ?_, by simp, fun b hbj => by rw [List.getElem?_set_ne (fun h => hbj h.symm)]⟩
  ·simp [iaC]; omega
  ·unfold storeL
   simp [hb, hX, hxl]
   omega
  ·refine .sl j n cap sz _ _ (List.getElem?_set_self hjl) (by rw [splice_length (by omega), hxl]; omega) (by simp; omega) (fun e he => ?_) hc hcap ?_
   ·obtain ⟨y, hy, rfl⟩ := List.mem_map.1 he
    rcases List.mem_or_eq_of_mem_set hy with h | h
    ·exact hz _ h
    ·rw [h]; exact hxl
   ·have hset : ys.set k x = ys.take k ++ (x :: ys.drop (k + 1)) := by rw [List.set_eq_take_append_cons_drop, if_pos hk]
    rw [hset, List.map_append, List.map_cons, List.flatten_append, List.flatten_cons, ← f1, ← f2]
    unfold splice
    have t1 : (cs.take (k * z)).length = k * z := by rw [List.length_take]; omega
    have u1 : (cs.take (k * z)).take (n * z) = cs.take (k * z) := List.take_of_length_le (by rw [t1]; omega)
    have u2 : (enc x).take (n * z - k * z) = enc x := List.take_of_length_le (by rw [hxl]; omega)
    rw [List.append_assoc, hxl, ← hs, List.take_append, t1, u1, List.take_append, u2, hxl, show n * z - k * z - z = n * z - (k + 1) * z by omega]
end
end Op
end Go.CM

namespace Go.CM
open Go Go.Proofs
set_option maxRecDepth 100000
theorem callS_wk {P : Program} {G : Nat → CV} {f : FuncId} {args : List CV} {h h' h2 : Hp} {r r2 : CV} (hc : CallS P G f args h r h') (wk : Wk h' h2) (hv : RdK h' h2 r r2) : CallS P G f args h r2 h2 := by
 intro R B w μ vs rel g hl hvs
 refine (hc R B w μ vs rel g hl hvs).mono ?_
 rintro e w' ⟨v, μ', rfl, e1, r1, hv1⟩
 exact ⟨v, μ', rfl, e1.trans (wk.ext w' μ'), wk.rel r1, wk.vr r1 hv hv1⟩
theorem callP_wk {P : Program} {G : Nat → CV} (hmix : P.follows .mixedOrders = true) (hG : ∀ g, (G g).closed = true) {f : FuncId} {args : List CV} {l : Hl} {K : CV → Hl → Prop}
  (h : CallP P G f args l (c := ⟨fun r l' => ∃ r2 l2, Wk (HL l') (HL l2) ∧ RdK (HL l') (HL l2) r r2 ∧ l.length ≤ l2.length ∧ K r2 l2⟩)) : CallP P G f args l (c := ⟨K⟩) := by
 obtain ⟨r, l', hev, hle, r2, l2, wk, hv, hl2, hk⟩ := h
 exact ⟨r2, l2, .ext (callS_wk (sound hmix hG hev) wk hv), hl2, hk⟩
theorem own_wk {z : Nat} {l : Hl} {v : CV} {j : Nat} {es : List (List CV)} (h : OwnS z l v j es) (hv : isNilS v = false) : Wk (HL l) (HL (l.set j .dead)) ∧ RdK (HL l) (HL (l.set j .dead)) v (.rsl z es) := by
 cases h with
 | nil j => cases hv
 | sl j n cap sz cs es hb hl hn hz hc hcap hcs =>
 have hlt := get_lt hb
 have hd : (HL (l.set j .dead)).f j = .dead := by rw [HL_f, List.getElem?_set, if_pos rfl, if_pos hlt]
 have hle : n * z ≤ cap * z := Nat.mul_le_mul_right _ hc
 refine ⟨⟨by simp, fun b' => ?_⟩, .sl z j 0 n cap sz cs es (HL_cells.2 hb) hd hn hz (by omega) (fun i k e c c' he hk hc1 => ?_)⟩
 ·by_cases hbb : b' = j
  ·subst hbb; exact .inr ⟨sz, cs, HL_cells.2 hb, .inl hd⟩
  ·left
   rw [HL_f, HL_f, List.getElem?_set, if_neg (by omega)]
 ·have hkz : k < z := by rw [← hz e (List.mem_of_getElem? he)]; exact (List.getElem?_eq_some_iff.1 hk).1
  have hi := (List.getElem?_eq_some_iff.1 he).1
  have hm : i * z + z ≤ n * z := by rw [← Nat.succ_mul]; exact Nat.mul_le_mul_right _ (by omega)
  have h1 := flat_get hz he hkz
  rw [← hcs, List.getElem?_take_of_lt (by omega), hk] at h1
  rw [Nat.zero_add, h1] at hc1
  cases hc1
  exact .same _
end Go.CM

namespace Go.CM
open Go Go.Proofs
set_option maxRecDepth 100000
namespace Op
open Sha
def ixOf {α : Type} [DecidableEq α] (x : α) : List α → Nat → Int
 | [], _ => -1
 | y :: r, k => if y = x then (k : Int) else ixOf x r (k + 1)
theorem ixOf_neg {α : Type} [DecidableEq α] (x : α) : ∀ (l : List α) (k : Nat), (0 ≤ ixOf x l k) ↔ x ∈ l
 | [], k => by simp [ixOf]
 | y :: r, k => by
  unfold ixOf
  by_cases h : y = x
  ·simp [h]
  ·rw [if_neg h, ixOf_neg x r (k + 1)]
   simp [Ne.symm h]
theorem ixOf_at {α : Type} [DecidableEq α] {x : α} : ∀ {l : List α} {k n : Nat} {y : α}, l[k]? = some y → (∀ (j : Nat) (z : α), j < k → l[j]? = some z → z ≠ x) → y = x → ixOf x l n = ((n + k : Nat) : Int)
 | [], k, n, y, h, _, _ => by simp at h
 | w :: r, 0, n, y, h, _, hy => by
  simp at h; subst h
  unfold ixOf
  rw [if_pos hy]; simp
 | w :: r, k + 1, n, y, h, hl, hy => by
  unfold ixOf
  rw [if_neg (hl 0 w (by omega) (by simp)), ixOf_at (k := k) (n := n + 1) (by simpa using h) (fun j z hj hz => hl (j + 1) z (by omega) (by simpa using hz)) hy]
  congr 1; omega
theorem ixOf_no {α : Type} [DecidableEq α] {x : α} : ∀ {l : List α} {n : Nat}, (∀ (j : Nat) (z : α), l[j]? = some z → z ≠ x) → ixOf x l n = -1
 | [], n, _ => rfl
 | w :: r, n, hl => by
  unfold ixOf
  rw [if_neg (hl 0 w (by simp)), ixOf_no fun j z hz => hl (j + 1) z (by simpa using hz)]
theorem wIndexI_ok (s : Ids) (ho : okIds s) (hl : s.l.length ≤ 1000000) (x : List B) (hx : x.length = 32) : PureC Tryz.prog GS 92 [encIds s, .ag (eId x)] (.int .i64 (ixOf x s.l 0)) := by
 refine pure_of Tryz.checked.mixed GS_closed ?_
 apply call_intro c92_eq r92_eq
 unfold c92 r92
 simp [encIds]
 refine loop_up s.l.length (fun k σ l => l = [.cells 32 (eId x)] ∧ σ 0 = encS 32 eId s ∧ σ 3 = .ptr 0 0 32 ∧ σ 7 = .int .i64 s.l.length ∧ σ 8 = .int .i64 k ∧ ∀ (j : Nat) (z : List B), j < k → s.l[j]? = some z → z ≠ x) ?_ (by simp [encIds, eId_len hx])
 rintro k σ l hk ⟨rfl, g0, g3, g7, g8, hs⟩
 obtain ⟨σ, rfl⟩ := upds4 g0 g3 g7 g8
 clear g0 g3 g7 g8
 unfold l92_0
 simp
 refine kIf_intro (fun h => ?_) (fun h => ?_)
 ·simp only [decide_eq_true_eq] at h
  obtain ⟨y, hy, hym⟩ := get_of (l := s.l) (k := k) (by omega)
  have e1 : IntKind.i64.wrap ((k : Int) + 1) = ((k + 1 : Nat) : Int) := by rw [IntKind.wrap_i64]; omega
  simp [hy, eId_len (ho y hym), eId_len hx, List.take_of_length_le, idEql hx (ho y hym)]
  by_cases he : x = y
  ·have hix := ixOf_at (n := 0) hy hs he.symm
   simp [he]
   exact rd_eq (by rw [← he, hix]; simp) rfl
  ·simp [he, e1]
   refine ⟨by omega, fun j z hj hz => ?_⟩
   by_cases hjk : j = k
   ·subst hjk; rw [hy] at hz; obtain rfl := Option.some.inj hz; exact fun h => he h.symm
   ·exact hs j z (by omega) hz
 ·simp [h]
  have hk2 : k = s.l.length := by simp at h; omega
  exact rd_eq (by rw [ixOf_no fun j z hz => hs j z (by rw [hk2]; exact (List.getElem?_eq_some_iff.1 hz).1) hz]) rfl
theorem wInI_ok (s : Ids) (ho : okIds s) (hl : s.l.length ≤ 1000000) (x : List B) (hx : x.length = 32) : PureC Tryz.prog GS 61 [encIds s, .ag (eId x)] (.bool (decide (x ∈ s.l))) := by
 refine pure_of Tryz.checked.mixed GS_closed ?_
 apply call_intro c61_eq r61_eq
 unfold c61 r61
 simp [eId_len hx, List.take_of_length_le]
 refine pure_call (wIndexI_ok s ho hl x hx) (by have := closed_ids s; have := closed_eId x; simp_all [closedL, CV.closed]) ?_
 simp
 exact rd_eq (congrArg CV.bool (by simp only [ixOf_neg])) rfl
theorem rIn_ok (s : Ids) (ho : okIds s) (hl : s.l.length ≤ 1000000) (x : List B) (hx : x.length = 32) : PureC Tryz.prog GS 13 [encIds s, .ag (eId x)] (.bool (decide (x ∈ s.l))) := by
 refine pure_of Tryz.checked.mixed GS_closed ?_
 apply call_intro c13_eq r13_eq
 unfold c13 r13
 simp [encIds]
 refine loop_up s.l.length (fun k σ l => l = [.cells 32 (eId x)] ∧ σ 0 = encS 32 eId s ∧ σ 3 = .ptr 0 0 32 ∧ σ 5 = .int .i64 k ∧ ∀ (j : Nat) (z : List B), j < k → s.l[j]? = some z → z ≠ x) ?_ (by simp [encIds, eId_len hx])
 rintro k σ l hk ⟨rfl, g0, g3, g5, hs⟩
 obtain ⟨σ, rfl⟩ := upds3 g0 g3 g5
 clear g0 g3 g5
 unfold l13_0
 simp
 refine kIf_intro (fun h => ?_) (fun h => ?_)
 ·simp only [decide_eq_true_eq] at h
  obtain ⟨y, hy, hym⟩ := get_of (l := s.l) (k := k) (by omega)
  have e1 : IntKind.i64.wrap ((k : Int) + 1) = ((k + 1 : Nat) : Int) := by rw [IntKind.wrap_i64]; omega
  simp [hy, eId_len (ho y hym), eId_len hx, List.take_of_length_le, idEql (ho y hym) hx]
  by_cases he : y = x
  ·simp [he]
   exact rd_eq (congrArg CV.bool (decide_eq_true (by rw [← he]; exact hym)).symm) rfl
  ·simp [he, e1]
   refine ⟨by omega, fun j z hj hz => ?_⟩
   by_cases hjk : j = k
   ·subst hjk; rw [hy] at hz; obtain rfl := Option.some.inj hz; exact he
   ·exact hs j z (by omega) hz
 ·simp [h]
  have hk2 : k = s.l.length := by simp at h; omega
  refine rd_eq (congrArg CV.bool (decide_eq_false fun hm => ?_).symm) rfl
  obtain ⟨j, hj⟩ := List.mem_iff_getElem?.1 hm
  exact hs j x (by rw [hk2]; exact (List.getElem?_eq_some_iff.1 hj).1) hj rfl
def longO (o : Opr) : Bool := decide (40 < o.preds.l.length) || (decide (100 < o.act.key.length) || decide (100 < o.act.val.text.length))
theorem rLong_ok (o : Opr) : PureC Tryz.prog GS 18 [.ag (encOp o)] (.bool (longO o)) := by
 refine pure_of Tryz.checked.mixed GS_closed ?_
 apply call_intro c18_eq r18_eq
 unfold c18 r18 longO
 have hlen : lenM (.sl 32) (encIds o.preds) = some (.int .i64 o.preds.l.length) := by simp [encIds]
 by_cases h1 : 40 < o.preds.l.length
 ·have h1' : (40 : Int) < (o.preds.l.length : Int) := by omega
  simp [encOp, hlen, h1, h1']
  exact rd_eq (by simp [h1]) rfl
 ·have h1' : ¬ (40 : Int) < (o.preds.l.length : Int) := by omega
  by_cases h2 : 100 < o.act.key.length
  ·have h2' : (100 : Int) < (o.act.key.length : Int) := by omega
   simp [encOp, hlen, h1, h1', h2, h2']
   exact rd_eq (by simp [h1, h2]) rfl
  ·have h2' : ¬ (100 : Int) < (o.act.key.length : Int) := by omega
   have h3' : ((100 : Int) < (o.act.val.text.length : Int)) ↔ 100 < o.act.val.text.length := by omega
   simp [encOp, hlen, h1, h1', h2, h2', h3']
   exact rd_eq (by simp [h1, h2]) rfl
theorem pCmp_ok (a b : List B) (ha : a.length = 32) (hb : b.length = 32) : PureC Tryz.prog GS 40 [.ag (eId a), .ag (eId b)] (.int .i64 (cmpB a b)) := by
 refine pure_of Tryz.checked.mixed GS_closed ?_
 apply call_intro c40_eq r40_eq
 unfold c40 r40
 have hs := slice_arr_all (n := 32) (b := 1) (by omega)
 have hs0 := slice_arr_all (n := 32) (b := 0) (by omega)
 simp [eId, ha, hb, hs, hs0]
 have hc := bCompare_ok (some a) (some b) (by simp [ha, hb])
 refine pure_callB hc ?_ rfl ?_
 ·exact .cons ((own_arr (j := 0) ha rfl).rdH_enc (fun _ => rfl) (some a) rfl rfl) (.cons ((own_arr (j := 1) hb rfl).rdH_enc (fun _ => rfl) (some b) rfl rfl) .nil)
 ·simp
  exact rd_eq rfl rfl
def missB (o : Opr) (m : List (List B)) : Bool := decide (0 < m.length) && (ris m && m.all fun x => decide (x ∈ o.preds.l))
theorem ris_step {l : List (List B)} (h : ris l = true) {k : Nat} (hk : k + 1 < l.length) : cmpB (idAt l k) (idAt l (k + 1)) < 0 := (of_decide_eq_true h) (k + 1) hk (by omega)
structure MisI (o : Opr) (m : Ids) (k : Nat) (σ : Sg) (l : Hl) : Prop where
 hl : ∃ r, l = .cells 11 (encOp o) :: r
 g1 : σ 1 = encIds m
 g2 : σ 2 = .ptr 0 0 11
 g7 : σ 7 = encIds m
 g8 : σ 8 = .int .i64 m.l.length
 g9 : σ 9 = .int .i64 k
 hs : ∀ j, j < k → (1 ≤ j → cmpB (idAt m.l (j - 1)) (idAt m.l j) < 0) ∧ idAt m.l j ∈ o.preds.l
theorem wMiss_ok (o : Opr) (ho : OkOp o) (m : Ids) (hm : okIds m) (hl : m.l.length ≤ 1000000) : PureC Tryz.prog GS 44 [.ag (encOp o), encIds m] (.bool (missB o m.l)) := by
 refine pure_of Tryz.checked.mixed GS_closed ?_
 apply call_intro c44_eq r44_eq
 unfold c44 r44
 have hlen : lenM (.sl 32) (encIds m) = some (.int .i64 m.l.length) := by simp [encIds]
 have hcp := closed_ids o.preds
 simp [hlen]
 refine loop_up m.l.length (MisI o m) ?_ ⟨⟨_, rfl⟩, by simp, by simp [encOp], by simp, by simp, by simp, fun j h => by omega⟩
 rintro k σ l hk ⟨⟨r, rfl⟩, g1, g2, g7, g8, g9, hs⟩
 obtain ⟨σ, rfl⟩ := upds5 g1 g2 g7 g8 g9
 clear g1 g2 g7 g8 g9
 unfold l44_0
 simp
 refine kIf_intro (fun h => ?_) (fun h => ?_)
 ·simp only [decide_eq_true_eq] at h
  obtain ⟨y, hy, hym⟩ := get_of (l := m.l) (k := k) (by omega)
  have hyl := eId_len (hm y hym)
  have e1 : IntKind.i64.wrap ((k : Int) + 1) = ((k + 1 : Nat) : Int) := by rw [IntKind.wrap_i64]; omega
  have hia : iaC (.sl 32) (encIds m) (.int .i64 (k : Int)) = some (.rptr (eId y) 0) := by simp [encIds, hy]
  have hsp : splice (rep 32 (.int .u8 0)) 0 (eId y) = eId y := splice_full (by rw [hyl]; rfl)
  have hin := wInI_ok o.preds ho.ids ho.len y (hm y hym)
  have hcy := closed_eId y
  have hat : idAt m.l k = y := idAt_get hy
  have hbad : ∀ (j : Nat), j < m.l.length → ¬ ((1 ≤ j → cmpB (idAt m.l (j - 1)) (idAt m.l j) < 0) ∧ idAt m.l j ∈ o.preds.l) → missB o m.l = false := fun j hj hn => by
   unfold missB
   cases h1 : ris m.l with
   | false => simp
   | true =>
    cases h2 : (m.l.all fun x => decide (x ∈ o.preds.l)) with
    | false => simp
    | true =>
     exact absurd ⟨fun h => (of_decide_eq_true h1) j hj h, of_decide_eq_true (List.all_eq_true.1 h2 _ (idAt_mem hj))⟩ hn
  obtain ⟨Y, hY⟩ : ∃ Y, Y = eId y := ⟨_, rfl⟩
  rw [← hY] at hyl hia hsp hin hcy
  have hnext : y ∈ o.preds.l → (1 ≤ k → cmpB (idAt m.l (k - 1)) y < 0) → ∀ j, j < k + 1 → (1 ≤ j → cmpB (idAt m.l (j - 1)) (idAt m.l j) < 0) ∧ idAt m.l j ∈ o.preds.l := fun h1 h2 j hj => by
   by_cases hjk : j = k
   ·subst hjk; rw [hat]; exact ⟨h2, h1⟩
   ·exact hs j (by omega)
  rcases k with _ | k
  ·simp at hia
   simp [encOp, hia, hyl, hsp, List.take_of_length_le]
   refine pure_call hin (by simp [closedL, CV.closed, hcp, hcy]) ?_
   by_cases hmem : y ∈ o.preds.l
   ·simp [hmem]
    exact ⟨by omega, ⟨_, rfl⟩, by simp, by simp, by simp, by simp, by simp; rw [IntKind.wrap_i64]; omega, hnext hmem (fun h => by omega)⟩
   ·have := hbad 0 (by omega) (fun h => hmem (by rw [← hat]; exact h.2))
    simp [hmem]
    exact rd_eq (by rw [this]) rfl
  ·obtain ⟨z, hz, hzm⟩ := get_of (l := m.l) (k := k) (by omega)
   have hzl := eId_len (hm z hzm)
   have hzc := closed_eId z
   have hatz : idAt m.l k = z := idAt_get hz
   have e3 : IntKind.i64.wrap (k : Int) = (k : Int) := by rw [IntKind.wrap_i64]; omega
   have hpos : (0 : Int) < (k : Int) + 1 := by omega
   have hiz : iaC (.sl 32) (encIds m) (.int .i64 (k : Int)) = some (.rptr (eId z) 0) := by simp [encIds, hz]
   have hcm := pCmp_ok z y (hm z hzm) (hm y hym)
   obtain ⟨Z, hZ⟩ : ∃ Z, Z = eId z := ⟨_, rfl⟩
   rw [← hZ] at hiz hzl hzc hcm
   rw [← hY] at hcm
   simp at hia
   simp [hpos, hia, hiz, e3, hyl, hzl, hsp, List.take_of_length_le]
   refine pure_call hcm (by simp [closedL, CV.closed, hzc, hcy]) ?_
   by_cases hlt : cmpB z y < 0
   ·have hlt' : ¬ (0 : Int) ≤ cmpB z y := by omega
    simp [hlt', encOp, hyl, List.take_of_length_le]
    refine pure_call hin (by simp [closedL, CV.closed, hcp, hcy]) ?_
    by_cases hmem : y ∈ o.preds.l
    ·simp [hmem]
     exact ⟨by omega, ⟨_, rfl⟩, by simp, by simp, by simp, by simp, by simp; rw [IntKind.wrap_i64]; omega, hnext hmem (fun h => by rw [Nat.add_sub_cancel, hatz]; exact hlt)⟩
    ·have := hbad (k + 1) (by omega) (fun h => hmem (by rw [← hat]; exact h.2))
     simp [hmem]
     exact rd_eq (by rw [this]) rfl
   ·have hlt' : (0 : Int) ≤ cmpB z y := by omega
    have := hbad (k + 1) (by omega) (fun h => hlt (by have := h.1 (by omega); rw [hat, Nat.add_sub_cancel, hatz] at this; exact this))
    simp [hlt']
    exact rd_eq (by rw [this]) rfl
 ·simp [h, hlen]
  have hk2 : k = m.l.length := by simp at h; omega
  refine rd_eq (congrArg CV.bool ?_) rfl
  have h1 : ris m.l = true := ris_true fun j hj h1 => (hs j (by omega)).1 h1
  have h2 : (m.l.all fun x => decide (x ∈ o.preds.l)) = true := List.all_eq_true.2 fun x hx => by
   obtain ⟨j, hj⟩ := List.mem_iff_getElem?.1 hx
   have := (hs j (by rw [hk2]; exact (List.getElem?_eq_some_iff.1 hj).1)).2
   rw [idAt_get hj] at this
   exact decide_eq_true this
  unfold missB
  rw [h1, h2]; simp
structure Gx (j : Nat) (l l' : Hl) : Prop where
 le : l.length ≤ l'.length
 same : ∀ b, b < l.length → b ≠ j → l'[b]? = l[b]?
theorem Gx.refl (j : Nat) (l : Hl) : Gx j l l := ⟨Nat.le_refl _, fun _ _ _ => rfl⟩
theorem Gx.trans {j : Nat} {a b c : Hl} (h1 : Gx j a b) (h2 : Gx j b c) : Gx j a c := ⟨by have := h1.le; have := h2.le; omega, fun x hx hj => by rw [h2.same x (by have := h1.le; omega) hj]; exact h1.same x hx hj⟩
def CondP (g : FuncId) (cap : List CV) (j : Nat) (l0 : Hl) (xs : List (List B)) (p : List B → Bool) : Prop :=
 ∀ x ∈ xs, ∀ l, Gx j l0 l → ∀ K : CV → Hl → Prop, (∀ l', l.length ≤ l'.length → (∀ b, b < l.length → l'[b]? = l[b]?) → K (.bool (p x)) l') → CallP Tryz.prog GS g ([] ++ [.ag (eId x)] ++ cap) l (c := ⟨K⟩)
structure IxI (l0 : Hl) (v : CV) (g : FuncId) (cap : List CV) (xs : List (List B)) (p : List B → Bool) (k : Nat) (σ : Sg) (l : Hl) : Prop where
 g0 : σ 0 = v
 g1 : σ 1 = .fn g [] cap
 g7 : σ 7 = .int .i64 xs.length
 g8 : σ 8 = .int .i64 k
 hs : ∀ (j : Nat) (z : List B), j < k → xs[j]? = some z → p z = false
 le : l0.length ≤ l.length
 same : ∀ b, b < l0.length → l[b]? = l0[b]?
theorem indexI_own {g : FuncId} {cap : List CV} {j : Nat} {l : Hl} {v : CV} {xs : List (List B)} {p : List B → Bool} (hg : funOkB Tryz.prog g = true) (ho : OwnS 32 l v j (xs.map eId)) (hz : (∀ x ∈ xs, x.length = 32)) (hn : xs.length ≤ 1000000) (hp : CondP g cap j l xs p)
  {K : CV → Hl → Prop} (hK : ∀ n l', (n = -1 ∧ (∀ z ∈ xs, p z = false) ∨ ∃ k : Nat, n = (k : Int) ∧ k < xs.length ∧ (∀ (i : Nat) (z : List B), i < k → xs[i]? = some z → p z = false) ∧ ∀ y, xs[k]? = some y → p y = true) → l.length ≤ l'.length → (∀ b, b < l.length → l'[b]? = l[b]?) → K (.int .i64 n) l') :
  CallP Tryz.prog GS 53 [v, .fn g [] cap] l (c := ⟨K⟩) := by
 apply call_intro c53_eq r53_eq
 unfold c53 r53
 have hlen := ho.len
 rw [List.length_map] at hlen
 simp [hlen]
 refine loop_up xs.length (IxI l v g cap xs p) ?_ ⟨by simp, by simp, by simp, by simp, fun j z h => by omega, Nat.le_refl _, fun _ _ => rfl⟩
 rintro k σ l1 hk ⟨g0, g1, g7, g8, hs, hle, hsm⟩
 obtain ⟨σ, rfl⟩ := upds4 g0 g1 g7 g8
 clear g0 g1 g7 g8
 unfold l53_0
 simp
 refine kIf_intro (fun h => ?_) (fun h => ?_)
 ·simp only [decide_eq_true_eq] at h
  obtain ⟨y, hy, hym⟩ := get_of (l := xs) (k := k) (by omega)
  have e1 : IntKind.i64.wrap ((k : Int) + 1) = ((k + 1 : Nat) : Int) := by rw [IntKind.wrap_i64]; omega
  have ho1 : OwnS 32 l1 v j (xs.map eId) := ho.frame fun hj => hsm j hj
  obtain ⟨q, cs, o, a1, a2, a3, a4⟩ := ho1.q.get (k := .i64) (i := k) (e := eId y) (by rw [List.getElem?_map, hy]; rfl)
  simp [a1, a2, a3, a4]
  refine ⟨hg, ?_⟩
  have := hp y hym l1 ⟨hle, fun b hb _ => hsm b hb⟩
  simp at this
  refine this _ fun l2 h1 h2 => ?_
  cases h5 : p y with
  | true =>
   simp
   refine hK _ _ (.inr ⟨k, rfl, h, fun i z hi hz => hs i z hi hz, fun w hw => ?_⟩) (by omega) (fun b hb => by rw [h2 b (by omega)]; exact hsm b hb)
   rw [hy] at hw; obtain rfl := Option.some.inj hw; exact h5
  | false =>
   simp [e1]
   refine ⟨by omega, by simp, by simp, by simp, by simp, fun i z hi hz => ?_, by omega, fun b hb => by rw [h2 b (by omega)]; exact hsm b hb⟩
   by_cases hik : i = k
   ·rw [hik, hy] at hz; obtain rfl := Option.some.inj hz; exact h5
   ·exact hs i z (by omega) hz
 ·simp [h]
  have hk2 : k = xs.length := by simp at h; omega
  refine hK _ _ (.inl ⟨rfl, fun z hz => ?_⟩) hle hsm
  obtain ⟨i, hi⟩ := List.mem_iff_getElem?.1 hz
  exact hs i z (by rw [hk2]; exact (List.getElem?_eq_some_iff.1 hi).1) hi
structure DelI (l0 : Hl) (v : CV) (g : FuncId) (cap : List CV) (j : Nat) (xs : List (List B)) (p : List B → Bool) (k : Nat) (σ : Sg) (l : Hl) : Prop where
 g0 : σ 0 = v
 g1 : σ 1 = .fn g [] cap
 g6 : σ 6 = .int .i64 k
 gx : Gx j l0 l
 ex : ∃ (q : Nat) (ys : List (List B)), σ 5 = .int .i64 (q : Int) ∧ OwnS 32 l v j (ys.map eId) ∧ ys.length = xs.length ∧ (∀ x ∈ ys, x.length = 32) ∧ ys.take q = (xs.take k).filter (fun t => !p t) ∧ q < k ∧ ∀ t, k ≤ t → ys[t]? = xs[t]?
theorem filter_all {p : List B → Bool} {l : List (List B)} (h : ∀ z ∈ l, p z = false) : l.filter (fun t => !p t) = l := by
 rw [List.filter_eq_self]
 intro a ha; rw [h a ha]; rfl
theorem filter_take {p : List B → Bool} {l : List (List B)} {k : Nat} (h : ∀ (i : Nat) (z : List B), i < k → l[i]? = some z → p z = false) : (l.take k).filter (fun t => !p t) = l.take k := by
 refine filter_all fun z hz => ?_
 obtain ⟨i, hi⟩ := List.mem_iff_getElem?.1 hz
 have hil := (List.getElem?_eq_some_iff.1 hi).1
 rw [List.length_take] at hil
 rw [List.getElem?_take_of_lt (by omega)] at hi
 exact h i z (by omega) hi
theorem filter_step {p : List B → Bool} {l : List (List B)} {k : Nat} {y : List B} (h : l[k]? = some y) : (l.take (k + 1)).filter (fun t => !p t) = (l.take k).filter (fun t => !p t) ++ (if p y then [] else [y]) := by
 rw [List.take_add_one, h, List.filter_append]
 cases hp : p y <;> simp [hp]
set_option maxHeartbeats 1000000 in
theorem deleteI_own {g : FuncId} {cap : List CV} {j : Nat} {l : Hl} {v : CV} {xs : List (List B)} {p : List B → Bool} (hg : funOkB Tryz.prog g = true) (ho : OwnS 32 l v j (xs.map eId)) (hz : (∀ x ∈ xs, x.length = 32)) (hn : xs.length ≤ 1000000) (hp : CondP g cap j l xs p)
  {K : CV → Hl → Prop} (hK : ∀ r l', OwnS 32 l' r j ((xs.filter fun t => !p t).map eId) → Gx j l l' → isNilS r = isNilS v → K r l') :
  CallP Tryz.prog GS 36 [v, .fn g [] cap] l (c := ⟨K⟩) := by
 apply call_intro c36_eq r36_eq
 unfold c36 r36
 have hlen := ho.len
 rw [List.length_map] at hlen
 simp
 refine indexI_own hg ho hz hn hp fun n l1 hcase hle hsm => ?_
 rcases hcase with ⟨rfl, hall⟩ | ⟨k0, rfl, hk0, hlo, hat⟩
 ·simp
  refine hK _ _ ?_ ⟨hle, fun b hb _ => hsm b hb⟩ rfl
  rw [filter_all hall]
  exact ho.frame fun hj => hsm j hj
 ·have hne : ¬ ((k0 : Int) = -1) := by omega
  have e1 : IntKind.i64.wrap ((k0 : Int) + 1) = ((k0 + 1 : Nat) : Int) := by rw [IntKind.wrap_i64]; omega
  have ho1 : OwnS 32 l1 v j (xs.map eId) := ho.frame fun hj => hsm j hj
  have hv : isNilS v = false := by
   cases hnv : isNilS v with
   | false => rfl
   | true =>
    have := isNil_iff.1 hnv
    subst this
    have := ho.q.nil_of
    rw [List.map_eq_nil_iff] at this
    rw [this] at hk0; simp at hk0
  simp [hne, e1]
  refine loop_up (xs.length - (k0 + 1)) (fun m => DelI l v g cap j xs p (k0 + 1 + m)) ?_ ⟨by simp, by simp, by simp, ⟨hle, fun b hb _ => hsm b hb⟩, k0, xs, by simp, ho1, rfl, hz, ?_, by omega, fun _ _ => rfl⟩
  ·rintro m σ l2 hm ⟨g0, g1, g6, hgx, q, ys, g5, hq, hyl, hyz, htk, hqk, hsame⟩
   obtain ⟨k, hk⟩ : ∃ k, k = k0 + 1 + m := ⟨_, rfl⟩
   rw [show k0 + 1 + (m + 1) = k + 1 by omega]
   rw [← hk] at g6 htk hqk hsame
   obtain ⟨σ, rfl⟩ := upds4 g0 g1 g5 g6
   clear g0 g1 g5 g6
   unfold l36_0
   have hlq := hq.len
   rw [List.length_map, hyl] at hlq
   by_cases hlt : k < xs.length
   ·have hlt' : (k : Int) < (xs.length : Int) := by omega
    obtain ⟨y, hy, hym⟩ := get_of (l := xs) (k := k) hlt
    have hyid := hz y hym
    have hYl := eId_len hyid
    have hsp : splice (rep 32 (.int .u8 0)) 0 (eId y) = eId y := splice_full (by rw [hYl]; rfl)
    have e2 : IntKind.i64.wrap ((k : Int) + 1) = ((k + 1 : Nat) : Int) := by rw [IntKind.wrap_i64]; omega
    have e3 : IntKind.i64.wrap ((q : Int) + 1) = ((q + 1 : Nat) : Int) := by rw [IntKind.wrap_i64]; omega
    have hyk : ys[k]? = some y := by rw [hsame k (Nat.le_refl _)]; exact hy
    obtain ⟨pp, cs, o, a1, a2, a3, a4⟩ := hq.q.get (k := .i64) (i := k) (e := eId y) (by rw [List.getElem?_map, hyk]; rfl)
    have hgx3 : Gx j l (l2 ++ [CB.cells 32 (eId y)]) := ⟨by have := hgx.le; simp; omega, fun b hb hbj => by rw [List.getElem?_append_left (by have := hgx.le; omega)]; exact hgx.same b hb hbj⟩
    have hcall := hp y hym _ hgx3
    have hfs := filter_step (p := p) hy
    have hsetL := fun (l4 : Hl) (h : OwnS 32 l4 v j (ys.map eId)) => ow_set (X := .ag (eId y)) rfl h (fun t ht => eId_len (hyz t ht)) (k := q) (x := y) (by omega) hYl
    simp at hcall
    obtain ⟨Y, hY⟩ : ∃ Y, Y = eId y := ⟨_, rfl⟩
    rw [← hY] at hYl hsp a4 hcall hsetL
    simp [hlq, hlt', a1, a2, a3, a4, hYl, hsp, List.take_of_length_le]
    refine ⟨hg, ?_⟩
    refine hcall _ fun l4 h1 h2 => ?_
    have hl24 : l2.length < l4.length := by omega
    have hs24 : ∀ b, b < l2.length → l4[b]? = l2[b]? := fun b hb => by rw [h2 b (by omega), List.getElem?_append_left hb]
    have hq4 : OwnS 32 l4 v j (ys.map eId) := hq.frame fun hj => hs24 j hj
    have hat4 : l4[l2.length]? = some (.cells 32 Y) := by rw [h2 _ (by simp)]; simp
    have hgx4 : Gx j l l4 := ⟨by have := hgx.le; omega, fun b hb hbj => by rw [hs24 b (by have := hgx.le; omega)]; exact hgx.same b hb hbj⟩
    cases h5 : p y with
    | true =>
     rw [h5, if_pos rfl, List.append_nil] at hfs
     simp [e2]
     refine ⟨by omega, by simp, by simp, by simp, hgx4, q, ys, by simp, hq4, hyl, hyz, by rw [hfs]; exact htk, by omega, fun t ht => hsame t (by omega)⟩
    | false =>
     rw [h5, if_neg (by simp)] at hfs
     obtain ⟨p5, l5, z1, z2, z3, z4, z5⟩ := hsetL l4 hq4
     simp [hat4, hYl, z1, z2, e2, e3, List.take_of_length_le]
     refine ⟨by omega, by simp, by simp, by simp, ⟨by have := hgx4.le; omega, fun b hb hbj => by rw [z5 b hbj]; exact hgx4.same b hb hbj⟩, q + 1, ys.set q y, by simp, z3, by simp [hyl], fun t ht => ?_, ?_, by omega, fun t ht => ?_⟩
     ·rcases List.mem_or_eq_of_mem_set ht with h | h
      ·exact hyz _ h
      ·rw [h]; exact hyid
     ·have tl : (ys.take q).length = q := by rw [List.length_take]; omega
      rw [List.set_eq_take_append_cons_drop, if_pos (by omega), List.take_append, tl, List.take_of_length_le (by omega), show q + 1 - q = 1 by omega, hfs, ← htk]; simp
     ·rw [List.getElem?_set_ne (by omega)]; exact hsame t (by omega)
   ·have hlt' : ¬ (k : Int) < (xs.length : Int) := by omega
    have hkl : k = xs.length := by omega
    obtain ⟨v3, l3, r, z1, z2, z3, z4, z5, z6, z7⟩ := ow_cut (z := 32) (zr := rep 32 (.int .u8 0)) rfl hq (k := q) (by omega)
    simp [hlq, hlt', z1, z2, z3]
    rw [hkl, List.take_length] at htk
    rw [htk] at z4
    exact hK _ _ z4 ⟨by have := hgx.le; omega, fun b hb hbj => by rw [z7 b hbj]; exact hgx.same b hb hbj⟩ (by rw [z5, hv])
  ·rw [List.take_add_one, List.filter_append, filter_take hlo]
   obtain ⟨y, hy, _⟩ := get_of (l := xs) (k := k0) hk0
   have := hat y hy
   rw [hy]; simp [this]
structure Slp where
 tk : Int
 op : Opr
 id : List B
 miss : Ids
def encSl (s : Slp) : List CV := .int .i64 s.tk :: (encOp s.op ++ (eId s.id ++ [encIds s.miss]))
abbrev Slps := Sv Slp
def encSls (s : Slps) : CV := encS 45 encSl s
structure OkSl (s : Slp) : Prop where
 op : OkOp s.op
 id : s.id.length = 32
 miss : okIds s.miss
 len : s.miss.l.length ≤ 1000000
def okSls (l : List Slp) : Prop := ∀ s ∈ l, OkSl s
theorem closedL_app : ∀ a b : List CV, closedL (a ++ b) = (closedL a && closedL b)
 | [], b => by simp [closedL]
 | x :: a, b => by
  rw [List.cons_append]
  simp only [closedL, closedL_app a b, Bool.and_assoc]
theorem closed_encSl (s : Slp) : closedL (encSl s) = true := by
 have h1 := closed_op s.op
 have h2 := closed_eId s.id
 have h3 := closed_ids s.miss
 unfold encSl
 simp only [closedL, CV.closed, Bool.true_and, closedL_app, h1, h2, h3, Bool.and_self]
theorem closed_Sls (s : Slps) : (encSls s).closed = true := closed_encS closed_encSl s
structure Row (s : Slp) (R : List CV) : Prop where
 len : R.length = 45
 tk : ∀ h : 0 < R.length, R[0]'h = .int .i64 s.tk
 op : R.tail.take 11 = encOp s.op
 id : (R.drop 12).take 32 = eId s.id
 miss : ∀ h : 44 < R.length, R[44]'h = encIds s.miss
 closed : closedL R = true
theorem row_of {s : Slp} (h : OkSl s) : Row s (encSl s) := by
 have hi := eId_len h.id
 have hl : (encSl s).length = 45 := by unfold encSl encOp; simp [hi]
 refine ⟨hl, fun _ => rfl, ?_, ?_, fun h2 => ?_, closed_encSl s⟩
 ·unfold encSl encOp; simp
 ·unfold encSl encOp
  simp [hi]
 ·have : (encSl s)[44]? = some (encIds s.miss) := by
   unfold encSl encOp
   simp [hi, List.getElem?_append]
  exact (List.getElem?_eq_some_iff.1 this).2
theorem fn_at : funOkB Tryz.prog 63 = true := by kernel_rfl
theorem at1 (s : Slp) (hs : OkSl s) (x : List B) (hx : x.length = 32) (r : Hl) {K : CV → Hl → Prop} (hK : ∀ r', K (.bool (decide (s.id = x))) (.cells 32 (eId x) :: r')) :
  CallP Tryz.prog GS 63 [.ag (encSl s), .ptr 0 0 32] (.cells 32 (eId x) :: r) (c := ⟨K⟩) := by
 apply call_intro c63_eq r63_eq
 unfold c63 r63
 have hR := row_of hs
 have hxl := eId_len hx
 have heq := idEql hs.id hx
 obtain ⟨R, hRe⟩ : ∃ R, R = encSl s := ⟨_, rfl⟩
 obtain ⟨X, hX⟩ : ∃ X, X = eId x := ⟨_, rfl⟩
 rw [← hRe] at hR ⊢
 rw [← hX] at hxl heq hK ⊢
 have h1 := hR.len
 have h2 := hR.id
 have h3 := eId_len hs.id
 simp [h1, h2, h3, hxl, heq, List.take_of_length_le]
 have := hK (r ++ [CB.cells 45 R])
 simpa using this
structure AtI (s : Slps) (x : List B) (k : Nat) (σ : Sg) (l : Hl) : Prop where
 hl : ∃ r, l = .cells 32 (eId x) :: r
 g0 : σ 0 = encSls s
 g1 : σ 1 = .fn 63 [] [.ptr 0 0 32]
 g7 : σ 7 = .int .i64 s.l.length
 g8 : σ 8 = .int .i64 k
 hs : ∀ (j : Nat) (z : List B), j < k → (s.l.map Slp.id)[j]? = some z → z ≠ x
theorem at_ix (s : Slps) (hs : okSls s.l) (hl : s.l.length ≤ 1000000) (x : List B) (hx : x.length = 32) {r : Hl} {K : CV → Hl → Prop} (hK : ∀ r', K (.int .i64 (ixOf x (s.l.map Slp.id) 0)) r') :
  CallP Tryz.prog GS 62 [encSls s, .fn 63 [] [.ptr 0 0 32]] (.cells 32 (eId x) :: r) (c := ⟨K⟩) := by
 apply call_intro c62_eq r62_eq
 unfold c62 r62
 have hlen : lenM (.sl 45) (encSls s) = some (.int .i64 s.l.length) := by simp [encSls]
 simp [hlen]
 refine loop_up s.l.length (AtI s x) ?_ ⟨⟨_, rfl⟩, by simp, by simp, by simp, by simp, fun j z h => by omega⟩
 rintro k σ l hk ⟨⟨r, rfl⟩, g0, g1, g7, g8, hss⟩
 obtain ⟨σ, rfl⟩ := upds4 g0 g1 g7 g8
 clear g0 g1 g7 g8
 unfold l62_0
 simp
 refine kIf_intro (fun h => ?_) (fun h => ?_)
 ·simp only [decide_eq_true_eq] at h
  obtain ⟨y, hy, hym⟩ := get_of (l := s.l) (k := k) (by omega)
  have hR := row_of (hs y hym)
  have e1 : IntKind.i64.wrap ((k : Int) + 1) = ((k + 1 : Nat) : Int) := by rw [IntKind.wrap_i64]; omega
  have hia : iaC (.sl 45) (encSls s) (.int .i64 (k : Int)) = some (.rptr (encSl y) 0) := by simp [encSls, hy]
  have hyk : (s.l.map Slp.id)[k]? = some y.id := by rw [List.getElem?_map, hy]; rfl
  simp [hia, hR.len, List.take_of_length_le]
  refine ⟨fn_at, at1 y (hs y hym) x hx r fun r' => ?_⟩
  by_cases he : y.id = x
  ·simp [he]
   have := ixOf_at (n := 0) hyk hss he
   rw [Nat.zero_add] at this
   rw [← this]
   exact hK _
  ·simp [he, e1]
   refine ⟨by omega, ⟨_, rfl⟩, by simp, by simp, by simp, by simp, fun j z hj hz => ?_⟩
   by_cases hjk : j = k
   ·rw [hjk, hyk] at hz; obtain rfl := Option.some.inj hz; exact he
   ·exact hss j z (by omega) hz
 ·simp [h]
  have hk2 : k = s.l.length := by simp at h; omega
  have := ixOf_no (n := 0) (l := s.l.map Slp.id) (x := x) fun j z hz => hss j z (by rw [hk2]; have := (List.getElem?_eq_some_iff.1 hz).1; simpa using this) hz
  rw [← this]
  exact hK _
theorem pAt_ok (s : Slps) (hs : okSls s.l) (hl : s.l.length ≤ 1000000) (x : List B) (hx : x.length = 32) : PureC Tryz.prog GS 45 [encSls s, .ag (eId x)] (.int .i64 (ixOf x (s.l.map Slp.id) 0)) := by
 refine pure_of Tryz.checked.mixed GS_closed ?_
 apply call_intro c45_eq r45_eq
 unfold c45 r45
 simp [eId_len hx]
 refine at_ix s hs hl x hx fun r' => ?_
 simp
 exact rd_eq rfl rfl
def slAt (l : List Slp) (k : Nat) : Slp := l.getD k ⟨0, ⟨0#32, none, 0#64, ⟨0#8, [], zeroVal⟩, 0#32, 0#32⟩, [], none⟩
theorem slAt_get {l : List Slp} {k : Nat} {x : Slp} (h : l[k]? = some x) : slAt l k = x := by
 unfold slAt; rw [List.getD_eq_getElem?_getD, h]; rfl
def tkPrev (l : List Slp) (k : Nat) : Int := if k = 0 then -1 else (slAt l (k - 1)).tk
def goodSl (l : List Slp) (k : Nat) : Bool :=
 decide (opErr (slAt l k).op = 0) && (decide (idOf (slAt l k).op = (slAt l k).id) && (decide (tkPrev l k < (slAt l k).tk) && (decide ((slAt l k).tk ≤ 1000000000) && (missB (slAt l k).op (slAt l k).miss.l && decide ((slAt l k).id ∉ (l.take k).map Slp.id)))))
def goodSls (l : List Slp) : Bool := decide (∀ k, k < l.length → goodSl l k = true)
def penErr (c : Int) (l : List Slp) : Int := if c < 1 ∨ 8 < c ∨ c < l.length then 8 else if goodSls l then 0 else 8
theorem pen_ok {c : Int} {l : List Slp} (h : ¬ (c < 1 ∨ 8 < c ∨ c < l.length)) (h2 : ∀ k, k < l.length → goodSl l k = true) : penErr c l = 0 := by
 unfold penErr goodSls; rw [if_neg h, decide_eq_true h2]; rfl
theorem pen_bad {c : Int} {l : List Slp} (h : ¬ (c < 1 ∨ 8 < c ∨ c < l.length)) {k : Nat} (hk : k < l.length) (h2 : goodSl l k = false) : penErr c l = 8 := by
 unfold penErr goodSls; rw [if_neg h, decide_eq_false fun hh => by rw [hh k hk] at h2; cases h2]; rfl
theorem idOf_len6 (o : Opr) : (idOf o).length = 32 := by
 unfold idOf; split
 ·exact sha_length _
 ·simp
def encP (c : Int) (s : Slps) : List CV := [.int .i64 c, encSls s]
theorem take_sls (s : Slps) {k : Nat} {y : Slp} (hy : s.l[k]? = some y) : sliceM (.sl 45) (encSls s) none (some (.int .i64 (k : Int))) none = some (encSls (some (s.l.take k))) := by
 cases s with
 | none => simp at hy
 | some a =>
  have hk := (List.getElem?_eq_some_iff.1 hy).1
  have := slice_to (z := 45) (enc := encSl) (l := a) (k := .i64) (i := (k : Int)) (by omega) (by simp at hk; omega)
  simpa [encSls] using this
abbrev zeroSl : List CV := CV.int .i64 0 :: CV.int .u32 0 :: CV.nilS :: CV.int .u64 0 :: CV.int .u8 0 :: CV.str [] :: CV.int .u8 0 :: CV.int .i64 0 :: CV.int .u64 0 :: CV.str [] :: CV.int .u32 0 :: CV.int .u32 0 :: (rep 32 (.int .u8 0) ++ [CV.nilS])
theorem spS {R : List CV} (h : R.length = 45) : splice (CV.int .i64 0 :: CV.int .u32 0 :: CV.nilS :: CV.int .u64 0 :: CV.int .u8 0 :: CV.str [] :: CV.int .u8 0 :: CV.int .i64 0 :: CV.int .u64 0 :: CV.str [] :: CV.int .u32 0 :: CV.int .u32 0 :: (rep 32 (.int .u8 0) ++ [CV.nilS])) 0 R = R := splice_full (by rw [h]; rfl)
structure PckI (c : Int) (s : Slps) (k : Nat) (σ : Sg) (l : Hl) : Prop where
 hl : ∃ r, l = .cells 2 (encP c s) :: r
 g1 : σ 1 = .ptr 0 0 2
 g3 : σ 3 = .int .i64 (tkPrev s.l k)
 g25 : σ 25 = encSls s
 g26 : σ 26 = .int .i64 s.l.length
 g27 : σ 27 = .int .i64 k
 hs : ∀ j, j < k → goodSl s.l j = true
set_option maxHeartbeats 1000000 in
theorem wPCheck_ok (c : Int) (s : Slps) (hs : okSls s.l) (hl : s.l.length ≤ 1000000) : PureC Tryz.prog GS 29 [.ag (encP c s)] (.int .i64 (penErr c s.l)) := by
 refine pure_of Tryz.checked.mixed GS_closed ?_
 apply call_intro c29_eq r29_eq
 unfold c29 r29
 have hlen : lenM (.sl 45) (encSls s) = some (.int .i64 s.l.length) := by simp [encSls]
 by_cases h1 : c < 1
 ·have hp : penErr c s.l = 8 := by unfold penErr; rw [if_pos (.inl h1)]
  rw [hp]
  simp [encP, h1]
  exact rd_eq rfl rfl
 ·by_cases h2 : 8 < c
  ·have hp : penErr c s.l = 8 := by unfold penErr; rw [if_pos (.inr (.inl h2))]
   rw [hp]
   simp [encP, h1, h2]
   exact rd_eq rfl rfl
  ·by_cases h3 : c < s.l.length
   ·have hp : penErr c s.l = 8 := by unfold penErr; rw [if_pos (.inr (.inr h3))]
    rw [hp]
    simp [encP, hlen, h1, h2, h3]
    exact rd_eq rfl rfl
   ·have hno : ¬ (c < 1 ∨ 8 < c ∨ c < s.l.length) := by omega
    simp [encP, hlen, h1, h2, h3]
    refine loop_up s.l.length (PckI c s) ?_ ⟨⟨_, rfl⟩, by simp, by simp [tkPrev], by simp, by simp, by simp, fun j h => by omega⟩
    rintro k σ l hk ⟨⟨r, rfl⟩, g1, g3, g25, g26, g27, hss⟩
    obtain ⟨σ, rfl⟩ := upds5 g1 g3 g25 g26 g27
    clear g1 g3 g25 g26 g27
    unfold l29_0
    simp
    refine kIf_intro (fun h => ?_) (fun h => ?_)
    ·simp only [decide_eq_true_eq] at h
     obtain ⟨y, hy, hym⟩ := get_of (l := s.l) (k := k) (by omega)
     have hoy := hs y hym
     have hR := row_of hoy
     have e1 : IntKind.i64.wrap ((k : Int) + 1) = ((k + 1 : Nat) : Int) := by rw [IntKind.wrap_i64]; omega
     have hia : iaC (.sl 45) (encSls s) (.int .i64 (k : Int)) = some (.rptr (encSl y) 0) := by simp [encSls, hy]
     have hst := take_sls s hy
     have hat := slAt_get hy
     have hwid := wID_ok y.op hoy.op
     have hmis := wMiss_ok y.op hoy.op y.miss hoy.miss hoy.len
     have htk : okSls ((s.l.take k)) := fun t ht => hs t (List.mem_of_mem_take ht)
     have hpa := pAt_ok (some (s.l.take k)) htk (by simp; omega) y.id hoy.id
     have hix := ixOf_neg y.id ((s.l.take k).map Slp.id) 0
     have hil := idOf_len6 y.op
     have hne := idNeq hil hoy.id
     have hyl := eId_len hoy.id
     have hcl := closed_Sls (some (s.l.take k))
     have hco := closed_op y.op
     have hcm := closed_ids y.miss
     have hci := closed_eId y.id
     have hga : goodSl s.l k = (decide (opErr y.op = 0) && (decide (idOf y.op = y.id) && (decide (tkPrev s.l k < y.tk) && (decide (y.tk ≤ 1000000000) && (missB y.op y.miss.l && decide (y.id ∉ (s.l.take k).map Slp.id)))))) := by unfold goodSl; rw [hat]
     have hbad : goodSl s.l k = false → penErr c s.l = 8 := fun hb => pen_bad hno h hb
     have htn : tkPrev s.l (k + 1) = y.tk := by unfold tkPrev; rw [if_neg (by omega), Nat.add_sub_cancel, hat]
     obtain ⟨R, hRe⟩ : ∃ R, R = encSl y := ⟨_, rfl⟩
     rw [← hRe] at hR hia
     obtain ⟨O, hO⟩ : ∃ O, O = encOp y.op := ⟨_, rfl⟩
     have f1 := hR.len
     have f2 := hR.tk
     have f3 := hR.op
     have f4 := hR.id
     have f5 := hR.miss
     rw [← hO] at f3 hwid hmis hco
     have hOl : O.length = 11 := by rw [hO]; rfl
     have hspR := spS f1
     obtain ⟨D, hD⟩ : ∃ D, D = (idOf y.op).map e8 := ⟨_, rfl⟩
     have hDl : D.length = 32 := by rw [hD, List.length_map, hil]
     have hspD : splice (rep 32 (.int .u8 0)) 0 D = D := splice_full (by rw [hDl]; rfl)
     unfold idC at hwid
     rw [← hD] at hwid
     simp [hia, f1, hspR, f3, hOl, List.take_of_length_le]
     refine pure_call hwid (by simp [closedL, CV.closed, hco]) ?_
     simp [hDl, hspD, List.take_of_length_le]
     have hneD : binC Tryz.prog .neq 32 (.ag D) (.ag (eId y.id)) = some (.bool !decide (idOf y.op = y.id)) := by rw [hD]; exact hne
     by_cases c1 : opErr y.op = 0
     ·by_cases c2 : idOf y.op = y.id
      ·by_cases c3 : tkPrev s.l k < y.tk
       ·have c3' : ¬ y.tk ≤ tkPrev s.l k := by omega
        by_cases c4 : y.tk ≤ 1000000000
        ·have c4' : ¬ 1000000000 < y.tk := by omega
         simp [c1, c2, hneD, f1, f2, f3, f4, f5, hyl, hOl, hDl, c3', c4', List.take_of_length_le]
         refine pure_call hmis (by simp [closedL, CV.closed, hco, hcm]) ?_
         cases c5 : missB y.op y.miss.l with
         | false =>
          have hb := hbad (by rw [hga]; simp [c5])
          rw [hb]
          simp
          exact rd_eq rfl rfl
         | true =>
          simp [encP, hst, f1, f4, hyl, List.take_of_length_le]
          refine pure_call hpa (by simp [closedL, CV.closed, hcl, hci]) ?_
          by_cases c6 : y.id ∈ (s.l.take k).map Slp.id
          ·have hb := hbad (by rw [hga]; simp only [c6, not_true, decide_false, Bool.and_false])
           have : 0 ≤ ixOf y.id ((s.l.map Slp.id).take k) 0 := by rw [← List.map_take]; exact hix.2 c6
           rw [hb]
           simp [this]
           exact rd_eq rfl rfl
          ·have hge : ¬ (0 ≤ ixOf y.id ((s.l.map Slp.id).take k) 0) := by rw [← List.map_take]; exact fun h => c6 (hix.1 h)
           have hgood : goodSl s.l k = true := by rw [hga, c5]; simp only [c1, c2, c3, c4, c6, decide_true, not_false_eq_true, Bool.and_self]
           simp [hge, f1, f2, e1]
           refine ⟨by omega, ⟨_, rfl⟩, by simp, by simp [htn], by simp, by simp, by simp, fun j hj => ?_⟩
           by_cases hjk : j = k
           ·rw [hjk]; exact hgood
           ·exact hss j (by omega)
        ·have c4' : 1000000000 < y.tk := by omega
         have hb := hbad (by rw [hga]; simp [c4])
         rw [hb]
         simp [c1, c2, hneD, f1, f2, f4, hyl, hDl, c3', c4', List.take_of_length_le]
         exact rd_eq rfl rfl
       ·have c3' : y.tk ≤ tkPrev s.l k := by omega
        have hb := hbad (by rw [hga]; simp [c3])
        rw [hb]
        simp [c1, c2, hneD, f1, f2, f4, hyl, hDl, c3', List.take_of_length_le]
        exact rd_eq rfl rfl
      ·have hb := hbad (by rw [hga]; simp [c2])
       rw [hb]
       simp [c1, c2, hneD, f1, f4, hyl, hDl, List.take_of_length_le]
       exact rd_eq rfl rfl
     ·have hb := hbad (by rw [hga]; simp [c1])
      rw [hb]
      simp [c1]
      exact rd_eq rfl rfl
    ·simp [h]
     exact rd_eq (by rw [pen_ok hno fun j hj => hss j (by simp at h; omega)]) rfl
structure RatI (c : Int) (s : Slps) (x : List B) (k : Nat) (σ : Sg) (l : Hl) : Prop where
 hl : l = [.cells 2 (encP c s), .cells 32 (eId x)]
 g2 : σ 2 = .ptr 0 0 2
 g3 : σ 3 = .ptr 1 0 32
 g5 : σ 5 = .int .i64 k
 hs : ∀ (j : Nat) (z : List B), j < k → (s.l.map Slp.id)[j]? = some z → z ≠ x
theorem rAt_ok (c : Int) (s : Slps) (hs : okSls s.l) (hl : s.l.length ≤ 1000000) (x : List B) (hx : x.length = 32) : PureC Tryz.prog GS 12 [.ag (encP c s), .ag (eId x)] (.int .i64 (ixOf x (s.l.map Slp.id) 0)) := by
 refine pure_of Tryz.checked.mixed GS_closed ?_
 apply call_intro c12_eq r12_eq
 unfold c12 r12
 have hlen : lenM (.sl 45) (encSls s) = some (.int .i64 s.l.length) := by simp [encSls]
 have hxl := eId_len hx
 simp [encP, hxl, hlen]
 refine loop_up s.l.length (RatI c s x) ?_ ⟨rfl, by simp, by simp, by simp, fun j z h => by omega⟩
 rintro k σ l hk ⟨rfl, g2, g3, g5, hss⟩
 obtain ⟨σ, rfl⟩ := upds3 g2 g3 g5
 clear g2 g3 g5
 unfold l12_0
 simp [encP, hlen]
 refine kIf_intro (fun h => ?_) (fun h => ?_)
 ·simp only [decide_eq_true_eq] at h
  obtain ⟨y, hy, hym⟩ := get_of (l := s.l) (k := k) (by omega)
  have hR := row_of (hs y hym)
  have e1 : IntKind.i64.wrap ((k : Int) + 1) = ((k + 1 : Nat) : Int) := by rw [IntKind.wrap_i64]; omega
  have hia : iaC (.sl 45) (encSls s) (.int .i64 (k : Int)) = some (.rptr (encSl y) 0) := by simp [encSls, hy]
  have hyk : (s.l.map Slp.id)[k]? = some y.id := by rw [List.getElem?_map, hy]; rfl
  have heq := idEql (hs y hym).id hx
  have hyl := eId_len (hs y hym).id
  obtain ⟨R, hRe⟩ : ∃ R, R = encSl y := ⟨_, rfl⟩
  rw [← hRe] at hR hia
  have f1 := hR.len
  have f4 := hR.id
  simp [hia, f1, f4, hyl, hxl, List.take_of_length_le, heq]
  by_cases he : y.id = x
  ·simp [he]
   have := ixOf_at (n := 0) hyk hss he
   rw [Nat.zero_add] at this
   exact rd_eq (by rw [this]) rfl
  ·simp [he, e1]
   refine ⟨by omega, rfl, by simp, by simp, by simp, fun j z hj hz => ?_⟩
   by_cases hjk : j = k
   ·rw [hjk, hyk] at hz; obtain rfl := Option.some.inj hz; exact he
   ·exact hss j z (by omega) hz
 ·simp [h]
  have hk2 : k = s.l.length := by simp at h; omega
  have := ixOf_no (n := 0) (l := s.l.map Slp.id) (x := x) fun j z hz => hss j z (by rw [hk2]; have := (List.getElem?_eq_some_iff.1 hz).1; simpa using this) hz
  exact rd_eq (by rw [this]) rfl
theorem nodup_len {α : Type} [DecidableEq α] : ∀ {l m : List α}, l.Nodup → (∀ x ∈ l, x ∈ m) → l.length ≤ m.length
 | [], m, _, _ => Nat.zero_le _
 | x :: l, m, h, hm => by
  obtain ⟨h1, h2⟩ := List.nodup_cons.1 h
  have hx := hm x (by simp)
  have ih := nodup_len (l := l) (m := m.erase x) h2 fun y hy => (List.mem_erase_of_ne (fun e => h1 (by rw [← e]; exact hy))).2 (hm y (by simp [hy]))
  have := List.length_erase_of_mem hx
  have := List.length_pos_of_mem hx
  simp only [List.length_cons]; omega
theorem ris_lt {l : List (List B)} (h : ris l = true) : ∀ {d i : Nat}, i + d + 1 < l.length → cmpB (idAt l i) (idAt l (i + d + 1)) < 0
 | 0, i, hi => ris_step h hi
 | d + 1, i, hi => cmpB_trans _ _ _ (ris_lt h (d := d) (i := i) (by omega)) (ris_step h (k := i + d + 1) hi)
theorem ris_nodup {l : List (List B)} (h : ris l = true) : l.Nodup := by
 refine List.pairwise_iff_getElem.2 fun i j hi hj hij he => ?_
 have := ris_lt h (d := j - i - 1) (i := i) (by omega)
 rw [show i + (j - i - 1) + 1 = j by omega] at this
 have e1 : idAt l i = l[i] := idAt_get (List.getElem?_eq_getElem hi)
 have e2 : idAt l j = l[j] := idAt_get (List.getElem?_eq_getElem hj)
 rw [e1, e2, he, cmpB_self] at this
 omega
structure LckI (o : Opr) (m : Ids) (k : Nat) (σ : Sg) (l : Hl) : Prop where
 hl : l = [.cells 11 (encOp o)]
 g1 : σ 1 = encIds m
 g2 : σ 2 = .ptr 0 0 11
 g5 : σ 5 = .int .i64 k
 hs : ∀ j, j < k → idAt m.l j ∈ o.preds.l
theorem rLacks_ok (o : Opr) (ho : OkOp o) (m : Ids) (hm : okIds m) (hl : m.l.length ≤ 1000000) : PureC Tryz.prog GS 38 [.ag (encOp o), encIds m] (.bool (missB o m.l)) := by
 refine pure_of Tryz.checked.mixed GS_closed ?_
 apply call_intro c38_eq r38_eq
 unfold c38 r38
 have hlen : lenM (.sl 32) (encIds m) = some (.int .i64 m.l.length) := by simp [encIds]
 have hplen : lenM (.sl 32) (encIds o.preds) = some (.int .i64 o.preds.l.length) := by simp [encIds]
 have hcp := closed_ids o.preds
 have hcm := closed_ids m
 by_cases h0 : m.l.length = 0
 ·have hb : missB o m.l = false := by unfold missB; rw [h0]; rfl
  rw [hb]
  simp [hlen, h0]
  exact rd_eq rfl rfl
 ·have h0' : ¬ ((m.l.length : Int) = 0) := by omega
  by_cases h1 : o.preds.l.length < m.l.length
  ·have h1' : ((o.preds.l.length : Int) < (m.l.length : Int)) := by omega
   have hb : missB o m.l = false := by
    cases h : missB o m.l with
    | false => rfl
    | true =>
     unfold missB at h
     rw [Bool.and_eq_true, Bool.and_eq_true] at h
     have := nodup_len (ris_nodup h.2.1) fun x hx => of_decide_eq_true (List.all_eq_true.1 h.2.2 x hx)
     omega
   rw [hb]
   simp [encOp, hlen, hplen, h0, h0', h1, h1']
   exact rd_eq rfl rfl
  ·have h1' : ¬ ((o.preds.l.length : Int) < (m.l.length : Int)) := by omega
   simp [encOp, hlen, hplen, h0, h0', h1, h1']
   refine pure_call (rRising_ok m hm hl) (by simp [closedL, CV.closed, hcm]) ?_
   cases h2 : ris m.l with
   | false =>
    have hb : missB o m.l = false := by unfold missB; rw [h2]; simp
    rw [hb]
    simp
    exact rd_eq rfl rfl
   | true =>
    simp
    refine loop_up m.l.length (LckI o m) ?_ ⟨rfl, by simp, by simp, by simp, fun j h => by omega⟩
    rintro k σ l hk ⟨rfl, g1, g2, g5, hss⟩
    obtain ⟨σ, rfl⟩ := upds3 g1 g2 g5
    clear g1 g2 g5
    unfold l38_0
    simp [hlen]
    refine kIf_intro (fun h => ?_) (fun h => ?_)
    ·simp only [decide_eq_true_eq] at h
     obtain ⟨y, hy, hym⟩ := get_of (l := m.l) (k := k) (by omega)
     have hyl := eId_len (hm y hym)
     have e1 : IntKind.i64.wrap ((k : Int) + 1) = ((k + 1 : Nat) : Int) := by rw [IntKind.wrap_i64]; omega
     have hia : iaC (.sl 32) (encIds m) (.int .i64 (k : Int)) = some (.rptr (eId y) 0) := by simp [encIds, hy]
     have hin := rIn_ok o.preds ho.ids ho.len y (hm y hym)
     have hcy := closed_eId y
     simp [encOp, hia, hyl, List.take_of_length_le]
     refine pure_call hin (by simp [closedL, CV.closed, hcp, hcy]) ?_
     by_cases hmem : y ∈ o.preds.l
     ·simp [hmem, e1]
      refine ⟨by omega, rfl, by simp, by simp, by simp, fun j hj => ?_⟩
      by_cases hjk : j = k
      ·rw [hjk, idAt_get hy]; exact hmem
      ·exact hss j (by omega)
     ·have hb : missB o m.l = false := by
       unfold missB
       cases h3 : (m.l.all fun x => decide (x ∈ o.preds.l)) with
       | false => simp
       | true => exact absurd (of_decide_eq_true (List.all_eq_true.1 h3 y hym)) hmem
      rw [hb]
      simp [hmem]
      exact rd_eq rfl rfl
    ·simp [h]
     have hk2 : k = m.l.length := by simp at h; omega
     have hb : missB o m.l = true := by
      unfold missB
      have h3 : (m.l.all fun x => decide (x ∈ o.preds.l)) = true := List.all_eq_true.2 fun x hx => by
       obtain ⟨j, hj⟩ := List.mem_iff_getElem?.1 hx
       have := hss j (by rw [hk2]; exact (List.getElem?_eq_some_iff.1 hj).1)
       rw [idAt_get hj] at this
       exact decide_eq_true this
      rw [h2, h3, decide_eq_true (by omega)]; rfl
     rw [hb]
     exact rd_eq rfl rfl
structure RckI (c : Int) (s : Slps) (k : Nat) (σ : Sg) (l : Hl) : Prop where
 hl : ∃ r, l = .cells 2 (encP c s) :: r
 g1 : σ 1 = .ptr 0 0 2
 g3 : σ 3 = .int .i64 k
 hs : ∀ j, j < k → goodSl s.l j = true
theorem tkPrev_ge {l : List Slp} : ∀ {k : Nat}, k ≤ l.length → (∀ j, j < k → goodSl l j = true) → -1 ≤ tkPrev l k
 | 0, _, _ => by simp [tkPrev]
 | k + 1, hk, h => by
  have ih := tkPrev_ge (l := l) (k := k) (by omega) fun j hj => h j (by omega)
  have hg := h k (by omega)
  unfold goodSl at hg
  simp only [Bool.and_eq_true, decide_eq_true_eq] at hg
  have := hg.2.2.1
  unfold tkPrev
  rw [if_neg (by omega), Nat.add_sub_cancel]
  omega
theorem ix_first {l : List Slp} {k : Nat} {y : Slp} (hy : l[k]? = some y) : ixOf y.id (l.map Slp.id) 0 = (k : Int) ↔ y.id ∉ (l.take k).map Slp.id := by
 have hyk : (l.map Slp.id)[k]? = some y.id := by rw [List.getElem?_map, hy]; rfl
 have hlt := (List.getElem?_eq_some_iff.1 hyk).1
 constructor
 ·intro h hm
  rw [List.map_take] at hm
  obtain ⟨j, hj⟩ := List.mem_iff_getElem?.1 hm
  have hjl := (List.getElem?_eq_some_iff.1 hj).1
  rw [List.length_take] at hjl
  rw [List.getElem?_take_of_lt (by omega)] at hj
  -- the first place is at most j
  have hfst : ∀ {l : List (List B)} {j n : Nat}, l[j]? = some y.id → ixOf y.id l n ≤ ((n + j : Nat) : Int) := by
   intro l
   induction l with
   | nil => intro j n h; simp at h
   | cons w r ih =>
    intro j n h
    unfold ixOf
    split
    ·omega
    ·rename_i hw
     rcases j with _ | j
     ·simp at h; exact absurd h hw
     ·have := ih (j := j) (n := n + 1) (by simpa using h)
      omega
  have := hfst (n := 0) hj
  rw [h] at this
  omega
 ·intro h
  have := ixOf_at (n := 0) hyk (fun j z hj hz he => h (by
   rw [List.map_take]
   exact List.mem_iff_getElem?.2 ⟨j, by rw [List.getElem?_take_of_lt hj, hz, he]⟩)) rfl
  simpa using this
set_option maxHeartbeats 1000000 in
theorem rPCheck_ok (c : Int) (s : Slps) (hs : okSls s.l) (hl : s.l.length ≤ 1000000) : PureC Tryz.prog GS 11 [.ag (encP c s)] (.int .i64 (penErr c s.l)) := by
 refine pure_of Tryz.checked.mixed GS_closed ?_
 apply call_intro c11_eq r11_eq
 unfold c11 r11
 have hlen : lenM (.sl 45) (encSls s) = some (.int .i64 s.l.length) := by simp [encSls]
 have hcs := closed_Sls s
 by_cases h1 : c < 1
 ·have hp : penErr c s.l = 8 := by unfold penErr; rw [if_pos (.inl h1)]
  rw [hp]
  simp [encP, h1]
  exact rd_eq rfl rfl
 ·by_cases h2 : 8 < c
  ·have hp : penErr c s.l = 8 := by unfold penErr; rw [if_pos (.inr (.inl h2))]
   rw [hp]
   simp [encP, h1, h2]
   exact rd_eq rfl rfl
  ·by_cases h3 : c < s.l.length
   ·have hp : penErr c s.l = 8 := by unfold penErr; rw [if_pos (.inr (.inr h3))]
    rw [hp]
    simp [encP, hlen, h1, h2, h3]
    exact rd_eq rfl rfl
   ·have hno : ¬ (c < 1 ∨ 8 < c ∨ c < s.l.length) := by omega
    simp [encP, hlen, h1, h2, h3]
    refine loop_up s.l.length (RckI c s) ?_ ⟨⟨_, rfl⟩, by simp, by simp, fun j h => by omega⟩
    rintro k σ l hk ⟨⟨r, rfl⟩, g1, g3, hss⟩
    obtain ⟨σ, rfl⟩ := upds2 g1 g3
    clear g1 g3
    unfold l11_0
    simp [encP, hlen]
    refine kIf_intro (fun h => ?_) (fun h => ?_)
    ·simp only [decide_eq_true_eq] at h
     obtain ⟨y, hy, hym⟩ := get_of (l := s.l) (k := k) (by omega)
     have hoy := hs y hym
     have hR := row_of hoy
     have e1 : IntKind.i64.wrap ((k : Int) + 1) = ((k + 1 : Nat) : Int) := by rw [IntKind.wrap_i64]; omega
     have hia : iaC (.sl 45) (encSls s) (.int .i64 (k : Int)) = some (.rptr (encSl y) 0) := by simp [encSls, hy]
     have hat := slAt_get hy
     have hwid := rID6_ok y.op hoy.op
     have hmis := rLacks_ok y.op hoy.op y.miss hoy.miss hoy.len
     have hpa := rAt_ok c s hs hl y.id hoy.id
     have hix := ix_first hy
     have hil := idOf_len6 y.op
     have hne := idNeq hil hoy.id
     have hyl := eId_len hoy.id
     have hco := closed_op y.op
     have hcm := closed_ids y.miss
     have hci := closed_eId y.id
     have hga : goodSl s.l k = (decide (opErr y.op = 0) && (decide (idOf y.op = y.id) && (decide (tkPrev s.l k < y.tk) && (decide (y.tk ≤ 1000000000) && (missB y.op y.miss.l && decide (y.id ∉ (s.l.take k).map Slp.id)))))) := by unfold goodSl; rw [hat]
     have hbad : goodSl s.l k = false → penErr c s.l = 8 := fun hb => pen_bad hno h hb
     have hge := tkPrev_ge (l := s.l) (k := k) (by omega) hss
     obtain ⟨R, hRe⟩ : ∃ R, R = encSl y := ⟨_, rfl⟩
     rw [← hRe] at hR hia
     obtain ⟨O, hO⟩ : ∃ O, O = encOp y.op := ⟨_, rfl⟩
     have f1 := hR.len
     have f2 := hR.tk
     have f3 := hR.op
     have f4 := hR.id
     have f5 := hR.miss
     rw [← hO] at f3 hwid hmis hco
     have hOl : O.length = 11 := by rw [hO]; rfl
     have hspR := spS f1
     obtain ⟨D, hD⟩ : ∃ D, D = (idOf y.op).map e8 := ⟨_, rfl⟩
     have hDl : D.length = 32 := by rw [hD, List.length_map, hil]
     have hspD : splice (rep 32 (.int .u8 0)) 0 D = D := splice_full (by rw [hDl]; rfl)
     have hneD : binC Tryz.prog .neq 32 (.ag D) (.ag (eId y.id)) = some (.bool !decide (idOf y.op = y.id)) := by rw [hD]; exact hne
     unfold idC at hwid
     rw [← hD] at hwid
     -- what comes behind the tickets
     have hrest : tkPrev s.l k < y.tk → y.tk ≤ 1000000000 → True := fun _ _ => trivial
     by_cases c0 : y.tk < 0
     ·have hb := hbad (by rw [hga, decide_eq_false (show ¬ tkPrev s.l k < y.tk by omega)]; simp)
      rw [hb]
      simp [hia, f1, hspR, f2, c0, List.take_of_length_le]
      exact rd_eq rfl rfl
     ·by_cases c4 : y.tk ≤ 1000000000
      ·have c4' : ¬ 1000000000 < y.tk := by omega
       by_cases hk0 : k = 0
       ·have c3 : tkPrev s.l k < y.tk := by rw [hk0]; simp [tkPrev]; omega
        have hk0' : ¬ (0 : Int) < (k : Int) := by omega
        have hkn : ¬ 0 < k := by omega
        simp [encP, hia, f1, hspR, f2, f4, hyl, c0, c4', hkn, List.take_of_length_le]
        refine pure_call hpa (show closedL [CV.ag (encP c s), CV.ag (eId y.id)] = true by simp [encP, closedL, CV.closed, hcs, hci]) ?_
        by_cases c6 : y.id ∈ (s.l.take k).map Slp.id
        ·have hb := hbad (by rw [hga]; simp only [c6, not_true, decide_false, Bool.and_false])
         have hnx : ¬ ixOf y.id (s.l.map Slp.id) 0 = (k : Int) := fun h => (hix.1 h) c6
         rw [hb]
         simp [hnx]
         exact rd_eq rfl rfl
        ·have hnx : ixOf y.id (s.l.map Slp.id) 0 = (k : Int) := hix.2 c6
         simp [hnx, f1, f3, hOl, List.take_of_length_le]
         refine pure_call hwid (by simp [closedL, CV.closed, hco]) ?_
         by_cases c1 : opErr y.op = 0
         ·by_cases c2 : idOf y.op = y.id
          ·simp [c1, c2, hneD, f1, f3, f4, f5, hyl, hOl, hDl, hspD, List.take_of_length_le]
           refine pure_call hmis (by simp [closedL, CV.closed, hco, hcm]) ?_
           cases c5 : missB y.op y.miss.l with
           | false =>
            have hb := hbad (by rw [hga]; simp [c5])
            rw [hb]
            simp
            exact rd_eq rfl rfl
           | true =>
            have hgood : goodSl s.l k = true := by rw [hga, c5]; simp only [c1, c2, c3, c4, c6, decide_true, not_false_eq_true, Bool.and_self]
            simp [e1]
            exact ⟨by omega, ⟨_, rfl⟩, by simp, by simp, fun j hj => by
             by_cases hjk : j = k
             ·rw [hjk]; exact hgood
             ·exact hss j (by omega)⟩
          ·have hb := hbad (by rw [hga]; simp [c2])
           rw [hb]
           simp [c1, c2, hneD, f1, f4, hyl, hDl, hspD, List.take_of_length_le]
           exact rd_eq rfl rfl
         ·have hb := hbad (by rw [hga]; simp [c1])
          rw [hb]
          simp [c1, hDl, hspD]
          exact rd_eq rfl rfl
       ·obtain ⟨z, hz, hzm⟩ := get_of (l := s.l) (k := k - 1) (by omega)
        have e3 : IntKind.i64.wrap ((k : Int) - 1) = ((k - 1 : Nat) : Int) := by rw [IntKind.wrap_i64]; omega
        have hk0' : (0 : Int) < (k : Int) := by omega
        have hkp : 0 < k := by omega
        have hiz : iaC (.sl 45) (encSls s) (.int .i64 ((k - 1 : Nat) : Int)) = some (.rptr (encSl z) 0) := by simp [encSls, hz]
        have hZ := row_of (hs z hzm)
        have g2 := hZ.tk
        have g1 := hZ.len
        have htz : tkPrev s.l k = z.tk := by unfold tkPrev; rw [if_neg hk0, slAt_get hz]
        obtain ⟨Z, hZe⟩ : ∃ Z, Z = encSl z := ⟨_, rfl⟩
        simp only [← hZe] at g1 g2 hiz
        by_cases c3 : tkPrev s.l k < y.tk
        ·have c3' : ¬ y.tk ≤ z.tk := by omega
         simp [encP, hia, hiz, f1, g1, hspR, f2, g2, f4, hyl, c0, c4', hkp, e3, c3', List.take_of_length_le]
         refine pure_call hpa (show closedL [CV.ag (encP c s), CV.ag (eId y.id)] = true by simp [encP, closedL, CV.closed, hcs, hci]) ?_
         by_cases c6 : y.id ∈ (s.l.take k).map Slp.id
         ·have hb := hbad (by rw [hga]; simp only [c6, not_true, decide_false, Bool.and_false])
          have hnx : ¬ ixOf y.id (s.l.map Slp.id) 0 = (k : Int) := fun h => (hix.1 h) c6
          rw [hb]
          simp [hnx]
          exact rd_eq rfl rfl
         ·have hnx : ixOf y.id (s.l.map Slp.id) 0 = (k : Int) := hix.2 c6
          simp [hnx, f1, f3, hOl, List.take_of_length_le]
          refine pure_call hwid (by simp [closedL, CV.closed, hco]) ?_
          by_cases c1 : opErr y.op = 0
          ·by_cases c2 : idOf y.op = y.id
           ·simp [c1, c2, hneD, f1, f3, f4, f5, hyl, hOl, hDl, hspD, List.take_of_length_le]
            refine pure_call hmis (by simp [closedL, CV.closed, hco, hcm]) ?_
            cases c5 : missB y.op y.miss.l with
            | false =>
             have hb := hbad (by rw [hga]; simp [c5])
             rw [hb]
             simp
             exact rd_eq rfl rfl
            | true =>
             have hgood : goodSl s.l k = true := by rw [hga, c5]; simp only [c1, c2, c3, c4, c6, decide_true, not_false_eq_true, Bool.and_self]
             simp [e1]
             exact ⟨by omega, ⟨_, rfl⟩, by simp, by simp, fun j hj => by
              by_cases hjk : j = k
              ·rw [hjk]; exact hgood
              ·exact hss j (by omega)⟩
           ·have hb := hbad (by rw [hga]; simp [c2])
            rw [hb]
            simp [c1, c2, hneD, f1, f4, hyl, hDl, hspD, List.take_of_length_le]
            exact rd_eq rfl rfl
          ·have hb := hbad (by rw [hga]; simp [c1])
           rw [hb]
           simp [c1, hDl, hspD]
           exact rd_eq rfl rfl
        ·have c3' : y.tk ≤ z.tk := by omega
         have hb := hbad (by rw [hga]; simp [c3])
         rw [hb]
         simp [encP, hia, hiz, f1, g1, hspR, f2, g2, f4, hyl, c0, c4', hkp, e3, c3', List.take_of_length_le]
         exact rd_eq rfl rfl
      ·have c4' : 1000000000 < y.tk := by omega
       have hb := hbad (by rw [hga]; simp [c4])
       rw [hb]
       simp [hia, f1, hspR, f2, c0, c4', List.take_of_length_le]
       exact rd_eq rfl rfl
    ·simp [h]
     exact rd_eq (by rw [pen_ok hno fun j hj => hss j (by simp at h; omega)]) rfl
theorem idsClone_val (s : Ids) (ho : okIds s) (hs : s.l.length ≤ 1000000) : PureC Tryz.prog GS 52 [encIds s] (encIds s) := by
 refine pure_of Tryz.checked.mixed GS_closed ?_
 refine idsClone_ob s ho hs fun v l' h => ?_
 exact h.rd closed_eId s rfl rfl
theorem splice1 {R : List CV} {i : Nat} (v : CV) (hi : i < R.length) : splice R i [v] = R.set i v := by
 unfold splice
 rw [List.set_eq_take_append_cons_drop, if_pos hi, List.length_singleton, List.append_assoc, List.singleton_append]
theorem splice_same {R : List CV} {i : Nat} {v : CV} (h : R[i]? = some v) : splice R i [v] = R := by
 obtain ⟨hi, he⟩ := List.getElem?_eq_some_iff.1 h
 rw [splice1 v hi, ← he, List.set_getElem_self]
theorem splice_twice (R : List CV) (i : Nat) (v w : CV) (hi : i < R.length) : splice (splice R i [v]) i [w] = splice R i [w] := by
 rw [splice1 v hi, splice1 w (by rw [List.length_set]; exact hi), splice1 w hi, List.set_set]
def rowW (s : Slp) (w : CV) : List CV := .int .i64 s.tk :: (encOp s.op ++ (eId s.id ++ [w]))
theorem splice_row {s : Slp} (h : s.id.length = 32) (w : CV) : splice (encSl s) 44 [w] = rowW s w := by
 have hi := eId_len h
 unfold splice encSl rowW encOp
 simp [hi, List.take_append, List.drop_append]
theorem row_pr (s : Slp) : (encSl s)[2]? = some (encIds s.op.preds) := rfl
theorem row_ms {s : Slp} (h : s.id.length = 32) : (encSl s)[44]? = some (encIds s.miss) := by
 have hi := eId_len h
 unfold encSl encOp
 simp [hi, List.getElem?_append]
theorem twin_ob (s : Slp) (hs : OkSl s) {l : Hl} {K : CV → Hl → Prop} (hK : ∀ w l', Ob 32 eId l l' w s.miss.l s.miss.isNone → K (.ag (rowW s w)) l') :
  CallP Tryz.prog GS 35 [.ag (encSl s)] l (c := ⟨K⟩) := by
 apply call_intro c35_eq r35_eq
 unfold c35 r35
 have hR := row_of hs
 have h2 := row_pr s
 have h44 := row_ms hs.id
 have hsr := splice_row hs.id
 have hcl := idsClone_val s.op.preds hs.op.ids hs.op.len
 have hcp := closed_ids s.op.preds
 have hpc : (encIds s.op.preds).cells = some [encIds s.op.preds] := by cases s.op.preds <;> rfl
 obtain ⟨R, hRe⟩ : ∃ R, R = encSl s := ⟨_, rfl⟩
 rw [← hRe] at hR h2 h44 hsr ⊢
 have f1 := hR.len
 have hs2 := splice_same h2
 have g2 : ∀ h : 2 < R.length, R[2]'h = encIds s.op.preds := fun h => (List.getElem?_eq_some_iff.1 h2).2
 have g44 := hR.miss
 simp [f1, g2, g44, List.take_of_length_le]
 refine pure_call hcl (by simp [closedL, CV.closed, hcp]) ?_
 simp [f1, g2, g44, hpc, hs2]
 obtain ⟨L, hL⟩ : ∃ L, L = l ++ [CB.cells 45 R, CB.cells 45 zeroSl] := ⟨_, rfl⟩
 have hLl : L.length = l.length + 2 := by rw [hL]; simp
 have q0 : L[l.length]? = some (.cells 45 R) := by rw [hL]; simp
 have q1 : L[l.length + 1]? = some (.cells 45 zeroSl) := by rw [hL]; simp
 unfold zeroSl at hL q1
 rw [← hL]
 refine idsClone_ob s.miss hs.miss hs.len fun w l1 h1 => ?_
 have hle := h1.le
 have p0 : l1[l.length]? = some (.cells 45 R) := by rw [h1.same _ (by omega)]; exact q0
 have p1 : l1[l.length + 1]? = some (.cells 45 (CV.int .i64 0 :: CV.int .u32 0 :: CV.nilS :: CV.int .u64 0 :: CV.int .u8 0 :: CV.str [] :: CV.int .u8 0 :: CV.int .i64 0 :: CV.int .u64 0 :: CV.str [] :: CV.int .u32 0 :: CV.int .u32 0 :: (rep 32 (.int .u8 0) ++ [CV.nilS]))) := by rw [h1.same _ (by omega)]; exact q1
 have hwc := h1.cells
 have hW := hsr w
 have hWl : (rowW s w).length = 45 := by rw [← hW, splice1 w (by omega), List.length_set, f1]
 have hspW := spS hWl
 have s0 : ∀ c : CB, (l1.set l.length c)[l.length]? = some c := fun c => List.getElem?_set_self (by omega)
 have s1 : ∀ c : CB, (l1.set l.length c)[l.length + 1]? = l1[l.length + 1]? := fun c => List.getElem?_set_ne (by omega)
 have s2 : ∀ c d : CB, ((l1.set l.length c).set (l.length + 1) d)[l.length + 1]? = some d := fun c d => List.getElem?_set_self (by simp; omega)
 have s3 : (l1.set l.length (.cells 45 R)) = l1 := by
  obtain ⟨hh, he⟩ := List.getElem?_eq_some_iff.1 p0
  rw [← he, List.set_getElem_self]
 simp [p0, p1, f1, hpc, hwc, hs2, s0, s1, s2, s3, hW, hWl, hspW, List.take_of_length_le]
 obtain ⟨j, o1, o2, o3, o4, o5⟩ := h1
 refine hK w _ ⟨j, o1.frame2 (o4.imp id fun h => ?_), by simp; omega, fun b hb => ?_, o4.imp id (by omega), o5⟩
 ·rw [List.getElem?_set_ne (by omega), List.getElem?_set_ne (by omega)]
 ·rw [List.getElem?_set_ne (by omega), List.getElem?_set_ne (by omega), o3 b (by omega), hL, List.getElem?_append_left hb]
theorem fn_come : funOkB Tryz.prog 37 = true := by kernel_rfl
theorem come_cond (x : List B) (hx : x.length = 32) {j bi : Nat} {l : Hl} {xs : List (List B)} (hz : ∀ y ∈ xs, y.length = 32) (h1 : l[bi]? = some (.cells 32 (eId x))) (hj : bi ≠ j) :
  CondP 37 [.ptr bi 0 32] j l xs (fun y => decide (y = x)) := by
 intro y hy l1 hg K hK
 apply call_intro c37_eq r37_eq
 unfold c37 r37
 have h1' : l1[bi]? = some (.cells 32 (eId x)) := by rw [hg.same _ (get_lt h1) hj]; exact h1
 have hl1 := get_lt h1'
 have g1 : ∀ c : CB, (l1 ++ [c])[bi]? = some (.cells 32 (eId x)) := fun c => by rw [List.getElem?_append_left hl1]; exact h1'
 have hyl := eId_len (hz y hy)
 have hxl := eId_len hx
 have heq := idEql (hz y hy) hx
 obtain ⟨X, hX⟩ : ∃ X, X = eId x := ⟨_, rfl⟩
 obtain ⟨Y, hY⟩ : ∃ Y, Y = eId y := ⟨_, rfl⟩
 rw [← hX] at g1 hxl heq
 rw [← hY] at hyl heq ⊢
 simp [g1, hyl, hxl, heq, List.take_of_length_le]
 exact hK _ (by simp) fun b hb => List.getElem?_append_left hb
def notX (x y : List B) : Bool := !decide (y = x)
theorem delI_val {l0 l : Hl} {w : CV} {xs : List (List B)} {nl : Bool} (h : Ob 32 eId l0 l w xs nl) (hz : ∀ y ∈ xs, y.length = 32) (hn : xs.length ≤ 1000000) (x : List B) (hx : x.length = 32) {bi : Nat} (h1 : l0[bi]? = some (.cells 32 (eId x)))
  {K : CV → Hl → Prop} (hK : ∀ (m : Ids) l2, l.length ≤ l2.length → (∀ b, b < l0.length → l2[b]? = l0[b]?) → m.l = xs.filter (notX x) → m.isNone = nl → K (encIds m) l2) :
  CallP Tryz.prog GS 36 [w, .fn 37 [] [.ptr bi 0 32]] l (c := ⟨K⟩) := by
 refine callP_wk Tryz.checked.mixed GS_closed ?_
 obtain ⟨j, o1, o2, o3, o4, o5⟩ := h
 have hbi := get_lt h1
 have h1l : l[bi]? = some (.cells 32 (eId x)) := by rw [o3 bi hbi]; exact h1
 by_cases hw : isNilS w = true
 ·have hwe := isNil_iff.1 hw
  subst hwe
  have hx0 : xs = [] := by have := o1.q.nil_of; rwa [List.map_eq_nil_iff] at this
  subst hx0
  refine deleteI_own (j := l.length + 1) (xs := []) (p := fun y => decide (y = x)) fn_come (.nil _) (by simp) (by simp) (fun y hy => by cases hy) fun r l' hr hgx hnr => ?_
  obtain rfl := isNil_iff.1 hnr
  refine ⟨.nilS, l', ⟨rfl, fun _ => .inl rfl⟩, .same _, hgx.le, hK none l' hgx.le (fun b hb => ?_) rfl (by rw [← o5]; rfl)⟩
  rw [hgx.same b (by omega) (by omega)]; exact o3 b hb
 ·have hw' : isNilS w = false := Bool.eq_false_iff.2 hw
  have hj : l0.length ≤ j := o4.resolve_left fun h => hw (isNil_iff.2 h)
  refine deleteI_own (p := fun y => decide (y = x)) fn_come o1 hz hn (come_cond x hx hz h1l (by omega)) fun r l' hr hgx hnr => ?_
  have hr' : isNilS r = false := by rw [hnr]; exact hw'
  obtain ⟨k1, k2⟩ := own_wk hr hr'
  refine ⟨_, l'.set j .dead, k1, k2, by have := hgx.le; simpa using this, hK (some (xs.filter (notX x))) _ (by have := hgx.le; simpa using this) (fun b hb => ?_) rfl (by rw [← o5, hw']; rfl)⟩
  rw [List.getElem?_set_ne (by omega), hgx.same b (by omega) (by omega)]; exact o3 b hb
def strikeM (x : List B) (m : Ids) : Ids := match m with | none => none | some a => some (a.filter (notX x))
def strikeS (x : List B) (s : Slp) : Slp := { s with miss := strikeM x s.miss }
theorem strikeM_l (x : List B) (m : Ids) : (strikeM x m).l = m.l.filter (notX x) := by cases m <;> rfl
theorem strikeM_of {x : List B} {m m' : Ids} (h1 : m'.l = m.l.filter (notX x)) (h2 : m'.isNone = m.isNone) : m' = strikeM x m := by
 cases m with
 | none => cases m' with
  | none => rfl
  | some a => cases h2
 | some a => cases m' with
  | none => cases h2
  | some b => exact congrArg some h1
theorem strike_ok {x : List B} {s : Slp} (h : OkSl s) : OkSl (strikeS x s) := by
 refine ⟨h.op, h.id, fun y hy => ?_, ?_⟩
 ·have : y ∈ (strikeM x s.miss).l := hy
  rw [strikeM_l] at this
  exact h.miss y (List.mem_filter.1 this).1
 ·show (strikeM x s.miss).l.length ≤ _
  rw [strikeM_l]
  exact Nat.le_trans (List.length_filter_le _ _) h.len
def gone (s : Slp) : Bool := s.miss.l.isEmpty
def freedL (x : List B) (l : List Slp) : List Slp := (l.map (strikeS x)).filter gone
def nextL (x : List B) (l : List Slp) : List Slp := (l.map (strikeS x)).filter fun s => !gone s
def svS (l : List Slp) : Slps := match l with | [] => none | a :: r => some (a :: r)
theorem svS_l (l : List Slp) : (svS l).l = l := by cases l <;> rfl
theorem svS_none (l : List Slp) : (svS l).isNone = l.isEmpty := by cases l <;> rfl
theorem step_list {p : Slp → Bool} {f : Slp → Slp} {l : List Slp} {k : Nat} {y : Slp} (h : l[k]? = some y) : ((l.take (k + 1)).map f).filter p = ((l.take k).map f).filter p ++ (if p (f y) then [f y] else []) := by
 rw [List.take_add_one, h, List.map_append, List.filter_append]
 cases hp : p (f y) <;> simp [hp]
structure ComH (c : Int) (s : Slps) (x : List B) (k : Nat) (v1 : CV) (l : Hl) : Prop where
 p0 : l[0]? = some (.cells 2 (encP c s))
 p1 : l[1]? = some (.cells 32 (eId x))
 p2 : l[2]? = some (.cells 2 [.int .i64 0, .nilS])
 ex : ∃ v2 j1 j2, l[3]? = some (.cells 2 [.int .i64 c, v2]) ∧ OwnS 45 l v1 j1 ((freedL x (s.l.take k)).map encSl) ∧ OwnS 45 l v2 j2 ((nextL x (s.l.take k)).map encSl) ∧ (v1 = .nilS ∨ 4 ≤ j1) ∧ (v2 = .nilS ∨ 4 ≤ j2) ∧ (v1 = .nilS ∨ v2 = .nilS ∨ j1 ≠ j2) ∧
  isNilS v1 = (freedL x (s.l.take k)).isEmpty ∧ isNilS v2 = (nextL x (s.l.take k)).isEmpty
 len : 4 ≤ l.length
structure ComI (c : Int) (s : Slps) (x : List B) (k : Nat) (σ : Sg) (l : Hl) : Prop where
 g2 : σ 2 = .ptr 0 0 2
 g3 : σ 3 = .ptr 1 0 32
 g4 : σ 4 = .ptr 2 0 2
 g8 : σ 8 = .ptr 3 0 2
 g22 : σ 22 = encSls s
 g23 : σ 23 = .int .i64 s.l.length
 g24 : σ 24 = .int .i64 k
 h : ∃ v1, σ 9 = v1 ∧ ComH c s x k v1 l
theorem appSl {l : Hl} {v : CV} {j : Nat} {es : List Slp} {s : Slp} (h : OwnS 45 l v j (es.map encSl)) (hs : (encSl s).length = 45) (hn : es.length ≤ 1000000) :
  ∃ v' j' l', appM (l ++ [.cells 45 (encSl s)]) 45 176 v (.sl 45 l.length 0 1 1 45) = some (v', l') ∧ OwnS 45 l' v' j' ((es ++ [s]).map encSl) ∧ l.length + 1 ≤ l'.length ∧ (∀ b, b < l.length → v = .nilS ∨ b ≠ j → l'[b]? = l[b]?) ∧ (l.length ≤ j' ∨ (v ≠ .nilS ∧ j' = j)) ∧ isNilS v' = false := by
 have hr : roomMax = 140737488355328 := rfl
 obtain ⟨v', j', l', a1, b1, c1, d1, e1, f1⟩ := appS (h.more [.cells 45 (encSl s)]) (by_ := 176) (x := .sl 45 l.length 0 1 1 45) (xs := [encSl s]) (by simp [contentsL, hs, List.take_of_length_le]) (by simp [hs]) (by omega) (by omega) (by rw [hr]; simp; omega)
 have f2 : isNilS v' = false := by rw [f1]; simp
 refine ⟨v', j', l', a1, by rw [List.map_append]; exact b1, by simpa using c1, fun b hb hv => ?_, ?_, f2⟩
 ·rw [d1 b (by simp; omega) hv, List.getElem?_append_left hb]
 ·rcases e1 with h | h | h
  ·exact .inl (by simp at h; omega)
  ·exact .inr h
  ·rw [h] at f2; cases f2
def comeW (c : Int) (l : List Slp) (x : List B) : CV :=
 if penErr c l = 0 then .tu [.ag (encP c (svS (nextL x l))), encSls (svS (freedL x l)), .int .i64 0] else .tu [.ag [.int .i64 0, .nilS], .nilS, .int .i64 (penErr c l)]
theorem rd_tu3 {l : Hl} {a b c a' b' c' : CV} (h1 : Rd l a a') (h2 : Rd l b b') (h3 : Rd l c c') : Rd l (.tu [a, b, c]) (.tu [a', b', c']) := by
 refine .tu _ _ rfl fun j x x' hx hx' => ?_
 rcases j with _ | _ | _ | j
 ·simp at hx hx'; subst hx hx'; exact h1
 ·simp at hx hx'; subst hx hx'; exact h2
 ·simp at hx hx'; subst hx hx'; exact h3
 ·simp at hx
theorem rd_ag2 {l : Hl} {a b a' b' : CV} (h1 : Rd l a a') (h2 : Rd l b b') : Rd l (.ag [a, b]) (.ag [a', b']) := by
 refine .ag _ _ rfl fun j x x' hx hx' => ?_
 rcases j with _ | _ | j
 ·simp at hx hx'; subst hx hx'; exact h1
 ·simp at hx hx'; subst hx hx'; exact h2
 ·simp at hx
set_option maxHeartbeats 2000000 in
theorem wCome_ok (c : Int) (s : Slps) (hs : okSls s.l) (hl : s.l.length ≤ 1000000) (x : List B) (hx : x.length = 32) : PureC Tryz.prog GS 10 [.ag (encP c s), .ag (eId x)] (comeW c s.l x) := by
 refine pure_of Tryz.checked.mixed GS_closed ?_
 apply call_intro c10_eq r10_eq
 unfold c10 r10 comeW
 have hlen : lenM (.sl 45) (encSls s) = some (.int .i64 s.l.length) := by simp [encSls]
 have hcs := closed_Sls s
 have hxl := eId_len hx
 have hck := wPCheck_ok c s hs hl
 have hcp : closedL [CV.ag (encP c s)] = true := by simp [encP, closedL, CV.closed, hcs]
 by_cases h0 : penErr c s.l = 0
 ·simp [encP, hxl]
  refine pure_call hck hcp ?_
  simp [h0, hlen]
  refine loop_up s.l.length (ComI c s x) ?_ ⟨by simp, by simp, by simp, by simp, by simp, by simp, by simp, .nilS, by simp, ⟨rfl, rfl, rfl, ⟨.nilS, 0, 0, rfl, .nil 0, .nil 0, .inl rfl, .inl rfl, .inl rfl, rfl, rfl⟩, by simp⟩⟩
  rintro k σ l hk ⟨g2, g3, g4, g8, g22, g23, g24, v1, g9, hH⟩
  obtain ⟨σ, rfl⟩ := upds8 g2 g3 g4 g8 g9 g22 g23 g24
  clear g2 g3 g4 g8 g9 g22 g23 g24
  unfold l10_0
  simp
  refine kIf_intro (fun h => ?_) (fun h => ?_)
  ·simp only [decide_eq_true_eq] at h
   obtain ⟨y, hy, hym⟩ := get_of (l := s.l) (k := k) (by omega)
   have hoy := hs y hym
   have hR := row_of hoy
   have hoz := strike_ok (x := x) hoy
   have hRz := row_of hoz
   have e1 : IntKind.i64.wrap ((k : Int) + 1) = ((k + 1 : Nat) : Int) := by rw [IntKind.wrap_i64]; omega
   have hia : iaC (.sl 45) (encSls s) (.int .i64 (k : Int)) = some (.rptr (encSl y) 0) := by simp [encSls, hy]
   have hsr := splice_row hoy.id
   obtain ⟨p0, p1, p2, ⟨v2, j1, j2, p3, o1, o2, d1, d2, d3, n1, n2⟩, hll⟩ := hH
   obtain ⟨n, hn⟩ : ∃ n, n = l.length := ⟨_, rfl⟩
   have htw : ∀ K : CV → Hl → Prop, (∀ w l', Ob 32 eId (l ++ [CB.cells 45 (encSl y)]) l' w y.miss.l y.miss.isNone → K (.ag (rowW y w)) l') → CallP Tryz.prog GS 35 [.ag (encSl y)] (l ++ [CB.cells 45 (encSl y)]) (c := ⟨K⟩) := fun K hK => twin_ob y hoy hK
   obtain ⟨R, hRe⟩ : ∃ R, R = encSl y := ⟨_, rfl⟩
   rw [← hRe] at hR hia hsr htw
   have f1 := hR.len
   have hspR := spS f1
   simp [hia, f1, hspR, List.take_of_length_le, ← hn]
   refine htw _ fun w l2 h2 => ?_
   have hle2 := h2.le
   have hln : (l ++ [CB.cells 45 R]).length = n + 1 := by rw [hn]; simp
   rw [hln] at hle2
   have q0 : l2[n]? = some (.cells 45 R) := by rw [h2.same n (by omega), hn]; simp
   have hW := hsr w
   have hWl : (rowW y w).length = 45 := by rw [← hW, splice1 w (by omega), List.length_set, f1]
   have hW44 : ∀ h : 44 < (rowW y w).length, (rowW y w)[44]'h = w := fun h => by
    have : (rowW y w)[44]? = some w := by rw [← hW, splice1 w (by omega), List.getElem?_set_self (by omega)]
    exact (List.getElem?_eq_some_iff.1 this).2
   have hfin : ∀ m : Ids, m = strikeM x y.miss → splice (rowW y w) 44 [encIds m] = encSl (strikeS x y) := fun m hm => by
    rw [← hW, splice_twice R 44 _ _ (by omega), hsr (encIds m), hm]; rfl
   obtain ⟨RW, hRW⟩ : ∃ RW, RW = rowW y w := ⟨_, rfl⟩
   rw [← hRW] at hWl hW44 hfin ⊢
   have hspW : splice R 0 RW = RW := splice_full (by rw [hWl, f1])
   have s0 : ∀ c : CB, (l2.set n c)[n]? = some c := fun c => List.getElem?_set_self (by omega)
   simp [q0, f1, hWl, hspW, s0, hW44]
   -- the struck ids
   have hob3 : Ob 32 eId ((l ++ [CB.cells 45 R]).set n (.cells 45 RW)) (l2.set n (.cells 45 RW)) w y.miss.l y.miss.isNone := by
    obtain ⟨j, b1, b2, b3, b4, b5⟩ := h2
    refine ⟨j, b1.frame2 (b4.imp id fun h => by rw [List.getElem?_set_ne (by omega)]), by simp; omega, fun b hb => ?_, b4.imp id (by simp), b5⟩
    rw [List.length_set] at hb
    by_cases hbn : b = n
    ·rw [hbn, List.getElem?_set_self (by omega), List.getElem?_set_self (by omega)]
    ·rw [List.getElem?_set_ne (by omega), List.getElem?_set_ne (by omega)]; exact b3 b hb
   have hbase : ∀ b, b < n → ((l ++ [CB.cells 45 R]).set n (.cells 45 RW))[b]? = l[b]? := fun b hb => by rw [List.getElem?_set_ne (by omega), List.getElem?_append_left (by omega)]
   refine delI_val hob3 hoy.miss hoy.len x hx (bi := 1) (by rw [hbase 1 (by omega)]; exact p1) fun m l4 hle4 hsm4 hm1 hm2 => ?_
   have hm := strikeM_of hm1 hm2
   have hL4 : n + 1 ≤ l4.length := by simp at hle4; omega
   have hq4 : l4[n]? = some (.cells 45 RW) := by rw [hsm4 n (by simp; omega), List.getElem?_set_self (by omega)]
   have hs4 : ∀ b, b < n → l4[b]? = l[b]? := fun b hb => by rw [hsm4 b (by simp; omega)]; exact hbase b hb
   have hmc : (encIds m).cells = some [encIds m] := by cases m <;> rfl
   have hF := hfin m hm
   have s4 : ∀ c : CB, (l4.set n c)[n]? = some c := fun c => List.getElem?_set_self (by omega)
   have hzm : ∀ h : 44 < (encSl (strikeS x y)).length, (encSl (strikeS x y))[44]'h = encIds m := fun h => by rw [hRz.miss h, hm]; rfl
   have hml : lenM (.sl 32) (encIds m) = some (.int .i64 m.l.length) := by simp [encIds]
   have hzl := hRz.len
   obtain ⟨L5, hL5⟩ : ∃ L5, L5 = l4.set n (.cells 45 (encSl (strikeS x y))) := ⟨_, rfl⟩
   have t5 : n + 1 ≤ L5.length := by rw [hL5]; simpa using hL4
   have t0 : ∀ b, b < n → L5[b]? = l[b]? := fun b hb => by rw [hL5, List.getElem?_set_ne (by omega)]; exact hs4 b hb
   have t1 : L5[n]? = some (.cells 45 (encSl (strikeS x y))) := by rw [hL5]; exact s4 _
   have u1 : OwnS 45 L5 v1 j1 ((freedL x (s.l.take k)).map encSl) := o1.frame2 (by
    rcases o1.lt with h | h
    ·exact .inl h
    ·exact .inr (t0 j1 (by omega)))
   have u2 : OwnS 45 L5 v2 j2 ((nextL x (s.l.take k)).map encSl) := o2.frame2 (by
    rcases o2.lt with h | h
    ·exact .inl h
    ·exact .inr (t0 j2 (by omega)))
   have hfk : (freedL x (s.l.take k)).length ≤ 1000000 := by
    unfold freedL
    refine Nat.le_trans (List.length_filter_le _ _) ?_
    rw [List.length_map, List.length_take]; omega
   have hnk : (nextL x (s.l.take k)).length ≤ 1000000 := by
    unfold nextL
    refine Nat.le_trans (List.length_filter_le _ _) ?_
    rw [List.length_map, List.length_take]; omega
   have hst1 := step_list (p := gone) (f := strikeS x) hy
   have hst2 := step_list (p := fun s => !gone s) (f := strikeS x) hy
   have hgo : gone (strikeS x y) = decide (m.l.length = 0) := by
    have e : (strikeS x y).miss = m := hm.symm
    unfold gone
    rw [e]
    cases m.l <;> simp
   obtain ⟨Z, hZ⟩ : ∃ Z, Z = encSl (strikeS x y) := ⟨_, rfl⟩
   simp only [← hZ] at hF hzm hzl t1 hL5
   simp [hq4, hWl, hmc, hF]
   rw [← hL5]
   by_cases hm0 : m.l.length = 0
   ·rw [hm0, decide_eq_true rfl] at hgo
    rw [hgo, if_pos rfl] at hst1
    rw [hgo] at hst2
    simp only [Bool.not_true, Bool.false_eq_true, if_false, List.append_nil] at hst2
    obtain ⟨v', j', l6, a1, b1, c1', dd, ee, ff⟩ := appSl u1 hRz.len hfk
    rw [← hZ] at a1
    have hspZ := spS hzl
    simp [t1, hzl, hzm, hml, hm0, hspZ, List.take_of_length_le, a1]
    refine AppK.keep ?_
    have v6 : ∀ b, b < 4 → l6[b]? = l[b]? := fun b hb => by rw [dd b (by omega) (d1.imp id fun h => by omega)]; exact t0 b (by omega)
    have hj2 := u2.lt
    have w2 : OwnS 45 l6 v2 j2 ((nextL x (s.l.take k)).map encSl) := u2.frame2 (by
     rcases hj2 with h | h
     ·exact .inl h
     ·rcases d3 with h3 | h3 | h3
      ·exact .inr (dd j2 h (.inl h3))
      ·exact .inl h3
      ·exact .inr (dd j2 h (.inr fun e => h3 e.symm)))
    simp [e1]
    refine ⟨by omega, by simp, by simp, by simp, by simp, by simp, by simp, by simp, v', by simp, ⟨by rw [v6 0 (by omega)]; exact p0, by rw [v6 1 (by omega)]; exact p1, by rw [v6 2 (by omega)]; exact p2, ⟨v2, j', j2, by rw [v6 3 (by omega)]; exact p3, ?_, ?_, .inr ?_, d2, ?_, ?_, ?_⟩, by omega⟩⟩
    ·show OwnS 45 l6 v' j' ((freedL x (s.l.take (k + 1))).map encSl)
     unfold freedL at b1 ⊢
     rw [hst1]; exact b1
    ·show OwnS 45 l6 v2 j2 ((nextL x (s.l.take (k + 1))).map encSl)
     unfold nextL at w2 ⊢
     rw [hst2]; exact w2
    ·rcases ee with h | ⟨h, h'⟩
     ·omega
     ·rw [h']; exact d1.resolve_left h
    ·right
     rcases d3 with h3 | h3 | h3
     ·rcases hj2 with h2 | h2
      ·exact .inl h2
      ·rcases ee with h | ⟨h, _⟩
       ·exact .inr (by omega)
       ·exact absurd h3 h
     ·exact .inl h3
     ·rcases hj2 with h2 | h2
      ·exact .inl h2
      ·rcases ee with h | ⟨_, h'⟩
       ·exact .inr (by omega)
       ·exact .inr (by rw [h']; exact h3)
    ·rw [ff]; unfold freedL; rw [hst1]; simp
    ·rw [n2]; unfold nextL; rw [hst2]
   ·rw [decide_eq_false hm0] at hgo
    rw [hgo, if_neg (by simp), List.append_nil] at hst1
    rw [hgo] at hst2
    simp only [Bool.not_false, if_true] at hst2
    obtain ⟨v', j', l6, a1, b1, c1', dd, ee, ff⟩ := appSl u2 hRz.len hnk
    rw [← hZ] at a1
    have hspZ := spS hzl
    have t3 : L5[3]? = some (.cells 2 [.int .i64 c, v2]) := by rw [t0 3 (by omega)]; exact p3
    have hv2c := o2.cells
    have hv'c := b1.cells
    have hm0' : ¬ m.l = [] := fun h => hm0 (by rw [h]; rfl)
    simp [t1, t3, hzl, hzm, hml, hm0, hm0', hspZ, List.take_of_length_le, hv2c, a1]
    refine AppK.keep ?_
    have v6 : ∀ b, b < 4 → l6[b]? = l[b]? := fun b hb => by rw [dd b (by omega) (d2.imp id fun h => by omega)]; exact t0 b (by omega)
    have r3 : l6[3]? = some (.cells 2 [.int .i64 c, v2]) := by rw [v6 3 (by omega)]; exact p3
    have hj1 := u1.lt
    have hj' : 4 ≤ j' := by
     rcases ee with h | ⟨h, h'⟩
     ·omega
     ·rw [h']; exact d2.resolve_left h
    have w1 : OwnS 45 l6 v1 j1 ((freedL x (s.l.take k)).map encSl) := u1.frame2 (by
     rcases hj1 with h | h
     ·exact .inl h
     ·rcases d3 with h3 | h3 | h3
      ·exact .inl h3
      ·exact .inr (dd j1 h (.inl h3))
      ·exact .inr (dd j1 h (.inr h3)))
    simp [r3, hv'c, splice, e1]
    refine ⟨by omega, by simp, by simp, by simp, by simp, by simp, by simp, by simp, v1, by simp, ⟨by rw [List.getElem?_set_ne (by omega), v6 0 (by omega)]; exact p0, by rw [List.getElem?_set_ne (by omega), v6 1 (by omega)]; exact p1, by rw [List.getElem?_set_ne (by omega), v6 2 (by omega)]; exact p2, ⟨v', j1, j', List.getElem?_set_self (by omega), ?_, ?_, d1, .inr hj', ?_, ?_, ?_⟩, by simp; omega⟩⟩
    ·show OwnS 45 _ v1 j1 ((freedL x (s.l.take (k + 1))).map encSl)
     refine (show OwnS 45 l6 v1 j1 ((freedL x (s.l.take (k + 1))).map encSl) from ?_).frame2 (d1.imp id fun h => by rw [List.getElem?_set_ne (by omega)])
     unfold freedL at w1 ⊢
     rw [hst1]; exact w1
    ·show OwnS 45 _ v' j' ((nextL x (s.l.take (k + 1))).map encSl)
     refine (show OwnS 45 l6 v' j' ((nextL x (s.l.take (k + 1))).map encSl) from ?_).frame2 (.inr (by rw [List.getElem?_set_ne (by omega)]))
     unfold nextL at b1 ⊢
     rw [hst2]; exact b1
    ·rcases hj1 with h2 | h2
     ·exact .inl h2
     ·rcases ee with h | ⟨h, h'⟩
      ·exact .inr (.inr (by omega))
      ·rcases d3 with h3 | h3 | h3
       ·exact .inl h3
       ·exact absurd h3 h
       ·exact .inr (.inr (by rw [h']; exact h3))
    ·rw [n1]; unfold freedL; rw [hst1]
    ·rw [ff]; unfold nextL; rw [hst2]; simp
  ·simp [h]
   have hk2 : k = s.l.length := by simp at h; omega
   obtain ⟨p0, p1, p2, ⟨v2, j1, j2, p3, o1, o2, d1, d2, d3, n1, n2⟩, hll⟩ := hH
   rw [hk2, List.take_length] at o1 o2 n1 n2
   have s2 : ∀ c : CB, (l.set 2 c)[2]? = some c := fun c => List.getElem?_set_self (by omega)
   have w1 : ∀ c : CB, OwnS 45 (l.set 2 c) v1 j1 ((freedL x s.l).map encSl) := fun c => o1.frame2 (d1.imp id fun h => by rw [List.getElem?_set_ne (by omega)])
   have w2 : ∀ c : CB, OwnS 45 (l.set 2 c) v2 j2 ((nextL x s.l).map encSl) := fun c => o2.frame2 (d2.imp id fun h => by rw [List.getElem?_set_ne (by omega)])
   simp [p3, p2, s2]
   rw [if_pos h0]
   exact rd_tu3 (rd_ag2 (.same _ rfl) ((w2 _).q.rd_enc closed_encSl (svS _) (by rw [n2, svS_none]) (svS_l _))) ((w1 _).q.rd_enc closed_encSl (svS _) (by rw [n1, svS_none]) (svS_l _)) (.same _ rfl)
 ·rw [if_neg h0]
  simp [encP, hxl]
  refine pure_call hck hcp ?_
  simp [h0]
  exact rd_eq rfl rfl
def nX (came : List (List B)) (y : List B) : Bool := !decide (y ∈ came)
def strikeML (came : List (List B)) (m : Ids) : Ids := match m with | none => none | some a => some (a.filter (nX came))
def strikeL (came : List (List B)) (s : Slp) : Slp := { s with miss := strikeML came s.miss }
def nowL (came : List (List B)) (l : List Slp) : List Slp := (l.map (strikeL came)).filter fun s => !gone s
def okS (s : Slp) : Prop := opErr s.op = 0 ∧ idOf s.op = s.id ∧ 0 ≤ s.tk ∧ s.tk ≤ 1000000000 ∧ missB s.op s.miss.l = true
theorem good_split (l : List Slp) : goodSls l = true ↔ (∀ s ∈ l, okS s) ∧ l.Pairwise (fun a b => a.tk < b.tk) ∧ l.Pairwise fun a b => a.id ≠ b.id := by
 constructor
 ·intro h
  have hk : ∀ k, k < l.length → goodSl l k = true := of_decide_eq_true h
  have hone : ∀ (k : Nat) (s : Slp), l[k]? = some s → opErr s.op = 0 ∧ idOf s.op = s.id ∧ tkPrev l k < s.tk ∧ s.tk ≤ 1000000000 ∧ missB s.op s.miss.l = true ∧ s.id ∉ (l.take k).map Slp.id := fun k s hs => by
   have := hk k (List.getElem?_eq_some_iff.1 hs).1
   unfold goodSl at this
   rw [slAt_get hs] at this
   simp only [Bool.and_eq_true, decide_eq_true_eq] at this
   exact this
  have hlt : ∀ (d i : Nat) (a b : Slp), l[i]? = some a → l[i + d + 1]? = some b → a.tk < b.tk := by
   intro d
   induction d with
   | zero =>
    intro i a b ha hb
    have := (hone (i + 1) b hb).2.2.1
    unfold tkPrev at this
    rw [if_neg (by omega), Nat.add_sub_cancel, slAt_get ha] at this
    exact this
   | succ d ih =>
    intro i a b ha hb
    obtain ⟨z, hz, _⟩ := get_of (l := l) (k := i + d + 1) (by have := (List.getElem?_eq_some_iff.1 hb).1; omega)
    have h1 := ih i a z ha hz
    have h2 := (hone (i + d + 1 + 1) b hb).2.2.1
    unfold tkPrev at h2
    rw [if_neg (by omega), Nat.add_sub_cancel, slAt_get hz] at h2
    omega
  refine ⟨fun s hs => ?_, List.pairwise_iff_getElem.2 fun i j hi hj hij => ?_, List.pairwise_iff_getElem.2 fun i j hi hj hij he => ?_⟩
  ·obtain ⟨k, hks⟩ := List.mem_iff_getElem?.1 hs
   obtain ⟨h1, h2, h3, h4, h5, _⟩ := hone k s hks
   have hge := tkPrev_ge (l := l) (k := k) (by have := (List.getElem?_eq_some_iff.1 hks).1; omega) fun j hj => hk j (by have := (List.getElem?_eq_some_iff.1 hks).1; omega)
   exact ⟨h1, h2, by omega, h4, h5⟩
  ·exact hlt (j - i - 1) i _ _ (List.getElem?_eq_getElem hi) (by rw [show i + (j - i - 1) + 1 = j by omega]; exact List.getElem?_eq_getElem hj)
  ·have := (hone j _ (List.getElem?_eq_getElem hj)).2.2.2.2.2
   refine this ?_
   rw [← he]
   exact List.mem_map_of_mem (List.mem_iff_getElem?.2 ⟨i, by rw [List.getElem?_take_of_lt hij]; exact List.getElem?_eq_getElem hi⟩)
 ·rintro ⟨h1, h2, h3⟩
  refine decide_eq_true fun k hk => ?_
  have hs := List.getElem?_eq_getElem hk
  obtain ⟨g1, g2, g3, g4, g5⟩ := h1 _ (List.getElem_mem hk)
  unfold goodSl
  rw [slAt_get hs]
  have c3 : tkPrev l k < l[k].tk := by
   unfold tkPrev
   by_cases h0 : k = 0
   ·rw [if_pos h0]; omega
   ·rw [if_neg h0, slAt_get (List.getElem?_eq_getElem (l := l) (i := k - 1) (by omega))]
    exact (List.pairwise_iff_getElem.1 h2) (k - 1) k (by omega) hk (by omega)
  have c6 : l[k].id ∉ (l.take k).map Slp.id := fun hm => by
   obtain ⟨z, hz, hzk⟩ := List.mem_map.1 hm
   obtain ⟨j, hj⟩ := List.mem_iff_getElem?.1 hz
   have hjl := (List.getElem?_eq_some_iff.1 hj).1
   rw [List.length_take] at hjl
   rw [List.getElem?_take_of_lt (by omega)] at hj
   have := (List.pairwise_iff_getElem.1 h3) j k (by omega) hk (by omega)
   rw [(List.getElem?_eq_some_iff.1 hj).2] at this
   exact this hzk
  simp only [g1, g2, c3, g4, g5, c6, decide_true, not_false_eq_true, Bool.and_self]
theorem ris_pair (l : List (List B)) : ris l = true ↔ l.Pairwise fun a b => cmpB a b < 0 := by
 constructor
 ·intro h
  refine List.pairwise_iff_getElem.2 fun i j hi hj hij => ?_
  have := ris_lt h (d := j - i - 1) (i := i) (by omega)
  rw [show i + (j - i - 1) + 1 = j by omega] at this
  rwa [idAt_get (List.getElem?_eq_getElem hi), idAt_get (List.getElem?_eq_getElem hj)] at this
 ·intro h
  refine ris_true fun k hk h1 => ?_
  have := (List.pairwise_iff_getElem.1 h) (k - 1) k (by omega) hk (by omega)
  rwa [idAt_get (List.getElem?_eq_getElem (l := l) (i := k - 1) (by omega)), idAt_get (List.getElem?_eq_getElem hk)]
theorem pen_good {c : Int} {l : List Slp} (h : penErr c l = 0) : ¬ (c < 1 ∨ 8 < c ∨ c < l.length) ∧ goodSls l = true := by
 unfold penErr at h
 split at h
 ·cases h
 ·rename_i h1
  split at h
  ·rename_i h2; exact ⟨h1, h2⟩
  ·cases h
end Op
end Go.CM

namespace Go.CM
open Go Go.Proofs Go.RowKit
set_option maxRecDepth 100000
namespace Op
open Sha
structure TySl (s : Slp) : Prop where
 op : TyOp s.op
 id : s.id.length = 32
 miss : okIds s.miss
theorem ty_sl1 {ts : List TypeId} {cs : List CV} (h : Ty Tryz.prog (46 :: ts) cs) : ∃ (s : Slp) (cs' : List CV), cs = encSl s ++ cs' ∧ TySl s ∧ Ty Tryz.prog ts cs' := by
 have h1 := ty_struct (fs := [3, 44, 32, 25]) (by kernel_rfl) h
 obtain ⟨n, _, rfl, _, _, h2⟩ := ty_int (k := .i64) (by kernel_rfl) h1
 obtain ⟨o, _, rfl, ho, h3⟩ := ty_op h2
 obtain ⟨x, _, rfl, hx, h4⟩ := ty_idm h3
 obtain ⟨m, cs', rfl, hm, h5⟩ := ty_ids h4
 exact ⟨⟨n, o, x, m⟩, cs', by simp [encSl, eId], ⟨ho, hx, hm⟩, h5⟩
theorem tyA_pend {ts : List TypeId} {cs : List CV} (h : TyA Tryz.prog (24 :: ts) cs) : ∃ (c : Int) (s : Slps) (cs' : List CV), cs = .ag (encP c s) :: cs' ∧ (∀ t ∈ s.l, TySl t) ∧ TyA Tryz.prog ts cs' := by
 obtain ⟨c, cs', rfl, h1, h2⟩ := tyA_cons h
 obtain ⟨cs, rfl, h3⟩ := tyV_agg (by kernel_rfl) h1
 have h4 := ty_struct (fs := [3, 22]) (by kernel_rfl) h3
 obtain ⟨n, _, rfl, _, _, h5⟩ := ty_int (k := .i64) (by kernel_rfl) h4
 obtain ⟨s, _, rfl, _, ho, h6⟩ := ty_sl (e := 46) (z := 45) (enc := encSl) (Q := TySl) (by kernel_rfl) (by kernel_rfl) (fun r hr => by
  obtain ⟨x, _, rfl, hx, h3⟩ := ty_sl1 hr
  rw [ty_nil h3, List.append_nil]
  exact ⟨x, rfl, hx⟩) h5
 rw [ty_nil h6]
 exact ⟨n, s, cs', rfl, ho, h2⟩
theorem row_id {s : Slp} (h : s.id.length = 32) : Row s (encSl s) := by
 have hi := eId_len h
 have hl : (encSl s).length = 45 := by unfold encSl encOp; simp [hi]
 refine ⟨hl, fun _ => rfl, ?_, ?_, fun h2 => ?_, closed_encSl s⟩
 ·unfold encSl encOp; simp
 ·unfold encSl encOp
  simp [hi]
 ·exact (List.getElem?_eq_some_iff.1 (row_ms h)).2
def bigS (s : Slp) : Bool := longO s.op || decide (40 < s.miss.l.length)
def greatP (l : List Slp) : Bool := decide (∃ t ∈ l.take 21, bigS t = true) || decide (20 < l.length)
theorem pGreat_le {l : List Slp} (h : greatP l = false) : l.length ≤ 20 ∧ ∀ t ∈ l, bigS t = false := by
 unfold greatP at h
 rw [Bool.or_eq_false_iff, decide_eq_false_iff_not, decide_eq_false_iff_not] at h
 refine ⟨by omega, fun t ht => ?_⟩
 rw [List.take_of_length_le (by omega)] at h
 exact Bool.eq_false_iff.2 fun h2 => h.1 ⟨t, ht, h2⟩
theorem okSl_of {s : Slp} (h : TySl s) (hb : bigS s = false) : OkSl s := by
 unfold bigS at hb
 rw [Bool.or_eq_false_iff, decide_eq_false_iff_not] at hb
 have hl := hb.1
 unfold longO at hl
 simp only [Bool.or_eq_false_iff, decide_eq_false_iff_not] at hl
 exact ⟨⟨h.op.ids, by omega, ⟨h.op.n1, h.op.n2, by omega⟩, by omega⟩, h.id, h.miss, by omega⟩
structure GrpI (c : Int) (s : Slps) (k : Nat) (σ : Sg) (l : Hl) : Prop where
 hl : l = [.cells 2 (encP c s)]
 g1 : σ 1 = .ptr 0 0 2
 g3 : σ 3 = .int .i64 k
 hs : ∀ (j : Nat) (t : Slp), j < k → s.l[j]? = some t → bigS t = false
theorem rPGreat_ok (c : Int) (s : Slps) (hs : ∀ t ∈ s.l, TySl t) : PureC Tryz.prog GS 17 [.ag (encP c s)] (.bool (greatP s.l)) := by
 refine pure_of Tryz.checked.mixed GS_closed ?_
 apply call_intro c17_eq r17_eq
 unfold c17 r17
 have hlen : lenM (.sl 45) (encSls s) = some (.int .i64 s.l.length) := by simp [encSls]
 simp [encP]
 refine loop_up (min s.l.length 21) (GrpI c s) ?_ ⟨rfl, by simp, by simp, fun j t h => by omega⟩
 rintro k σ l hk ⟨rfl, g1, g3, hss⟩
 obtain ⟨σ, rfl⟩ := upds2 g1 g3
 clear g1 g3
 unfold l17_0
 by_cases h : k < s.l.length
 ·have h' : (k : Int) < (s.l.length : Int) := by omega
  by_cases h2 : k ≤ 20
  ·have h2' : (k : Int) ≤ 20 := by omega
   obtain ⟨y, hy, hym⟩ := get_of (l := s.l) (k := k) h
   have hR := row_id (hs y hym).id
   have hia : iaC (.sl 45) (encSls s) (.int .i64 (k : Int)) = some (.rptr (encSl y) 0) := by simp [encSls, hy]
   have e1 : IntKind.i64.wrap ((k : Int) + 1) = ((k + 1 : Nat) : Int) := by rw [IntKind.wrap_i64]; omega
   have hlo := rLong_ok y.op
   have hco := closed_op y.op
   have hml : lenM (.sl 32) (encIds y.miss) = some (.int .i64 y.miss.l.length) := by simp [encIds]
   have hbig : bigS y = true → greatP s.l = true := fun hb => by
    unfold greatP
    rw [decide_eq_true (⟨y, List.mem_iff_getElem?.2 ⟨k, by rw [List.getElem?_take_of_lt (by omega)]; exact hy⟩, hb⟩ : ∃ t ∈ s.l.take 21, bigS t = true)]; rfl
   obtain ⟨R, hRe⟩ : ∃ R, R = encSl y := ⟨_, rfl⟩
   rw [← hRe] at hR hia
   obtain ⟨O, hO⟩ : ∃ O, O = encOp y.op := ⟨_, rfl⟩
   have f1 := hR.len
   have f3 := hR.op
   have f5 := hR.miss
   rw [← hO] at f3 hlo hco
   have hOl : O.length = 11 := by rw [hO]; rfl
   simp [encP, hlen, h, h', h2, h2', hia, f1, f3, hOl, List.take_of_length_le]
   refine pure_call hlo (by simp [closedL, CV.closed, hco]) ?_
   cases hlg : longO y.op with
   | true =>
    have hb := hbig (by unfold bigS; rw [hlg]; rfl)
    rw [hb]
    simp
    exact rd_eq rfl rfl
   | false =>
    by_cases h40 : 40 < y.miss.l.length
    ·have hb := hbig (by unfold bigS; rw [decide_eq_true h40]; simp)
     have h40' : (40 : Int) < (y.miss.l.length : Int) := by omega
     rw [hb]
     simp [encP, hia, f1, f5, hml, h40, h40']
     exact rd_eq rfl rfl
    ·have h40' : ¬ (40 : Int) < (y.miss.l.length : Int) := by omega
     simp [encP, hia, f1, f5, hml, h40, h40', e1]
     refine ⟨by omega, rfl, by simp, by simp, fun j t hj ht => ?_⟩
     by_cases hjk : j = k
     ·rw [hjk, hy] at ht; obtain rfl := Option.some.inj ht
      unfold bigS; rw [hlg, decide_eq_false h40]; rfl
     ·exact hss j t (by omega) ht
  ·have h2' : ¬ (k : Int) ≤ 20 := by omega
   have h4 : 20 < s.l.length := by omega
   have h4' : (20 : Int) < (s.l.length : Int) := by omega
   have hb : greatP s.l = true := by unfold greatP; simp [h4]
   rw [hb]
   simp [encP, hlen, h, h2, h', h2', h4, h4']
   exact rd_eq rfl rfl
 ·have h' : ¬ (k : Int) < (s.l.length : Int) := by omega
  have h4 : ((20 : Int) < (s.l.length : Int)) ↔ 20 < s.l.length := by omega
  have hb : greatP s.l = decide (20 < s.l.length) := by
   unfold greatP
   rw [decide_eq_false (p := ∃ t ∈ s.l.take 21, bigS t = true), Bool.false_or]
   rintro ⟨t, ht, ht2⟩
   obtain ⟨j, hj⟩ := List.mem_iff_getElem?.1 ht
   have hjl := (List.getElem?_eq_some_iff.1 hj).1
   rw [List.length_take] at hjl
   rw [List.getElem?_take_of_lt (by omega)] at hj
   rw [hss j t (by omega) hj] at ht2; cases ht2
  rw [hb]
  simp [encP, hlen, h, h', h4]
  exact rd_eq rfl rfl
structure AllI (a b : Ids) (k : Nat) (σ : Sg) (l : Hl) : Prop where
 g0 : σ 0 = encIds a
 g1 : σ 1 = encIds b
 g5 : σ 5 = .int .i64 k
 hs : ∀ (j : Nat) (y : List B), j < k → a.l[j]? = some y → y ∈ b.l
end Op
end Go.CM

namespace Go.CM
open Go Go.Proofs
set_option maxRecDepth 100000
namespace Op
open Sha
theorem appId {l : Hl} {v : CV} {j : Nat} {es : List (List B)} {x : List B} (h : OwnS 32 l v j (es.map eId)) (hs : (eId x).length = 32) (hn : es.length ≤ 1000000) :
  ∃ v' j' l', appM (l ++ [.cells 32 (eId x)]) 32 32 v (.sl 32 l.length 0 1 1 32) = some (v', l') ∧ OwnS 32 l' v' j' ((es ++ [x]).map eId) ∧ l.length + 1 ≤ l'.length ∧ (∀ b, b < l.length → v = .nilS ∨ b ≠ j → l'[b]? = l[b]?) ∧ (l.length ≤ j' ∨ (v ≠ .nilS ∧ j' = j)) ∧ isNilS v' = false := by
 have hr : roomMax = 140737488355328 := rfl
 obtain ⟨v', j', l', a1, b1, c1, d1, e1, f1⟩ := appS (h.more [.cells 32 (eId x)]) (by_ := 32) (x := .sl 32 l.length 0 1 1 32) (xs := [eId x]) (by simp [contentsL, hs, List.take_of_length_le]) (by simp [hs]) (by omega) (by omega) (by rw [hr]; simp; omega)
 have f2 : isNilS v' = false := by rw [f1]; simp
 refine ⟨v', j', l', a1, by rw [List.map_append]; exact b1, by simpa using c1, fun b hb hv => ?_, ?_, f2⟩
 ·rw [d1 b (by simp; omega) hv, List.getElem?_append_left hb]
 ·rcases e1 with h | h | h
  ·exact .inl (by simp at h; omega)
  ·exact .inr h
  ·rw [h] at f2; cases f2
structure FrsH (c : Int) (s : Slps) (ids : Ids) (k : Nat) (v : CV) (l : Hl) : Prop where
 p0 : l[0]? = some (.cells 2 (encP c s))
 ex : ∃ (w : Slps) (j : Nat), l[1]? = some (.cells 2 (encP c w)) ∧ w.l = nowL (ids.l.take k) s.l ∧ OwnS 32 l v j ((ids.l.take k).map eId) ∧ (v = .nilS ∨ 2 ≤ j) ∧ isNilS v = (ids.l.take k).isEmpty
 len : 2 ≤ l.length
structure FrsI (c : Int) (s : Slps) (ids : Ids) (k : Nat) (σ : Sg) (l : Hl) : Prop where
 g1 : σ 1 = encIds ids
 g2 : σ 2 = .ptr 0 0 2
 g5 : σ 5 = .bool true
 g6 : σ 6 = .ptr 1 0 2
 g8 : σ 8 = .int .i64 k
 h : ∃ v, σ 7 = v ∧ FrsH c s ids k v l
def aft (F : List Slp) (j : Nat) : Int := if j = 0 then -1 else (slAt F (j - 1)).tk
structure FreI (ids : Ids) (v : CV) (i n : Nat) (F : Slps) (H : Hl) (k : Nat) (σ : Sg) (l : Hl) : Prop where
 hl : l = H
 g1 : σ 1 = encIds ids
 g2 : σ 2 = .ptr 0 0 2
 g5 : σ 5 = .bool true
 g6 : σ 6 = .ptr 1 0 2
 g7 : σ 7 = v
 g8 : σ 8 = .int .i64 i
 g9 : σ 9 = .ptr n 0 2
 g10 : σ 10 = encSls F
 g12 : σ 12 = .int .i64 (aft F.l k)
 g13 : σ 13 = .int .i64 k
structure NxtI (ids : Ids) (v : CV) (i n : Nat) (H : Hl) (k : Nat) (σ : Sg) (l : Hl) : Prop where
 hl : l = H
 g1 : σ 1 = encIds ids
 g2 : σ 2 = .ptr 0 0 2
 g5 : σ 5 = .bool true
 g6 : σ 6 = .ptr 1 0 2
 g7 : σ 7 = v
 g8 : σ 8 = .int .i64 i
 g9 : σ 9 = .ptr n 0 2
 g15 : σ 15 = .int .i64 k
end Op
end Go.CM

namespace Go.CM
open Go Go.Proofs Go.Sort Go.Shelf
set_option maxRecDepth 100000
namespace Op
open Sha
def sortB (l : List (List B)) : List (List B) := l.mergeSort fun x y => !ltB y x
theorem idx_of : ∀ {xs : List (List B)}, (∀ i ∈ xs, i.length = 32) → ∃ ys : List Idx, ys.map (·.1) = xs
 | [], _ => ⟨[], rfl⟩
 | x :: xs, h => by
  obtain ⟨ys, hy⟩ := idx_of (xs := xs) fun i hi => h i (by simp [hi])
  exact ⟨⟨x, h x (by simp)⟩ :: ys, by simp [hy]⟩
theorem sorted_map (ys : List Idx) : (sorted cmpX ys).map (·.1) = sortB (ys.map (·.1)) := by
 unfold sorted sortB
 rw [List.map_mergeSort]
 intro a _ b _
 rfl
theorem q_s {z : Nat} {l l' : Hl} {v : CV} {j : Nat} {es es' : List (List CV)} (h : OwnS z l v j es) (h' : OwnQ z l' v j es') : OwnS z l' v j es' := by
 cases h with
 | nil j => have := h'.nil_of; subst this; exact .nil j
 | sl j n cap sz cs es hb hl hn hz hc hcap hcs =>
  generalize hv : CV.sl z j 0 n cap sz = w at h'
  cases h' with
  | nil => cases hv
  | sl j2 off2 n2 cap2 sz2 cs2 es2 hb2 hl2 hn2 hz2 hc2 hcap2 hcs2 =>
   injection hv with _ e1 e2 e3 e4 e5
   subst e2 e3 e4 e5
   exact .sl j n cap sz cs2 _ hb2 hl2 hn2 hz2 hc2 (by omega) (by simpa using hcs2)
theorem psort_nil : PureN Tryz.prog GS 39 [.nilS, .fn 40 [] []] (.tu []) :=
 pureN_runs (P := Tryz.prog) Tryz.checked.mixed GS_closed (noO_ok _ _) tbl_ok (fuel := 100) (k := 10) (by kernel_rfl)
theorem psort_call {l : Hl} {v : CV} {j : Nat} {xs : List (List B)} (hx : ∀ i ∈ xs, i.length = 32) (hl : xs.length ≤ 1000000) (hn : isNilS v = xs.isEmpty) (h : OwnS 32 l v j (xs.map eId)) {K : CV → Hl → Prop}
  (hK : ∀ l', l'.length = l.length → (∀ b, v = .nilS ∨ b ≠ j → l'[b]? = l[b]?) → OwnS 32 l' v j ((sortB xs).map eId) → K (.tu []) l') : CallP Tryz.prog GS 39 [v, .fn 40 [] []] l (c := ⟨K⟩) := by
 by_cases hnil : xs = []
 ·subst hnil
  have hvn : v = .nilS := isNil_iff.1 (by rw [hn]; rfl)
  subst hvn
  exact pure_call psort_nil.toC rfl (hK l rfl (fun _ _ => rfl) (by simpa [sortB] using OwnS.nil j))
 ·obtain ⟨ys, hy⟩ := idx_of hx
  have he : ys.map encX = xs.map eId := by rw [← hy, List.map_map]; rfl
  have hs : (sorted cmpX ys).map encX = (sortB xs).map eId := by rw [← hy, ← sorted_map, List.map_map]; rfl
  have hyl : ys.length = xs.length := by rw [← hy]; simp
  have hvn : v ≠ .nilS := fun hv => by subst hv; rw [show isNilS .nilS = true from rfl] at hn; exact hnil (by simpa using hn.symm)
  rw [← he] at h
  exact sortQ cmpX (sortL_ids (by intro args w; exact enters_of Tryz.func40 (by kernel_rfl) rfl args w)) swo_X anti_X encX_len encX_plain (fun x y => pCmp_ok x.1 y.1 x.2 y.2) h.q (by omega) (fun hn0 => absurd (by rw [← hy, hn0]; rfl) hnil)
   (fun l' h1 h2 h3 => hK l' h1 (fun b hb => h2 b (hb.resolve_left hvn)) (by rw [← hs]; exact q_s h h3))
theorem sortB_mem (l : List (List B)) (y : List B) : y ∈ sortB l ↔ y ∈ l := by unfold sortB; exact List.mem_mergeSort
theorem sortB_len (l : List (List B)) : (sortB l).length = l.length := by unfold sortB; exact List.length_mergeSort l
theorem mem_ddN (l : List (List B)) : ∀ m, m ≤ l.length → ∀ y, y ∈ ddN l m ↔ y ∈ l.take m
 | 0, _, y => by simp [ddN]
 | m + 1, hm, y => by
  have ih := mem_ddN l m (by omega)
  have hml : m < l.length := by omega
  obtain ⟨z, hz, _⟩ := get_of hml
  rw [ddN_succ, List.mem_append, ih y, List.take_add_one, hz, List.mem_append, idAt_get hz]
  simp only [Option.toList_some, List.mem_singleton]
  by_cases h : m = 0 ∨ z ≠ idAt l (m - 1)
  ·rw [if_pos h]; simp
  ·rw [if_neg h]
   have h0 : m ≠ 0 := fun e => h (.inl e)
   have h1 : z = idAt l (m - 1) := Decidable.byContradiction fun e => h (.inr e)
   obtain ⟨t, ht, _⟩ := get_of (l := l) (k := m - 1) (by omega)
   rw [idAt_get ht] at h1
   simp only [List.not_mem_nil, or_false]
   exact ⟨.inl, fun hh => hh.elim id fun e => by
    rw [e, h1]
    exact List.mem_iff_getElem?.2 ⟨m - 1, by rw [List.getElem?_take_of_lt (by omega)]; exact ht⟩⟩
theorem mem_dd (l : List (List B)) (y : List B) : y ∈ dd l ↔ y ∈ l := by
 unfold dd; rw [mem_ddN l _ (Nat.le_refl _), List.take_length]
theorem ddN_last (l : List (List B)) : ∀ m, m + 1 ≤ l.length → (ddN l (m + 1)).getLast? = some (idAt l m)
 | 0, _ => by rw [ddN_succ]; simp [ddN]
 | m + 1, hm => by
  have ih := ddN_last l m (by omega)
  rw [ddN_succ]
  by_cases h : m + 1 = 0 ∨ idAt l (m + 1) ≠ idAt l (m + 1 - 1)
  ·rw [if_pos h]; simp
  ·rw [if_neg h, List.append_nil, ih]
   have : idAt l (m + 1) = idAt l (m + 1 - 1) := Decidable.byContradiction fun e => h (.inr e)
   rw [this, Nat.add_sub_cancel]
theorem ddN_nb (l : List (List B)) : ∀ m, m ≤ l.length → ∀ k a b, (ddN l m)[k]? = some a → (ddN l m)[k + 1]? = some b → a ≠ b
 | 0, _, k, a, b, ha, _ => by simp [ddN] at ha
 | m + 1, hm, k, a, b, ha, hb => by
  have ih := ddN_nb l m (by omega)
  rw [ddN_succ] at ha hb
  by_cases h : m = 0 ∨ idAt l m ≠ idAt l (m - 1)
  ·rw [if_pos h] at ha hb
   have hkl := (List.getElem?_eq_some_iff.1 hb).1
   rw [List.length_append, List.length_singleton] at hkl
   by_cases hk : k + 1 < (ddN l m).length
   ·rw [List.getElem?_append_left (by omega)] at ha hb
    exact ih k a b ha hb
   ·have hke : k + 1 = (ddN l m).length := by omega
    rw [hke, List.getElem?_concat_length] at hb
    obtain rfl := Option.some.inj hb
    rw [List.getElem?_append_left (by omega)] at ha
    rcases m with _ | m
    ·simp [ddN] at ha
    ·have hl := ddN_last l m (by omega)
     rw [List.getLast?_eq_getElem?, ← hke, Nat.add_sub_cancel, ha] at hl
     obtain rfl := Option.some.inj hl
     intro e
     rcases h with h | h
     ·cases h
     ·rw [Nat.add_sub_cancel] at h; exact h e.symm
  ·rw [if_neg h, List.append_nil] at ha hb
   exact ih k a b ha hb
theorem dd_nb (l : List (List B)) (k : Nat) (a b : List B) (ha : (dd l)[k]? = some a) (hb : (dd l)[k + 1]? = some b) : a ≠ b := ddN_nb l _ (Nat.le_refl _) k a b ha hb
end Op
end Go.CM

namespace Go.CM
open Go Go.Proofs
set_option maxRecDepth 100000
namespace Op
open Sha
def allM (l : List Slp) : List (List B) := l.flatMap fun s => s.miss.l
def missV (l : List Slp) : Ids := if allM l = [] then none else some (dd (sortB (allM l)))
def missW (c : Int) (l : List Slp) : CV := if penErr c l = 0 then .tu [encIds (missV l), .int .i64 0] else .tu [.nilS, .int .i64 (penErr c l)]
theorem rd_tu2 {l : Hl} {a b a' b' : CV} (h1 : Rd l a a') (h2 : Rd l b b') : Rd l (.tu [a, b]) (.tu [a', b']) := by
 refine .tu _ _ rfl fun j x x' hx hx' => ?_
 rcases j with _ | _ | j
 ·simp at hx hx'; subst hx hx'; exact h1
 ·simp at hx hx'; subst hx hx'; exact h2
 ·simp at hx
theorem allM_len {l : List Slp} {n : Nat} (h : ∀ s ∈ l, s.miss.l.length ≤ n) : (allM l).length ≤ l.length * n := by
 induction l with
 | nil => simp [allM]
 | cons s l ih =>
  have h1 := h s (by simp)
  have h2 := ih fun t ht => h t (by simp [ht])
  unfold allM at h2 ⊢
  rw [List.flatMap_cons, List.length_append, List.length_cons, Nat.add_mul]
  omega
structure MssH (c : Int) (s : Slps) (k : Nat) (v : CV) (l : Hl) : Prop where
 p0 : l[0]? = some (.cells 2 (encP c s))
 ex : ∃ j, OwnS 32 l v j ((allM (s.l.take k)).map eId) ∧ (v = .nilS ∨ 1 ≤ j) ∧ isNilS v = (allM (s.l.take k)).isEmpty
 len : 1 ≤ l.length
structure MssI (c : Int) (s : Slps) (k : Nat) (σ : Sg) (l : Hl) : Prop where
 g14 : σ 14 = encSls s
 g15 : σ 15 = .int .i64 s.l.length
 g16 : σ 16 = .int .i64 k
 h : ∃ v, σ 5 = v ∧ MssH c s k v l
set_option maxHeartbeats 1000000 in
theorem wMissing_ok (c : Int) (s : Slps) (hs : okSls s.l) (hl : s.l.length ≤ 1000000) (hm : (allM s.l).length ≤ 1000000) : PureC Tryz.prog GS 15 [.ag (encP c s)] (missW c s.l) := by
 refine pure_of Tryz.checked.mixed GS_closed ?_
 apply call_intro c15_eq r15_eq
 unfold c15 r15 missW
 have hlen : lenM (.sl 45) (encSls s) = some (.int .i64 s.l.length) := by simp [encSls]
 have hcs := closed_Sls s
 have hck := wPCheck_ok c s hs hl
 have hcp : closedL [CV.ag (encP c s)] = true := by simp [encP, closedL, CV.closed, hcs]
 have hr : roomMax = 140737488355328 := rfl
 by_cases h0 : penErr c s.l = 0
 ·simp [encP]
  refine pure_call hck hcp ?_
  simp [h0, hlen]
  refine loop_up s.l.length (MssI c s) ?_ ⟨by simp, by simp, by simp, .nilS, by simp, ⟨rfl, ⟨0, .nil 0, .inl rfl, rfl⟩, by simp⟩⟩
  rintro k σ l hk ⟨g14, g15, g16, v, g5, hH⟩
  obtain ⟨σ, rfl⟩ := upds4 g14 g15 g16 g5
  clear g14 g15 g16 g5
  unfold l15_0
  simp
  refine kIf_intro (fun h => ?_) (fun h => ?_)
  ·simp only [decide_eq_true_eq] at h
   obtain ⟨y, hy, hym⟩ := get_of (l := s.l) (k := k) (by omega)
   have hyo := hs y hym
   have hR := row_of hyo
   have e1 : IntKind.i64.wrap ((k : Int) + 1) = ((k + 1 : Nat) : Int) := by rw [IntKind.wrap_i64]; omega
   have hia : iaC (.sl 45) (encSls s) (.int .i64 (k : Int)) = some (.rptr (encSl y) 0) := by simp [encSls, hy]
   obtain ⟨p0, ⟨j, o1, d1, n1⟩, hll⟩ := hH
   have hst : allM (s.l.take (k + 1)) = allM (s.l.take k) ++ y.miss.l := by unfold allM; rw [List.take_add_one, hy, List.flatMap_append]; simp
   have hle : (allM (s.l.take (k + 1))).length ≤ 1000000 := by
    refine Nat.le_trans ?_ hm
    have : allM s.l = allM (s.l.take (k + 1)) ++ allM (s.l.drop (k + 1)) := by unfold allM; rw [← List.flatMap_append, List.take_append_drop]
    rw [this, List.length_append]; omega
   rw [hst, List.length_append] at hle
   obtain ⟨R, hRe⟩ : ∃ R, R = encSl y := ⟨_, rfl⟩
   rw [← hRe] at hR hia
   have f1 := hR.len
   have f5 := hR.miss
   have hspR := spS f1
   obtain ⟨v', j', l', a1, b1, c1, d1', ee, ff⟩ := appS (o1.more [.cells 45 R]) (by_ := 32) (x := encIds y.miss) (xs := y.miss.l.map eId) (by simp [encIds]) (fun e he => by obtain ⟨z, hz, rfl⟩ := List.mem_map.1 he; exact eId_len (hyo.miss z hz)) (by omega) (by omega) (by rw [hr]; simp; omega)
   rw [← List.map_append, ← hst] at b1
   have hn0 : ∀ cb : CB, (l ++ [cb])[l.length]? = some cb := fun cb => List.getElem?_concat_length
   simp [hia, f1, hspR, f5, a1, List.take_of_length_le]
   refine AppK.keep ?_
   simp [e1]
   have hn1 : isNilS v' = (allM (s.l.take (k + 1))).isEmpty := by
    rw [ff, n1, hst]
    cases allM (s.l.take k) <;> cases y.miss.l <;> rfl
   refine ⟨by omega, by simp, by simp, by simp, v', by simp, ⟨?_, ⟨j', b1, ?_, hn1⟩, ?_⟩⟩
   ·rw [d1' 0 (by simp) (d1.imp id fun h => by omega), List.getElem?_append_left (by omega)]; exact p0
   ·rcases ee with h3 | ⟨h3, h4⟩ | h3
    ·right; simp at h3; omega
    ·right; rw [h4]; exact d1.resolve_left h3
    ·exact .inl h3
   ·simp at c1; omega
  ·simp [h]
   have hk2 : k = s.l.length := by simp at h; omega
   obtain ⟨p0, ⟨j, o1, d1, n1⟩, hll⟩ := hH
   rw [hk2, List.take_length] at o1 n1
   have hid : ∀ i ∈ allM s.l, i.length = 32 := fun i hi => by
    unfold allM at hi
    obtain ⟨t, ht, hit⟩ := List.mem_flatMap.1 hi
    exact (hs t ht).miss i hit
   refine psort_call hid hm n1 o1 fun l' z1 z2 z3 => ?_
   simp
   have hob : Ob 32 eId (l'.take 1) l' v (sortB (allM s.l)) (allM s.l).isEmpty := ⟨j, z3, by simp; omega, fun b hb => by
    rw [List.length_take] at hb
    rw [List.getElem?_take_of_lt (by omega)], d1.imp id fun h => by rw [List.length_take]; omega, n1⟩
   refine compact_ob hob (fun x hx => hid x ((sortB_mem _ _).1 hx)) (by rw [sortB_len]; exact hm) fun r l2 ho2 => ?_
   simp
   rw [if_pos h0]
   refine rd_tu2 (ho2.rd closed_eId (missV s.l) ?_ ?_) (.same _ rfl)
   ·unfold missV; cases allM s.l <;> rfl
   ·unfold missV
    split
    ·rename_i he; rw [he]; simp [sortB, dd, ddN]
    ·rfl
 ·simp [encP]
  refine pure_call hck hcp ?_
  simp [h0]
  exact rd_eq rfl rfl
end Op
end Go.CM

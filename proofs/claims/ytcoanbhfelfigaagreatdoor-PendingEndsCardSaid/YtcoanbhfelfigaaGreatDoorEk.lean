/-
  slices.Clone and slices.Compact of ids: walked.
-/
import Derived.Test.YtcoanbhfelfigaaGreatDoorEj
namespace Go.CM
open Go Go.Proofs
set_option linter.unusedVariables false
set_option linter.unusedSimpArgs false
set_option maxRecDepth 100000
namespace Op
open Sha
theorem beqE8 : ∀ a b : List B, a.length = b.length → beqL (a.map e8) (b.map e8) = decide (a = b)
  | [], [], _ => rfl
  | [], _ :: _, h => by simp at h
  | _ :: _, [], h => by simp at h
  | x :: a, y :: b, h => by
    have ih := beqE8 a b (by simpa using h)
    simp only [List.map_cons, beqL, ih, CV.beq, decide_true, Bool.true_and]
    by_cases h1 : x = y
    · by_cases h2 : a = b <;> simp [h1, h2]
    · have : ¬ u x = u y := fun h => h1 ((u_inj x y).1 h)
      simp [h1]
theorem okKE8 : ∀ a : List B, okK (List.replicate a.length (.i .u8)) (a.map e8) = true
  | [] => rfl
  | x :: a => by
    rw [List.length_cons, List.replicate_succ, List.map_cons]
    simp only [okK, okKE8 a, tkOk, decide_true, Bool.and_self]
theorem kindsID : kindsT Tryz.prog 20 32 = some (List.replicate 32 (.i .u8)) := by kernel_rfl
theorem idEql {a b : List B} (ha : a.length = 32) (hb : b.length = 32) : binC Tryz.prog .eql 32 (.ag (eId a)) (.ag (eId b)) = some (.bool (decide (a = b))) := by
  unfold eId
  rw [bin_plain_eql kindsID (by kernel_rfl) (by kernel_rfl) (by have := okKE8 a; rwa [ha] at this) (by have := okKE8 b; rwa [hb] at this), beqE8 a b (by omega)]
theorem idNeq {a b : List B} (ha : a.length = 32) (hb : b.length = 32) : binC Tryz.prog .neq 32 (.ag (eId a)) (.ag (eId b)) = some (.bool (!decide (a = b))) := by
  unfold eId
  rw [bin_plain_neq kindsID (by kernel_rfl) (by kernel_rfl) (by have := okKE8 a; rwa [ha] at this) (by have := okKE8 b; rwa [hb] at this), beqE8 a b (by omega)]
theorem nilIds (s : Ids) : binC Tryz.prog .eql 25 (encS 32 eId s) .nilS = some (.bool s.isNone) := bin_nil_eql (e := 32) (by kernel_rfl) 32 eId s
theorem obE (l : Hl) : Ob 32 eId l (l ++ [.cells 0 []]) (.sl 32 l.length 0 0 0 0) ([] : List (List B)) false :=
  ⟨l.length, .sl l.length 0 0 0 [] [] (by simp) rfl rfl (by simp) (Nat.le_refl _) (by omega) rfl, by simp, fun b hb => List.getElem?_append_left hb, .inr (Nat.le_refl _), rfl⟩
theorem idsClone_ob (s : Ids) (ho : okIds s) (hs : s.l.length ≤ 1000000) {l : Hl} {K : CV → Hl → Prop} (hK : ∀ v l', Ob 32 eId l l' v s.l s.isNone → K v l') :
    CallP Tryz.prog GS 52 [encIds s] l (c := ⟨K⟩) := by
  apply call_intro c52_eq r52_eq
  unfold c52 r52
  have hr : roomMax = 140737488355328 := rfl
  cases s with
  | none =>
    simp [encIds]
    exact hK _ _ Ob.nil
  | some a =>
    simp at hs
    obtain ⟨v', l', a1, a2, _⟩ := (obE l).app (by_ := 32) (x := encS 32 eId (some a)) (xs := a) (contents_encS _ 32 eId (some a)) (fun y hy => eId_len (ho y hy)) (by omega) (by omega) (by rw [hr]; simp; omega)
    simp [encIds, nilIds, a1]
    refine AppK.keep ?_
    simp
    exact hK _ _ (by simpa using a2)
def ddN (l : List (List B)) (m : Nat) : List (List B) := (List.range m).flatMap fun k => if k = 0 ∨ idAt l k ≠ idAt l (k - 1) then [idAt l k] else []
def dd (l : List (List B)) : List (List B) := ddN l l.length
theorem ddN_succ (l : List (List B)) (m : Nat) : ddN l (m + 1) = ddN l m ++ (if m = 0 ∨ idAt l m ≠ idAt l (m - 1) then [idAt l m] else []) := by
  unfold ddN; rw [List.range_succ, List.flatMap_append]; simp
theorem ddN_len (l : List (List B)) : ∀ m, (ddN l m).length ≤ m
  | 0 => by simp [ddN]
  | m + 1 => by
    have := ddN_len l m
    rw [ddN_succ, List.length_append]
    split <;> simp <;> omega
theorem ddN_all {l : List (List B)} : ∀ {m}, m ≤ l.length → (∀ k, 1 ≤ k → k < m → idAt l k ≠ idAt l (k - 1)) → ddN l m = l.take m
  | 0, _, _ => by simp [ddN]
  | m + 1, hm, h => by
    rw [ddN_succ, ddN_all (by omega) (fun k h1 h2 => h k h1 (by omega)), List.take_add_one, if_pos (by
      by_cases h0 : m = 0
      · exact .inl h0
      · exact .inr (h m (by omega) (by omega)))]
    congr 1
    unfold idAt
    rw [List.getD_eq_getElem?_getD, List.getElem?_eq_getElem (by omega)]
    rfl
theorem ddN_less {l : List (List B)} {k : Nat} (h1 : 1 ≤ k) (he : idAt l k = idAt l (k - 1)) : ∀ {m}, k < m → (ddN l m).length < m
  | 0, h => by omega
  | m + 1, h => by
    rw [ddN_succ, List.length_append]
    by_cases hk : k = m
    · subst hk
      have := ddN_len l k
      rw [if_neg (fun h => h.elim (fun h0 => by omega) (fun h2 => h2 he))]
      simp; omega
    · have := ddN_less h1 he (m := m) (by omega)
      split <;> simp <;> omega
theorem dd_ris {l : List (List B)} (hs : srt l = true) : ((dd l).length = l.length) ↔ ris l = true := by
  unfold srt at hs
  rw [decide_eq_true_eq] at hs
  unfold ris dd
  rw [decide_eq_true_eq]
  constructor
  · intro h k hk h1
    have h2 := hs k hk h1
    have h3 : idAt l k ≠ idAt l (k - 1) := fun he => by
      have := ddN_less h1 he hk
      omega
    have h4 := cmpB_swap (idAt l k) (idAt l (k - 1))
    have h5 : cmpB (idAt l (k - 1)) (idAt l k) ≠ 0 := fun h0 => h3 (cmpB_eq h0).symm
    omega
  · intro h
    rw [ddN_all (Nat.le_refl _) (fun k h1 h2 he => by
      have := h k h2 h1
      rw [← he, cmpB_self] at this
      omega), List.take_length]
theorem ids_get {a : List (List B)} {k : Nat} (h : k < a.length) : (a.map eId)[k]? = some (eId (idAt a k)) := by
  rw [List.getElem?_map]
  unfold idAt
  rw [List.getD_eq_getElem?_getD, List.getElem?_eq_getElem h]
  rfl
theorem idAt_mem {a : List (List B)} {k : Nat} (h : k < a.length) : idAt a k ∈ a := by
  unfold idAt
  rw [List.getD_eq_getElem?_getD, List.getElem?_eq_getElem h]
  exact List.getElem_mem h
structure CmpI (l : Hl) (v : CV) (xs : List (List B)) (k : Nat) (σ : Sg) (l1 : Hl) : Prop where
  g0 : σ 0 = v
  g3 : σ 3 = .int .i64 ((k + 1 : Nat) : Int)
  hl : l1 = l
  hs : ∀ j, 1 ≤ j → j < k + 1 → idAt xs j ≠ idAt xs (j - 1)
structure Cmp2 (l : Hl) (v v2 : CV) (j : Nat) (xs : List (List B)) (m i : Nat) (σ : Sg) (l2 : Hl) : Prop where
  g0 : σ 0 = v
  g4 : σ 4 = v2
  g5 : σ 5 = .int .i64 ((i + 1 : Nat) : Int)
  ex : ∃ (k : Nat) (ys : List (List B)), σ 3 = .int .i64 (k : Int) ∧ OwnS 32 l2 v j (ys.map eId) ∧ ys.length = xs.length ∧ (∀ y ∈ ys, y.length = 32) ∧ ys.take k = ddN xs (m + i + 1) ∧ k ≤ m + i ∧ (∀ t, m + i ≤ t → idAt ys t = idAt xs t) ∧ l2.length = l.length ∧ ∀ b, b ≠ j → l2[b]? = l[b]?
theorem cut_own {l : Hl} {v : CV} {j k : Nat} {ys : List (List B)} (h : OwnS 32 l v j (ys.map eId)) (hk : k < ys.length) :
    ∃ v3 l3 r, sliceM (.sl 32) v (some (.int .i64 (k : Int))) none none = some v3 ∧ clearL (rep 32 (.int .u8 0)) l v3 = some l3 ∧ sliceM (.sl 32) v none (some (.int .i64 (k : Int))) none = some r ∧
      OwnS 32 l3 r j ((ys.take k).map eId) ∧ isNilS r = false ∧ l3.length = l.length ∧ ∀ b, b ≠ j → l3[b]? = l[b]? := by
  generalize he : ys.map eId = es at h
  cases h with
  | nil j => rw [List.map_eq_nil_iff] at he; subst he; simp at hk
  | sl j n cap sz cs es hb hl hn hz hc hcap hcs =>
    subst he
    have hn' : ys.length = n := by simpa using hn
    have hb1 : boundC (.int .i64 (k : Int)) n = some k := by
      show (if 0 ≤ (k : Int) ∧ (k : Int) ≤ (n : Int) then some (k : Int).toNat else none) = some k
      rw [if_pos ⟨by omega, by omega⟩]; simp
    have hb2 : boundC (.int .i64 (k : Int)) cap = some k := by
      show (if 0 ≤ (k : Int) ∧ (k : Int) ≤ (cap : Int) then some (k : Int).toNat else none) = some k
      rw [if_pos ⟨by omega, by omega⟩]; simp
    have b1 : boundsC n cap (some (.int .i64 (k : Int))) none none = some (k, n, cap) := by
      show (match boundC (.int .i64 (k : Int)) n with | none => none | some l => some (l, n, cap)) = _
      rw [hb1]
    have b2 : boundsC n cap none (some (.int .i64 (k : Int))) none = some (0, k, cap) := by
      show (match boundC (.int .i64 (k : Int)) cap with | none => none | some h => some (0, h, cap)) = _
      rw [hb2]
    have hck : ¬ cap = k := by omega
    have hc0 : ¬ cap = 0 := by omega
    have hjl : j < l.length := get_lt hb
    have hm1 : k * 32 ≤ n * 32 := Nat.mul_le_mul_right _ (by omega)
    have hm2 : n * 32 ≤ cap * 32 := Nat.mul_le_mul_right _ hc
    have hrl : (repeatC (rep 32 (.int .u8 0)) (n - k)).length = (n - k) * 32 := by rw [repeatC_len']; rfl
    have hm3 : k * 32 + (n - k) * 32 = n * 32 := by rw [← Nat.add_mul]; congr 1; omega
    refine ⟨.sl 32 j (k * 32) (n - k) (cap - k) sz, l.set j (.cells sz (splice cs (k * 32) (repeatC (rep 32 (.int .u8 0)) (n - k)))), .sl 32 j 0 k cap sz, ?_, ?_, ?_, ?_, rfl, by simp, fun b hbj => by rw [List.getElem?_set_ne (fun h => hbj h.symm)]⟩
    · rw [sliceM_sl, b1]; simp [hck]
    · unfold clearL
      simp only
      rw [if_neg (by omega)]
      simp [hb]
    · rw [sliceM_sl, b2]; simp [hc0]
    · refine .sl j k cap sz _ _ (List.getElem?_set_self hjl) (by rw [splice_length (by omega), hrl]; omega) (by simp; omega) (fun e he => ?_) (by omega) hcap ?_
      · obtain ⟨y, hy, rfl⟩ := List.mem_map.1 he
        exact hz _ (List.mem_map_of_mem (List.mem_of_mem_take hy))
      · unfold splice
        rw [List.append_assoc, List.take_append_of_le_length (by rw [List.length_take]; omega), List.take_take, Nat.min_self]
        have e1 : cs.take (k * 32) = (cs.take (n * 32)).take (k * 32) := by rw [List.take_take, Nat.min_eq_left hm1]
        have e2 : ys.map eId = (ys.take k).map eId ++ (ys.drop k).map eId := by rw [← List.map_append, List.take_append_drop]
        have e3 : ((ys.take k).map eId).flatten.length = k * 32 := by
          rw [flatten_len (z := 32) (fun e he => by obtain ⟨y, hy, rfl⟩ := List.mem_map.1 he; exact hz _ (List.mem_map_of_mem (List.mem_of_mem_take hy)))]
          simp; omega
        rw [e1, hcs, e2, List.flatten_append, List.take_append_of_le_length (by omega), List.take_of_length_le (by omega)]
theorem part_flat {ys : List (List B)} (hz : ∀ y ∈ ys, y.length = 32) (k : Nat) (hk : k ≤ ys.length) {n : Nat} (hn : ys.length = n) {cs : List CV} (hcs : cs.take (n * 32) = (ys.map eId).flatten) (hl : n * 32 ≤ cs.length) :
    cs.take (k * 32) = ((ys.take k).map eId).flatten ∧ (cs.drop (k * 32)).take (n * 32 - k * 32) = ((ys.drop k).map eId).flatten := by
  have hm1 : k * 32 ≤ n * 32 := Nat.mul_le_mul_right _ (by omega)
  have e2 : ys.map eId = (ys.take k).map eId ++ (ys.drop k).map eId := by rw [← List.map_append, List.take_append_drop]
  have e3 : ((ys.take k).map eId).flatten.length = k * 32 := by
    rw [flatten_len (z := 32) (fun e he => by obtain ⟨y, hy, rfl⟩ := List.mem_map.1 he; exact eId_len (hz _ (List.mem_of_mem_take hy)))]
    simp; omega
  have e1 : cs.take (k * 32) = (cs.take (n * 32)).take (k * 32) := by rw [List.take_take, Nat.min_eq_left hm1]
  constructor
  · rw [e1, hcs, e2, List.flatten_append, List.take_append_of_le_length (by omega), List.take_of_length_le (by omega)]
  · rw [← List.drop_take, hcs, e2, List.flatten_append, List.drop_append_of_le_length (by omega), List.drop_of_length_le (by omega), List.nil_append]
theorem set_own {l : Hl} {v : CV} {j k : Nat} {ys : List (List B)} {x : List B} (h : OwnS 32 l v j (ys.map eId)) (hz : ∀ y ∈ ys, y.length = 32) (hk : k < ys.length) (hx : x.length = 32) :
    ∃ p l', iaC (.sl 32) v (.int .i64 (k : Int)) = some p ∧ storeL 32 l p (.ag (eId x)) = some l' ∧ OwnS 32 l' v j ((ys.set k x).map eId) ∧ l'.length = l.length ∧ ∀ b, b ≠ j → l'[b]? = l[b]? := by
  generalize he : ys.map eId = es at h
  cases h with
  | nil j => rw [List.map_eq_nil_iff] at he; subst he; simp at hk
  | sl j n cap sz cs es hb hl hn hz2 hc hcap hcs =>
    subst he
    have hn' : ys.length = n := by simpa using hn
    have hjl : j < l.length := get_lt hb
    have hxl := eId_len hx
    have hm1 : (k + 1) * 32 ≤ n * 32 := Nat.mul_le_mul_right _ (by omega)
    have hm2 : n * 32 ≤ cap * 32 := Nat.mul_le_mul_right _ hc
    have hs : (k + 1) * 32 = k * 32 + 32 := by rw [Nat.succ_mul]
    obtain ⟨f1, _⟩ := part_flat hz k (by omega) hn' hcs (by omega)
    obtain ⟨_, f2⟩ := part_flat hz (k + 1) (by omega) hn' hcs (by omega)
    refine ⟨.ptr j (k * 32) sz, l.set j (.cells sz (splice cs (k * 32) (eId x))), ?_, ?_, ?_, by simp, fun b hbj => by rw [List.getElem?_set_ne (fun h => hbj h.symm)]⟩
    · simp [iaC]; omega
    · unfold storeL
      simp [hb, CV.cells, hxl]
      omega
    · refine .sl j n cap sz _ _ (List.getElem?_set_self hjl) (by rw [splice_length (by omega), hxl]; omega) (by simp; omega) (fun e he => ?_) hc hcap ?_
      · obtain ⟨y, hy, rfl⟩ := List.mem_map.1 he
        rcases List.mem_or_eq_of_mem_set hy with h | h
        · exact eId_len (hz _ h)
        · rw [h]; exact hxl
      · have hset : ys.set k x = ys.take k ++ (x :: ys.drop (k + 1)) := by rw [List.set_eq_take_append_cons_drop, if_pos hk]
        rw [hset, List.map_append, List.map_cons, List.flatten_append, List.flatten_cons, ← f1, ← f2]
        unfold splice
        have t1 : (cs.take (k * 32)).length = k * 32 := by rw [List.length_take]; omega
        have u1 : (cs.take (k * 32)).take (n * 32) = cs.take (k * 32) := List.take_of_length_le (by rw [t1]; omega)
        have u2 : (eId x).take (n * 32 - k * 32) = eId x := List.take_of_length_le (by rw [hxl]; omega)
        rw [List.append_assoc, hxl, ← hs, List.take_append, t1, u1, List.take_append, u2, hxl, show n * 32 - k * 32 - 32 = n * 32 - (k + 1) * 32 by omega]
theorem compact_ob {l0 l : Hl} {v : CV} {xs : List (List B)} {nl : Bool} (h : Ob 32 eId l0 l v xs nl) (hx : ∀ x ∈ xs, x.length = 32) (hn : xs.length ≤ 1000000) {K : CV → Hl → Prop} (hK : ∀ r l', Ob 32 eId l0 l' r (dd xs) nl → K r l') :
    CallP Tryz.prog GS 41 [v] l (c := ⟨K⟩) := by
  apply call_intro c41_eq r41_eq
  unfold c41 r41
  have hlen := h.len
  by_cases h2 : xs.length < 2
  · have h2' : (xs.length : Int) < 2 := by omega
    have hdd : dd xs = xs := by
      unfold dd
      rw [ddN_all (Nat.le_refl _) (fun k h1 h3 => by omega), List.take_length]
    simp [hlen, h2']
    exact hK _ _ (by rw [hdd]; exact h)
  · have h2' : ¬ (xs.length : Int) < 2 := by omega
    simp [hlen, h2']
    refine loop_up (xs.length - 1) (CmpI l v xs) ?_ ⟨by simp, by simp, rfl, fun j h1 h3 => by omega⟩
    rintro k σ l1 hk ⟨g0, g3, rfl, hs⟩
    obtain ⟨σ, rfl⟩ := upds2 g0 g3
    clear g0 g3
    obtain ⟨m, hm⟩ : ∃ m, m = k + 1 := ⟨_, rfl⟩
    rw [← hm] at hs ⊢
    unfold l41_1
    by_cases hlt : m < xs.length
    · have e1 : IntKind.i64.wrap ((m : Int) - 1) = (k : Int) := by rw [IntKind.wrap_i64]; omega
      have e2 : IntKind.i64.wrap ((m : Int) + 1) = ((m + 1 : Nat) : Int) := by rw [IntKind.wrap_i64]; omega
      have hlt' : (m : Int) < (xs.length : Int) := by omega
      obtain ⟨j, ho, ho2⟩ := h
      obtain ⟨p1, c1, o1, a1, a2, a3, a4⟩ := ho.q.get (k := .i64) (ids_get hlt)
      obtain ⟨p2, c2, o2, b1, b2, b3, b4⟩ := ho.q.get (k := .i64) (ids_get (a := xs) (k := k) (by omega))
      have hid := idEql (hx _ (idAt_mem hlt)) (hx _ (idAt_mem (a := xs) (k := k) (by omega)))
      obtain ⟨X, hX⟩ : ∃ X, X = idAt xs m := ⟨_, rfl⟩
      obtain ⟨Y, hY⟩ : ∃ Y, Y = idAt xs k := ⟨_, rfl⟩
      rw [← hX] at a4 hid
      rw [← hY] at b4 hid
      by_cases he : X = Y
      · have hid' : binC Tryz.prog .eql 32 (.ag (eId X)) (.ag (eId Y)) = some (.bool true) := by rw [hid, decide_eq_true he]
        have hv : isNilS v = false := by
          cases hnv : isNilS v with
          | false => rfl
          | true =>
            have := isNil_iff.1 hnv
            subst this
            have := ho.q.nil_of
            rw [List.map_eq_nil_iff] at this
            rw [this] at hlt; simp at hlt
        obtain ⟨v2, s1, s2, _⟩ := ho.q.from hv (k := .i64) (i := m) (by simp; omega)
        have h0 : ddN xs m = xs.take m := ddN_all (by omega) hs
        have h1 : ddN xs (m + 1) = xs.take m := by rw [ddN_succ, if_neg (fun h => h.elim (fun h0 => by omega) (fun h2 => h2 (by rw [← hX, show m - 1 = k by omega, ← hY]; exact he))), h0, List.append_nil]
        simp [hlen, hlt', e1, a1, a2, a3, a4, b1, b2, b3, b4, hid', s1]
        refine loop_up (xs.length - m - 1) (Cmp2 l1 v v2 j xs m) ?_ ⟨by simp, by simp, by simp, m, xs, by simp, ho, rfl, hx, h1.symm, by omega, fun t _ => rfl, rfl, fun b _ => rfl⟩
        rintro i σ l2 hi ⟨g0, g4, g5, q, ys, g3, hq, hyl, hyz, htk, hqk, hsame, hll, hfr⟩
        obtain ⟨σ, rfl⟩ := upds4 g0 g3 g4 g5
        clear g0 g3 g4 g5
        obtain ⟨i1, hi1⟩ : ∃ i1, i1 = i + 1 := ⟨_, rfl⟩
        rw [← hi1]
        unfold l41_0
        obtain ⟨v2', s1', s2', _⟩ := hq.q.from hv (k := .i64) (i := m) (by simp; omega)
        rw [s1] at s1'
        obtain rfl := Option.some.inj s1'
        have hl2 := s2'.len
        rw [List.length_drop, List.length_map, hyl] at hl2
        by_cases hlt2 : i1 < xs.length - m
        · have hlt2' : (i1 : Int) < ((xs.length - m : Nat) : Int) := by omega
          have w1 : IntKind.i64.wrap ((i1 : Int) - 1) = (i : Int) := by rw [IntKind.wrap_i64]; omega
          have w2 : IntKind.i64.wrap ((i1 : Int) + 1) = ((i1 + 1 : Nat) : Int) := by rw [IntKind.wrap_i64]; omega
          have w3 : IntKind.i64.wrap ((q : Int) + 1) = ((q + 1 : Nat) : Int) := by rw [IntKind.wrap_i64]; omega
          obtain ⟨p3, c3, o3, x1, x2, x3, x4⟩ := s2'.get (k := .i64) (i := i1) (e := eId (idAt ys (m + i1))) (by rw [List.getElem?_drop]; exact ids_get (by omega))
          obtain ⟨p4, c4, o4, y1, y2, y3, y4⟩ := s2'.get (k := .i64) (i := i) (e := eId (idAt ys (m + i))) (by rw [List.getElem?_drop]; exact ids_get (by omega))
          have hz1 := hyz _ (idAt_mem (a := ys) (k := m + i1) (by omega))
          have hz2 := hyz _ (idAt_mem (a := ys) (k := m + i) (by omega))
          have hne := idNeq hz1 hz2
          have hs1 := hsame (m + i1) (by omega)
          have hs2 := hsame (m + i) (by omega)
          have hd := ddN_succ xs (m + i1)
          rw [show m + i1 - 1 = m + i by omega] at hd
          obtain ⟨X2, hX2⟩ : ∃ X, X = idAt ys (m + i1) := ⟨_, rfl⟩
          obtain ⟨Y2, hY2⟩ : ∃ Y, Y = idAt ys (m + i) := ⟨_, rfl⟩
          rw [← hX2] at x4 hne hz1 hs1
          rw [← hY2] at y4 hne hs2
          rw [← hs1, ← hs2] at hd
          rw [show m + i + 1 = m + i1 by omega] at htk
          by_cases he2 : X2 = Y2
          · have hne' : binC Tryz.prog .neq 32 (.ag (eId X2)) (.ag (eId Y2)) = some (.bool false) := by rw [hne]; simp [he2]
            rw [if_neg (fun h => h.elim (fun h0 => by omega) (fun h2 => h2 he2)), List.append_nil] at hd
            simp [hl2, hlt2', w1, x1, x2, x3, x4, y1, y2, y3, y4, hne', w2]
            exact ⟨by omega, by simp, by simp, by simp, q, ys, by simp, hq, hyl, hyz, by rw [hd]; exact htk, by omega, fun t ht => hsame t (by omega), hll, hfr⟩
          · have hne' : binC Tryz.prog .neq 32 (.ag (eId X2)) (.ag (eId Y2)) = some (.bool true) := by rw [hne]; simp [he2]
            rw [if_pos (.inr he2)] at hd
            obtain ⟨p5, l3, z1, z2, z3, z4, z5⟩ := set_own hq hyz (k := q) (x := X2) (by omega) hz1
            simp [hl2, hlt2', w1, x1, x2, x3, x4, y1, y2, y3, y4, hne', w2, w3, z1, z2]
            have tl : (ys.take q).length = q := by rw [List.length_take]; omega
            have hts : (ys.set q X2).take (q + 1) = ys.take q ++ [X2] := by
              rw [List.set_eq_take_append_cons_drop, if_pos (by omega), List.take_append, tl, List.take_of_length_le (by omega), show q + 1 - q = 1 by omega]; simp
            refine ⟨by omega, by simp, by simp, by simp, q + 1, ys.set q X2, by simp, z3, by simp [hyl], fun y hy => ?_, by rw [hts, hd, htk], by omega, fun t ht => ?_, by omega, fun b hb => (z5 b hb).trans (hfr b hb)⟩
            · rcases List.mem_or_eq_of_mem_set hy with h | h
              · exact hyz _ h
              · rw [h]; exact hz1
            · have := hsame t (by omega)
              unfold idAt at this ⊢
              rw [List.getD_eq_getElem?_getD, List.getElem?_set_ne (by omega), ← List.getD_eq_getElem?_getD]
              exact this
        · have hlt2' : ¬ (i1 : Int) < ((xs.length - m : Nat) : Int) := by omega
          obtain ⟨v3, l3, r, z1, z2, z3, z4, z5, z6, z7⟩ := cut_own hq (k := q) (by omega)
          simp [hl2, hlt2', z1, z2, z3]
          obtain ⟨g1, g2, g3, g4⟩ := ho2
          have hj0 : l0.length ≤ j := g3.resolve_left (fun h => by rw [h] at hv; cases hv)
          have hend : m + i + 1 = xs.length := by omega
          rw [hend] at htk
          refine hK _ _ ⟨j, by unfold dd; rw [← htk]; exact z4, by omega, fun b hb => ?_, .inr hj0, by rw [z5, ← g4, hv]⟩
          rw [z7 b (by omega), hfr b (by omega)]
          exact g2 b hb
      · have hid' : binC Tryz.prog .eql 32 (.ag (eId X)) (.ag (eId Y)) = some (.bool false) := by rw [hid, decide_eq_false he]
        simp [hlen, hlt', e1, a1, a2, a3, a4, b1, b2, b3, b4, hid', e2]
        refine ⟨by omega, by simp, by simp [hm], rfl, fun t h1 h2 => ?_⟩
        by_cases ht : t = m
        · rw [ht, ← hX, show m - 1 = k by omega, ← hY]; exact he
        · exact hs t h1 (by omega)
    · have hlt' : ¬ (m : Int) < (xs.length : Int) := by omega
      have hdd : dd xs = xs := by
        unfold dd
        rw [ddN_all (Nat.le_refl _) (fun k h1 h3 => hs k h1 (by omega)), List.take_length]
      simp [hlen, hlt']
      exact hK _ _ (by rw [hdd]; exact h)
end Op
end Go.CM

/-
  op.Check: walked.
-/
namespace Go.CM
open Go Go.Proofs
set_option linter.unusedVariables false
set_option linter.unusedSimpArgs false
set_option maxRecDepth 100000
namespace Op
open Sha
theorem ris_srt {l : List (List B)} (h : ris l = true) : srt l = true := by
  unfold ris at h
  rw [decide_eq_true_eq] at h
  exact srt_true fun k hk h1 => by
    have := h k hk h1
    have h4 := cmpB_swap (idAt l k) (idAt l (k - 1))
    omega
theorem wOpCheck_ok (o : Opr) (ho : OkOp o) : PureC Tryz.prog GS 87 [.ag (encOp o)] (.int .i64 (opErr o)) := by
  refine pure_of Tryz.checked.mixed GS_closed ?_
  apply call_intro c87_eq r87_eq
  unfold c87 r87 opErr
  have hcl := closed_ids o.preds
  have hlen : lenM (.sl 32) (encIds o.preds) = some (.int .i64 o.preds.l.length) := by simp [encIds]
  have hcells : (encIds o.preds).cells = some [encIds o.preds] := by cases o.preds <;> rfl
  by_cases h1 : 4 < o.preds.l.length
  · have h1' : (4 : Int) < (o.preds.l.length : Int) := by omega
    rw [if_pos h1]
    simp [encOp, hlen, h1']
    exact rd_eq rfl rfl
  · have h1' : ¬ (4 : Int) < (o.preds.l.length : Int) := by omega
    rw [if_neg h1]
    simp [encOp, hlen, h1']
    refine pure_call (isSorted_ok o.preds ho.ids ho.len) (by simp [closedL, hcl, CV.closed]) ?_
    cases h2 : srt o.preds.l with
    | false =>
      have h3 : ris o.preds.l = false := by
        cases h3 : ris o.preds.l with
        | false => rfl
        | true => rw [ris_srt h3] at h2; cases h2
      simp [h3, hlen]
      exact rd_eq rfl rfl
    | true =>
      simp [hlen]
      refine idsClone_ob o.preds ho.ids ho.len fun v1 l1 g1 => ?_
      have hat1 : l1[0]? = some (.cells 11 (encOp o)) := by rw [g1.same 0 (by simp)]; rfl
      have hat1' := hat1
      simp [encOp] at hat1'
      simp [hat1']
      refine compact_ob g1 ho.ids ho.len fun v2 l2 g2 => ?_
      have hat : l2[0]? = some (.cells 11 (encOp o)) := by rw [g2.same 0 (by simp)]; rfl
      have hat' := hat
      simp [encOp] at hat'
      have hl2 := g2.len
      have hdd := dd_ris h2
      cases h3 : ris o.preds.l with
      | false =>
        have hne : ¬ ((dd o.preds.l).length : Int) = (o.preds.l.length : Int) := fun h => by
          have := hdd.1 (by omega)
          rw [h3] at this; cases this
        simp [hl2, hat', hlen, hne]
        exact rd_eq rfl rfl
      | true =>
        have heq : ((dd o.preds.l).length : Int) = (o.preds.l.length : Int) := by have := hdd.2 h3; omega
        simp [hl2, hat', hlen, heq]
        refine pure_call (isG_ok o.author) rfl ?_
        unfold goodB
        cases h5 : isG o.author with
        | false =>
          simp
          exact rd_eq rfl rfl
        | true =>
          have hst : ((1000000000000 : Int) < u o.stamp) ↔ ¬ o.stamp.toNat ≤ 1000000000000 := by unfold u; omega
          by_cases h6 : o.stamp.toNat ≤ 1000000000000
          · have h6' : ¬ ((1000000000000 : Int) < u o.stamp) := fun h => hst.1 h h6
            have hmx : ((500000003 : Int) ≤ max (u o.e : Int) (u o.s)) ↔ ¬ (expB o.e && expB o.s) = true := by
              unfold expB u
              simp only [Bool.and_eq_true, decide_eq_true_eq]
              omega
            have hmaxc : max2C (e32 o.e) (e32 o.s) = some (.int .u32 (max (u o.e : Int) (u o.s))) := by
              show (if IntKind.u32 = IntKind.u32 then some (CV.int .u32 (if (u o.e : Int) < u o.s then u o.s else u o.e)) else none) = _
              rw [if_pos rfl]
              congr 2
              split <;> omega
            cases h7 : (expB o.e && expB o.s) with
            | false =>
              have h7' : (500000003 : Int) ≤ max (u o.e : Int) (u o.s) := hmx.2 (by rw [h7]; simp)
              simp [hat', h6, h6', hmaxc, h7']
              exact rd_eq rfl rfl
            | true =>
              have h7' : ¬ (500000003 : Int) ≤ max (u o.e : Int) (u o.s) := fun h => (hmx.1 h) h7
              simp [hat', h6, h6', hmaxc, h7']
              refine pure_call (checkAct_ok o.act) rfl ?_
              cases h8 : actB o.act with
              | false =>
                simp [errB]
                exact rd_eq rfl rfl
              | true =>
                simp [errB]
                exact rd_eq (by rw [if_pos h6]) rfl
          · have h6' : (1000000000000 : Int) < u o.stamp := hst.2 h6
            simp [hat', h6, h6']
            exact rd_eq rfl rfl
end Op
end Go.CM

/-
  Lists of ids compared: walked.
-/
namespace Go.CM
open Go Go.Proofs
set_option linter.unusedVariables false
set_option linter.unusedSimpArgs false
set_option maxRecDepth 100000
namespace Op
open Sha
theorem sameIDs_ok (a b : Ids) (ha : okIds a) (hb : okIds b) (hl : a.l.length ≤ 1000000) : PureC Tryz.prog GS 30 [encIds a, encIds b] (.bool (decide (a.l = b.l))) := by
  refine pure_of Tryz.checked.mixed GS_closed ?_
  apply call_intro c30_eq r30_eq
  unfold c30 r30
  simp [encIds]
  by_cases h1 : a.l.length = b.l.length
  · have h1' : ((a.l.length : Int) = b.l.length) := by omega
    simp [h1]
    refine loop_up a.l.length (fun k σ l => σ 0 = encS 32 eId a ∧ σ 1 = encS 32 eId b ∧ σ 5 = .int .i64 k ∧ ∀ j, j < k → a.l[j]? = b.l[j]?) ?_ (by simp [encIds])
    rintro k σ l hk ⟨g0, g1, g5, hs⟩
    obtain ⟨s, rfl⟩ := upds3 g0 g1 g5
    clear g0 g1 g5
    unfold l30_0
    simp
    refine kIf_intro (fun h => ?_) (fun h => ?_)
    · simp only [decide_eq_true_eq] at h
      obtain ⟨x, hx, hxm⟩ := get_of h
      obtain ⟨y, hy, hym⟩ := get_of (l := b.l) (k := k) (by omega)
      have e1 : IntKind.i64.wrap ((k : Int) + 1) = ((k + 1 : Nat) : Int) := by rw [IntKind.wrap_i64]; omega
      simp [hx, hy, eId_len (ha x hxm), eId_len (hb y hym), List.take_of_length_le, idNeq (ha x hxm) (hb y hym)]
      by_cases he : x = y
      · simp [he, e1]
        refine ⟨by omega, fun j hj => ?_⟩
        by_cases hjk : j = k
        · subst hjk; rw [hx, hy, he]
        · exact hs j (by omega)
      · simp [he]
        refine rd_eq (congrArg CV.bool (decide_eq_false fun hab => he ?_).symm) rfl
        rw [hab, hy] at hx; exact (Option.some.inj hx).symm
    · simp [h]
      have hk2 : k = a.l.length := by simp at h; omega
      refine rd_eq (congrArg CV.bool (decide_eq_true ?_).symm) rfl
      apply List.ext_getElem?
      intro j
      by_cases hj : j < a.l.length
      · exact hs j (by omega)
      · rw [List.getElem?_eq_none (by omega), List.getElem?_eq_none (by omega)]
  · have h1' : ¬ ((a.l.length : Int) = b.l.length) := by omega
    simp [h1, h1']
    exact rd_eq (by rw [decide_eq_false (fun hab => h1 (by rw [hab]))]) rfl
def idOf (o : Opr) : List B := if opErr o = 0 then sha (opBytes o) else List.replicate 32 0#8
theorem opErr_len {o : Opr} (h : opErr o = 0) : o.preds.l.length ≤ 4 := by
  unfold opErr at h
  split at h
  · cases h
  · omega
theorem rID6_ok (o : Opr) (ho : OkOp o) : PureC Tryz.prog GS 33 [.ag (encOp o)] (.tu [idC (idOf o), .int .i64 (opErr o)]) := by
  refine pure_of Tryz.checked.mixed GS_closed ?_
  apply call_intro c33_eq r33_eq
  unfold c33 r33 idOf
  have hcl := closed_op o
  have hz : (rep 32 (.int .u8 0) : List CV) = (List.replicate 32 0#8).map e8 := by simp [rep]
  obtain ⟨E, hE⟩ : ∃ E, E = encOp o := ⟨_, rfl⟩
  have hEl : E.length = 11 := by rw [hE]; rfl
  have hck := rOpCheck_ok o ho
  rw [← hE] at hck hcl ⊢
  simp [hEl, List.take_of_length_le]
  refine pure_call hck (by simp [closedL, CV.closed, hcl]) ?_
  by_cases h0 : opErr o = 0
  · have hof := rOf6_ok o ho (by have := opErr_len h0; omega)
    rw [← hE] at hof
    have hsl : (sha (opBytes o)).length = 32 := sha_length _
    simp [h0, hEl, List.take_of_length_le]
    refine pure_call hof (by simp [closedL, CV.closed, hcl]) ?_
    have hspl : splice (rep 32 (.int .u8 0)) 0 ((sha (opBytes o)).map e8) = (sha (opBytes o)).map e8 := splice_full (by rw [List.length_map, hsl]; rfl)
    simp [idC, hsl, hspl, List.take_of_length_le]
    exact rd_eq (by rw [if_pos h0, h0]) (by simp [CV.closed, closedL, closedL_map e8 (fun _ => rfl)])
  · simp [h0, hEl, List.take_of_length_le]
    refine pure_call hck (by simp [closedL, CV.closed, hcl]) ?_
    simp [idC, hz]
    exact rd_eq (by rw [if_neg h0]; rfl) (by simp only [CV.closed, closedL, closedL_map e8 (fun _ => rfl), Bool.and_self])
end Op
end Go.CM

/-
  slices.Concat of parts that are one's own: walked, for callers that append to what they get.
-/
namespace Go.CM
open Go Go.Proofs
set_option linter.unusedVariables false
set_option linter.unusedSimpArgs false
set_option maxRecDepth 100000
namespace Op
open Sha
theorem row_get {l : Hl} {b n : Nat} {ws : List CV} {k : Nat} {w : CV} {kd : IntKind} (hb : l[b]? = some (.cells n ws)) (hn : ws.length = n) (hk : ws[k]? = some w) :
    ∃ p cs o, iaC (.sl 1) (.sl 1 b 0 n n n) (.int kd (k : Int)) = some p ∧ reachL l p = some (cs, o) ∧ cs[o]? = some w := by
  have hlt : k < n := by rw [← hn]; exact (List.getElem?_eq_some_iff.1 hk).1
  refine ⟨.ptr b (0 + k * 1) n, ws, 0 + k * 1, ?_, ?_, by simpa using hk⟩
  · simp only [iaC, Int.toNat_natCast]
    rw [if_pos ⟨trivial, by omega, by omega⟩]
  · simp only [reachL, hb, if_true]
theorem grow_ob {n : Nat} (hn : n ≤ 1000000000) {l : Hl} {K : CV → Hl → Prop} (hK : ∀ v l', Ob 1 enc8 l l' v ([] : List B) (decide (n = 0)) → K v l') : CallP Tryz.prog GS 121 [.nilS, .int .i64 n] l (c := ⟨K⟩) := by
  apply call_intro c121_eq r121_eq
  unfold c121 r121
  have h1 : ¬((n : Int) < 0) := by omega
  have hw : IntKind.i64.wrap (n : Int) = n := wrap_i64 (by omega) (by omega)
  have hw0 : IntKind.i64.wrap (0 : Int) = 0 := rfl
  by_cases h0 : n = 0
  · subst h0
    simp
    exact hK _ _ Ob.nil
  have h2 : (0 : Int) < n := by omega
  have hz : appZM l 1 1 [.int .u8 0] .nilS (.int .i64 n) = some (.sl 1 l.length 0 n n (n * 1), l ++ [.cells (n * 1) (repeatC [.int .u8 0] n)]) := by
    unfold appZM appendL
    simp only [Int.toNat_natCast]
    have hr : roomMax = 140737488355328 := rfl
    rw [if_pos ⟨by omega, by omega, by rw [hr]; omega⟩, if_neg h0, if_neg (by omega), if_pos (by rw [hr]; omega)]
  have hs : sliceM (.sl 1) (.sl 1 l.length 0 n n (n * 1)) none (some (.int .i64 0)) none = some (.sl 1 l.length 0 0 n (n * 1)) := by
    rw [sliceM_sl, bounds_hi, if_pos ⟨by omega, by omega⟩]
    simp [h0]
  rw [Nat.mul_one] at hz hs
  have h3 : 0 < n := by omega
  simp [h1, h2, h3, hw, hz, hw0, hs]
  refine hK _ (l ++ [.cells n (repeatC [.int .u8 0] n)]) ⟨l.length, .sl _ 0 n n (repeatC [.int .u8 0] n) [] (by simp) (by rw [repeatC_len']; simp) rfl (by simp) (by omega) (by omega) rfl, by simp, fun b hb => List.getElem?_append_left hb, .inr (Nat.le_refl _), ?_⟩
  simp [isNilS, h0]
def flB (bs : List (List B)) : List B := bs.flatten
theorem flB_take {bs : List (List B)} {k : Nat} {s : List B} (h : bs[k]? = some s) : flB (bs.take (k + 1)) = flB (bs.take k) ++ s := by
  unfold flB
  rw [List.take_add_one, h]; simp
theorem flB_le (bs : List (List B)) (k : Nat) : (flB (bs.take k)).length ≤ (flB bs).length := by
  conv => rhs; rw [← List.take_append_drop k bs]
  unfold flB
  rw [List.flatten_append, List.length_append]
  omega
structure Part (l : Hl) (w : CV) (s : List B) : Prop where
  len : lenM (.sl 1) w = some (.int .i64 s.length)
  con : ∀ l', l.length ≤ l'.length → (∀ b, b < l.length → l'[b]? = l[b]?) → contentsL l' 1 w = some ((s.map enc8).flatten, s.length)
theorem ob_part {l l1 : Hl} {w : CV} {s : List B} {nl : Bool} (h : Ob 1 enc8 l l1 w s nl) : Part l1 w s := ⟨h.len, fun l' h1 h2 => (h.frame h1 h2).contents⟩
theorem Part.frame {l l1 : Hl} {w : CV} {s : List B} (h : Part l w s) (hl : l.length ≤ l1.length) (hs : ∀ b, b < l.length → l1[b]? = l[b]?) : Part l1 w s :=
  ⟨h.len, fun l' h1 h2 => h.con l' (by omega) fun b hb => by rw [h2 b (by omega)]; exact hs b hb⟩
theorem part_one {l : Hl} {b : Nat} {x : B} (h : l[b]? = some (.cells 1 [e8 x])) : Part l (.sl 1 b 0 1 1 1) [x] := by
  have := get_lt h
  exact ⟨rfl, fun l' h1 h2 => by have := h2 b this; rw [h] at this; simp [contentsL, this, enc8]⟩
structure CatI (l : Hl) (X : CV) (bs : List (List B)) (k : Nat) (σ : Sg) (l1 : Hl) : Prop where
  g25 : σ 25 = X
  g26 : σ 26 = .int .i64 bs.length
  g27 : σ 27 = .int .i64 k
  ob : ∃ v, σ 6 = v ∧ Ob 1 enc8 l l1 v (flB (bs.take k)) (decide ((flB bs).length = 0))
set_option maxHeartbeats 4000000 in
theorem concat_ob {l : Hl} {b n : Nat} {ws : List CV} {bs : List (List B)} (hb : l[b]? = some (.cells n ws)) (hwn : ws.length = n) (hbn : bs.length = n)
    (hp : ∀ (k : Nat) (w : CV) (s : List B), ws[k]? = some w → bs[k]? = some s → Part l w s) (hl : (flB bs).length ≤ 1000000000) (hll : n ≤ 1000000000)
    {K : CV → Hl → Prop} (hK : ∀ v l', Ob 1 enc8 l l' v (flB bs) (decide ((flB bs).length = 0)) → K v l') :
    CallP Tryz.prog GS 89 [.sl 1 b 0 n n n] l (c := ⟨K⟩) := by
  apply call_intro c89_eq r89_eq
  unfold c89 r89
  have hlb := get_lt hb
  have hX : ∀ l', l.length ≤ l'.length → (∀ b, b < l.length → l'[b]? = l[b]?) → ∀ k, k < n → ∃ w s p cs o, ws[k]? = some w ∧ bs[k]? = some s ∧ Part l' w s ∧ iaC (.sl 1) (.sl 1 b 0 n n n) (.int .i64 (k : Int)) = some p ∧ reachL l' p = some (cs, o) ∧ cs[o]? = some w := by
    intro l' h1 h2 k hk
    obtain ⟨w, hw, _⟩ := get_of (l := ws) (k := k) (by omega)
    obtain ⟨s, hs, _⟩ := get_of (l := bs) (k := k) (by omega)
    obtain ⟨p, cs, o, a1, a2, a3⟩ := row_get (kd := .i64) (l := l') (by rw [h2 b hlb]; exact hb) hwn hw
    exact ⟨w, s, p, cs, o, hw, hs, (hp k w s hw hs).frame h1 h2, a1, a2, a3⟩
  obtain ⟨X, hXe⟩ : ∃ X, X = CV.sl 1 b 0 n n n := ⟨_, rfl⟩
  have hXl : lenM (.sl 1) X = some (.int .i64 bs.length) := by rw [hXe, hbn]; rfl
  rw [← hXe] at hX ⊢
  simp [hXl]
  refine loop_up n (fun k σ l1 => σ 0 = X ∧ σ 9 = X ∧ σ 10 = .int .i64 bs.length ∧ σ 11 = .int .i64 k ∧ σ 3 = .int .i64 (flB (bs.take k)).length ∧ l1 = l) ?_ ?_
  · rintro k σ l1 hk ⟨g0, g9, g10, g11, g3, rfl⟩
    obtain ⟨σ, rfl⟩ := upds5 g0 g3 g9 g10 g11
    clear g0 g3 g9 g10 g11
    unfold l89_0
    simp
    by_cases h : k < bs.length
    · obtain ⟨w, s, p, cs, o, hw, hs, hpt, a1, a2, a3⟩ := hX l1 (Nat.le_refl _) (fun _ _ => rfl) k (by omega)
      have hft := flB_take hs
      have hle := flB_le bs (k + 1)
      rw [hft, List.length_append] at hle
      have hw2 : IntKind.i64.wrap (((flB (bs.take k)).length : Int) + s.length) = ((flB (bs.take k)).length : Int) + s.length := wrap_i64 (by omega) (by omega)
      have hwk : IntKind.i64.wrap ((k : Int) + 1) = k + 1 := wrap_i64 (by omega) (by omega)
      have hneg : ¬(((flB (bs.take k)).length : Int) + s.length < 0) := by omega
      have hpl := hpt.len
      simp [h, a1, a2, a3, hpl, hw2, hneg, hwk, hft]
      omega
    · have hkl : k = bs.length := by omega
      subst hkl
      rw [List.take_length]
      simp
      refine grow_ob hl ?_
      intro v l ho
      simp [hXl]
      refine loop_up bs.length (CatI l1 X bs) ?_ ⟨by simp, by simp, by simp, v, by simp, by simpa [flB] using ho⟩
      rintro k σ l2 hk ⟨g25, g26, g27, w, g6, ho⟩
      obtain ⟨σ, rfl⟩ := upds4 g6 g25 g26 g27
      clear g6 g25 g26 g27
      unfold l89_1
      simp
      by_cases h : k < bs.length
      · obtain ⟨y, s, p, cs, o, hw, hs, hpt, a1, a2, a3⟩ := hX l2 ho.le ho.same k (by omega)
        have hft := flB_take hs
        have hle := flB_le bs (k + 1)
        rw [hft, List.length_append] at hle
        have hwk : IntKind.i64.wrap ((k : Int) + 1) = k + 1 := wrap_i64 (by omega) (by omega)
        have hr : roomMax = 140737488355328 := rfl
        obtain ⟨v', l3, b1, b2, b3⟩ := ho.app (by_ := 1) (x := y) (xs := s) (hpt.con l2 (Nat.le_refl _) fun _ _ => rfl) (by simp [enc8]) (by omega) (by omega) (by rw [hr]; omega)
        simp [h, a1, a2, a3, b1]
        refine AppK.keep ?_
        simp [h, hwk]
        refine ⟨by simp, by simp, by simp, v', by simp, ?_⟩
        rw [hft]
        have hnl : (decide ((flB bs).length = 0) && s.isEmpty) = decide ((flB bs).length = 0) := by
          by_cases he : (flB bs).length = 0
          · have : s = [] := List.length_eq_zero_iff.1 (by omega)
            simp [he, this]
          · simp [he]
        rw [hnl] at b2
        exact b2
      · have hkl : k = bs.length := by omega
        subst hkl
        simp
        rw [List.take_length] at ho
        exact hK _ _ ho
  · simp [flB]
end Op
end Go.CM

/-
  op.Message: walked.
-/
namespace Go.CM
open Go Go.Proofs
set_option linter.unusedVariables false
set_option linter.unusedSimpArgs false
set_option maxRecDepth 100000
namespace Op
open Sha
def bareO (o : Opr) : Opr := { o with e := 0#32, s := 0#32 }
theorem wMsg_ob (o : Opr) (ho : OkOp o) (hk : opErr (bareO o) = 0) {l : Hl} {K : CV → Hl → Prop} (hK : ∀ w l', Ob 1 enc8 l l' w (opText o) false → K (.tu [w, .int .i64 0]) l') :
    CallP Tryz.prog GS 88 [.ag (encOp o)] l (c := ⟨K⟩) := by
  apply call_intro c88_eq r88_eq
  unfold c88 r88
  have hr : roomMax = 140737488355328 := rfl
  have hna := numB_len o.author.toNat
  have hns := numB_len o.stamp.toNat
  have hpl := listB_len ho.ids
  have hob : OkOp (bareO o) := ⟨ho.ids, ho.len, ho.val, ho.key⟩
  have hck := wOpCheck_ok (bareO o) hob
  rw [hk] at hck
  have hl4 : o.preds.l.length ≤ 4 := opErr_len (o := bareO o) hk
  have hris : ris o.preds.l = true := by
    unfold opErr at hk
    have e1 : (bareO o).preds = o.preds := rfl
    rw [e1, if_neg (by omega)] at hk
    cases h3 : ris o.preds.l with
    | true => rfl
    | false => rw [h3] at hk; cases hk
  have hsw : (BitVec.setWidth 64 o.author).toNat = o.author.toNat := by rw [BitVec.toNat_setWidth]; exact Nat.mod_eq_of_lt (by have := o.author.isLt; omega)
  have hclb := closed_op (bareO o)
  have hlt : l.length < (l ++ [CB.cells 11 (encOp (bareO o))]).length := by simp
  have hat : (l ++ [CB.cells 11 (encOp (bareO o))])[l.length]? = some (.cells 11 (encOp (bareO o))) := by simp
  simp [encOp]
  refine pure_call hck (show closedL [CV.ag (encOp (bareO o))] = true by simp [closedL, CV.closed, hclb]) ?_
  simp
  refine wIDs_ob o.preds ho.ids (by omega) hris fun w1 l1 h1 => ?_
  have hp1 : l1[l.length]? = some (.cells 11 (encOp (bareO o))) := by rw [h1.same _ hlt]; exact hat
  have hlt1 : l.length < l1.length := by have := h1.le; simp at this; omega
  have hp1' := hp1
  simp [encOp, bareO] at hp1'
  have hq1 : (l1 ++ [CB.cells 1 [CV.int .u8 111]])[l.length]? = some (.cells 11 (encOp (bareO o))) := by rw [List.getElem?_append_left hlt1]; exact hp1
  have hltq : l.length < (l1 ++ [CB.cells 1 [CV.int .u8 111]]).length := by simp; omega
  have hq1' := hq1
  simp [encOp, bareO] at hq1'
  simp [hq1']
  have hqL : (l1 ++ [CB.cells 1 [CV.int .u8 111], CB.cells 1 [CV.int .u8 (u o.act.kind)]])[l.length]? = some (.cells 11 (encOp (bareO o))) := by rw [List.getElem?_append_left hlt1]; exact hp1
  have hq111 : (l1 ++ [CB.cells 1 [CV.int .u8 111], CB.cells 1 [CV.int .u8 (u o.act.kind)]])[l1.length]? = some (.cells 1 [.int .u8 111]) := by simp
  have hqk : (l1 ++ [CB.cells 1 [CV.int .u8 111], CB.cells 1 [CV.int .u8 (u o.act.kind)]])[l1.length + 1]? = some (.cells 1 [.int .u8 (u o.act.kind)]) := by simp
  have hLl : (l1 ++ [CB.cells 1 [CV.int .u8 111], CB.cells 1 [CV.int .u8 (u o.act.kind)]]).length = l1.length + 2 := by simp
  refine wNumber_ob _ fun w2 l2 h2 => ?_
  rw [hsw] at h2
  have hle2 := h2.le
  rw [hLl] at hle2
  have hp2 : l2[l.length]? = some (.cells 11 (encOp (bareO o))) := by rw [h2.same _ (by rw [hLl]; omega)]; exact hqL
  have h2111 : l2[l1.length]? = some (.cells 1 [.int .u8 111]) := by rw [h2.same _ (by rw [hLl]; omega)]; exact hq111
  have h2k : l2[l1.length + 1]? = some (.cells 1 [.int .u8 (u o.act.kind)]) := by rw [h2.same _ (by rw [hLl]; omega)]; exact hqk
  have hp2' := hp2
  simp [encOp, bareO] at hp2'
  simp [hp2', h2111, h2k]
  refine wNumber_ob _ fun w3 l3 h3 => ?_
  have hle3 := h3.le
  have hp3 : l3[l.length]? = some (.cells 11 (encOp (bareO o))) := by rw [h3.same _ (by omega)]; exact hp2
  have h3111 : l3[l1.length]? = some (.cells 1 [.int .u8 111]) := by rw [h3.same _ (by omega)]; exact h2111
  have h3k : l3[l1.length + 1]? = some (.cells 1 [.int .u8 (u o.act.kind)]) := by rw [h3.same _ (by omega)]; exact h2k
  have hp3' := hp3
  simp [encOp, bareO] at hp3'
  simp [hp3', h3111, h3k, h1.cells, h2.cells, h3.cells, splice]
  obtain ⟨L, hL⟩ : ∃ L, L = l3 ++ [CB.cells 5 [.sl 1 l1.length 0 1 1 1, w2, w1, w3, .sl 1 (l1.length + 1) 0 1 1 1]] := ⟨_, rfl⟩
  have hLle : l3.length ≤ L.length := by rw [hL]; simp
  have hLs : ∀ b, b < l3.length → L[b]? = l3[b]? := fun b hb => by rw [hL, List.getElem?_append_left hb]
  have hLb : L[l3.length]? = some (.cells 5 [.sl 1 l1.length 0 1 1 1, w2, w1, w3, .sl 1 (l1.length + 1) 0 1 1 1]) := by rw [hL]; simp
  rw [← hL]
  have P0 : Part L (.sl 1 l1.length 0 1 1 1) [111#8] := part_one (by rw [hLs _ (by omega)]; exact h3111)
  have P4 : Part L (.sl 1 (l1.length + 1) 0 1 1 1) [o.act.kind] := part_one (by rw [hLs _ (by omega)]; exact h3k)
  have P1 : Part L w2 (numB o.author.toNat) := ((ob_part h2).frame hle3 h3.same).frame hLle hLs
  have P2 : Part L w1 (listB o.preds.l) := ((((ob_part h1).frame (l1 := l1 ++ [CB.cells 1 [CV.int .u8 111], CB.cells 1 [CV.int .u8 (u o.act.kind)]]) (by rw [hLl]; omega) (fun b hb => List.getElem?_append_left hb)).frame (by rw [hLl]; exact hle2) h2.same).frame hle3 h3.same).frame hLle hLs
  have P3 : Part L w3 (numB o.stamp.toNat) := (ob_part h3).frame hLle hLs
  have hpL : L[l.length]? = some (.cells 11 (encOp (bareO o))) := by rw [hLs _ (by omega)]; exact hp3
  obtain ⟨M, hM⟩ : ∃ M, M = flB [[111#8], numB o.author.toNat, listB o.preds.l, numB o.stamp.toNat, [o.act.kind]] := ⟨_, rfl⟩
  have hMe : M = [111#8] ++ numB o.author.toNat ++ listB o.preds.l ++ numB o.stamp.toNat ++ [o.act.kind] := by rw [hM]; simp [flB]
  have hMl : M.length ≤ 40000 := by rw [hMe]; simp only [List.length_append, List.length_cons, List.length_nil]; omega
  have hM0 : M.length ≠ 0 := by rw [hMe]; simp
  refine concat_ob (bs := [[111#8], numB o.author.toNat, listB o.preds.l, numB o.stamp.toNat, [o.act.kind]]) hLb rfl rfl ?_ (by rw [← hM]; omega) (by omega) fun w4 l4 h4 => ?_
  · intro k w s hw hs
    rcases k with _ | _ | _ | _ | _ | k
    · obtain rfl := Option.some.inj hw; obtain rfl := Option.some.inj hs; exact P0
    · obtain rfl := Option.some.inj hw; obtain rfl := Option.some.inj hs; exact P1
    · obtain rfl := Option.some.inj hw; obtain rfl := Option.some.inj hs; exact P2
    · obtain rfl := Option.some.inj hw; obtain rfl := Option.some.inj hs; exact P3
    · obtain rfl := Option.some.inj hw; obtain rfl := Option.some.inj hs; exact P4
    · cases hw
  rw [← hM, decide_eq_false hM0] at h4
  have hLl2 : l.length ≤ L.length := by omega
  have h4' : Ob 1 enc8 l l4 w4 M false := h4.base hLl2 fun b hb => by
    have hbl : b < l1.length := by omega
    rw [hLs b (by omega), h3.same b (by omega), h2.same b (by rw [hLl]; omega), List.getElem?_append_left hbl, h1.same b (by simp; omega), List.getElem?_append_left hb]
  have hp4 : l4[l.length]? = some (.cells 11 (encOp (bareO o))) := by rw [h4.same _ (by omega)]; exact hpL
  have hlt4 : l.length < l4.length := get_lt hp4
  have hp4' := hp4
  simp [encOp, bareO] at hp4'
  have hT : opText o = M ++ (if o.act.kind = 1#8 then [] else textB (tB o.act.key)) ++ (if o.act.kind = 4#8 then valBytes o.act.val else []) := by rw [hMe]; rfl
  have htl := textB_len (tB o.act.key)
  rw [tB_len] at htl
  have hkey := ho.key
  have hvl := valBytes_len o.act.val
  have hvt := ho.val.2.2
  have hc : csbC (.str o.act.key) = some (.rsl 1 ((tB o.act.key).map enc8)) := by
    show some (CV.rsl 1 (o.act.key.map fun b => [byteC b])) = _
    rw [tB_rsl]
  by_cases c1 : o.act.kind = 1#8
  · have e1 : (u o.act.kind : Int) = 1 := (u_1 o.act.kind).2 c1
    have c4 : ¬ o.act.kind = 4#8 := by rw [c1]; decide
    rw [if_pos c1, if_neg c4, List.append_nil, List.append_nil] at hT
    simp [hp4', e1]
    exact hK _ _ (by rw [hT]; exact h4')
  · have e1 : ¬ (u o.act.kind : Int) = 1 := fun h => c1 ((u_1 o.act.kind).1 h)
    rw [if_neg c1] at hT
    simp [hp4', e1, hc]
    refine wBytes_ob (some (tB o.act.key)) (by simpa [tB_len] using hkey) (by simp [contentsL]) (by simp) (fun l' _ _ => by simp [contentsL]) fun w8 l8 h8 => ?_
    obtain ⟨w9, l9, a9, b9, _⟩ := (h4'.frame h8.le h8.same).app (by_ := 1) (x := w8) (xs := textB (tB o.act.key)) h8.contents (by simp [enc8]) (by omega) (by omega) (by rw [hr]; omega)
    have b9' := (h4.frame h8.le h8.same).app (by_ := 1) (x := w8) (xs := textB (tB o.act.key)) h8.contents (by simp [enc8]) (by omega) (by omega) (by rw [hr]; omega)
    obtain ⟨w9', l9', a9', c9, _⟩ := b9'
    rw [a9] at a9'
    obtain ⟨rfl, rfl⟩ := Prod.mk.inj (Option.some.inj a9')
    have hp9 : l9[l.length]? = some (.cells 11 (encOp (bareO o))) := by rw [c9.same _ (by omega)]; exact hpL
    have hp9' := hp9
    simp [encOp, bareO] at hp9'
    simp [a9]
    refine AppK.keep ?_
    simp only [Bool.false_and] at b9
    by_cases c4 : o.act.kind = 4#8
    · have e4 : (u o.act.kind : Int) = 4 := (u_4 o.act.kind).2 c4
      rw [if_pos c4] at hT
      have hact : actB o.act = true := by
        cases h : actB o.act with
        | true => rfl
        | false =>
          unfold opErr at hk
          have e2 : (bareO o).preds = o.preds := rfl
          have e3 : (bareO o).act = o.act := rfl
          rw [e2, if_neg (by omega), hris, if_pos rfl] at hk
          unfold goodB at hk
          rw [e3, h] at hk
          simp at hk
      rw [act4 c4, Bool.and_eq_true] at hact
      simp [hp9', e4]
      refine wValBytes_ob o.act.val ho.val hact.2 fun w10 l10 h10 => ?_
      obtain ⟨w11, l11, a11, b11, _⟩ := (b9.frame h10.le h10.same).app (by_ := 1) (x := w10) (xs := valBytes o.act.val) h10.contents (by simp [enc8]) (by omega) (by omega) (by rw [hr]; simp only [List.length_append]; omega)
      simp [a11]
      refine AppK.keep ?_
      simp
      exact hK _ _ (by rw [hT]; exact b11)
    · have e4 : ¬ (u o.act.kind : Int) = 4 := fun h => c4 ((u_4 o.act.kind).1 h)
      rw [if_neg c4, List.append_nil] at hT
      simp [hp9', e4]
      exact hK _ _ (by rw [hT]; exact b9)
end Op
end Go.CM

/-
  op.Encode and op.ID: walked.
-/
namespace Go.CM
open Go Go.Proofs
set_option linter.unusedVariables false
set_option linter.unusedSimpArgs false
set_option maxRecDepth 100000
namespace Op
open Sha
theorem bare_err {o : Opr} (h : opErr o = 0) : opErr (bareO o) = 0 := by
  unfold opErr at h ⊢
  have e1 : (bareO o).preds = o.preds := rfl
  rw [e1]
  have hg : goodB o = true → goodB (bareO o) = true := by
    unfold goodB bareO
    simp only [Bool.and_eq_true]
    rintro ⟨a, b, c, d, e⟩
    exact ⟨a, b, c, by decide, by decide⟩
  split at h
  · cases h
  · rename_i h1
    rw [if_neg h1]
    split at h
    · rename_i h2
      rw [if_pos h2]
      split at h
      · rename_i h3
        rw [if_pos (hg h3)]
      · cases h
    · cases h
theorem err_act {o : Opr} (h : opErr o = 0) : actB o.act = true := by
  unfold opErr at h
  split at h
  · cases h
  · split at h
    · split at h
      · rename_i h3
        unfold goodB at h3
        simp only [Bool.and_eq_true] at h3
        exact h3.2.2.1
      · cases h
    · cases h
theorem keyB_len {s : List UInt8} (h : keyB s = true) : s.length ≤ 20 := by
  unfold keyB at h
  simp only [Bool.and_eq_true, decide_eq_true_eq] at h
  omega
theorem err_small {o : Opr} (ho : OkOp o) (h : opErr o = 0) : (opBytes o).length ≤ 1000 := by
  have h1 := numB_len o.author.toNat
  have h2 := numB_len o.stamp.toNat
  have h3 := listB_len ho.ids
  have h4 := textB_len (tB o.act.key)
  rw [tB_len] at h4
  have h6 := valBytes_len o.act.val
  have hp := opErr_len h
  have he := numB_len o.e.toNat
  have hs := numB_len o.s.toNat
  have ha := err_act h
  have g1 : (if o.act.kind = 1#8 then [] else textB (tB o.act.key)).length ≤ 100 := by
    split
    · simp
    · rename_i c1
      have : o.act.key.length ≤ 20 := by
        by_cases c2 : o.act.kind = 2#8
        · rw [act2 c2, Bool.and_eq_true] at ha; exact keyB_len ha.1
        · by_cases c3 : o.act.kind = 3#8
          · rw [act3 c3, Bool.and_eq_true] at ha; exact keyB_len ha.1
          · by_cases c4 : o.act.kind = 4#8
            · rw [act4 c4, Bool.and_eq_true] at ha; exact keyB_len ha.1
            · rw [act5 c1 c2 c3 c4] at ha; cases ha
      omega
  have g2 : (if o.act.kind = 4#8 then valBytes o.act.val else []).length ≤ 100 := by
    split
    · rename_i c4
      rw [act4 c4, Bool.and_eq_true] at ha
      have hv := ha.2
      have : o.act.val.text.length ≤ 30 := by
        by_cases k1 : o.act.val.kind = 1#8
        · rw [valB1 k1] at hv
          simp only [Bool.and_eq_true, decide_eq_true_eq] at hv
          rw [hv.2]; simp
        · by_cases k2 : o.act.val.kind = 2#8
          · rw [valB2 k2] at hv
            simp only [Bool.and_eq_true, decide_eq_true_eq] at hv
            rw [hv.2.2]; simp
          · by_cases k3 : o.act.val.kind = 3#8
            · by_cases hl : o.act.val.text.length ≤ 30
              · exact hl
              · rw [valB3 k3] at hv
                unfold textV at hv
                rw [if_neg hl] at hv
                simp only [Bool.and_eq_true, decide_eq_true_eq, zeroVal] at hv
                have := hv.1
                rw [k3] at this
                exact absurd this (by decide)
            · rw [valB4 k1 k2 k3] at hv; cases hv
      omega
    · simp
  unfold opBytes opText opHead
  simp only [List.length_append, List.length_cons, List.length_nil]
  omega
theorem wEncode_ob (o : Opr) (ho : OkOp o) (hk : opErr o = 0) {l : Hl} {K : CV → Hl → Prop} (hK : ∀ w l', Ob 1 enc8 l l' w (opBytes o) false → K (.tu [w, .int .i64 0]) l') :
    CallP Tryz.prog GS 59 [.ag (encOp o)] l (c := ⟨K⟩) := by
  apply call_intro c59_eq r59_eq
  unfold c59 r59
  have hck := wOpCheck_ok o ho
  rw [hk] at hck
  have hcl := closed_op o
  have hsm := err_small ho hk
  have hse : (BitVec.setWidth 64 o.e).toNat = o.e.toNat := by rw [BitVec.toNat_setWidth]; exact Nat.mod_eq_of_lt (by have := o.e.isLt; omega)
  have hss : (BitVec.setWidth 64 o.s).toNat = o.s.toNat := by rw [BitVec.toNat_setWidth]; exact Nat.mod_eq_of_lt (by have := o.s.isLt; omega)
  have hlt : l.length < (l ++ [CB.cells 11 (encOp o)]).length := by simp
  have hat : (l ++ [CB.cells 11 (encOp o)])[l.length]? = some (.cells 11 (encOp o)) := by simp
  simp [encOp]
  refine pure_call hck (show closedL [CV.ag (encOp o)] = true by simp [closedL, CV.closed, hcl]) ?_
  simp
  refine wMsg_ob o ho (bare_err hk) fun w1 l1 h1 => ?_
  have hp1 : l1[l.length]? = some (.cells 11 (encOp o)) := by rw [h1.same _ hlt]; exact hat
  have hlt1 : l.length < l1.length := get_lt hp1
  have hp1' := hp1
  simp [encOp] at hp1'
  simp [hp1']
  refine wNumber_ob _ fun w2 l2 h2 => ?_
  rw [hse] at h2
  have hp2 : l2[l.length]? = some (.cells 11 (encOp o)) := by rw [h2.same _ hlt1]; exact hp1
  have hp2' := hp2
  simp [encOp] at hp2'
  simp [hp2']
  refine wNumber_ob _ fun w3 l3 h3 => ?_
  rw [hss] at h3
  simp [h1.cells, h2.cells, h3.cells, splice]
  obtain ⟨L, hL⟩ : ∃ L, L = l3 ++ [CB.cells 3 [w1, w2, w3]] := ⟨_, rfl⟩
  have hLle : l3.length ≤ L.length := by rw [hL]; simp
  have hLs : ∀ b, b < l3.length → L[b]? = l3[b]? := fun b hb => by rw [hL, List.getElem?_append_left hb]
  have hLb : L[l3.length]? = some (.cells 3 [w1, w2, w3]) := by rw [hL]; simp
  rw [← hL]
  have P0 : Part L w1 (opText o) := (((ob_part h1).frame h2.le h2.same).frame h3.le h3.same).frame hLle hLs
  have P1 : Part L w2 (numB o.e.toNat) := ((ob_part h2).frame h3.le h3.same).frame hLle hLs
  have P2 : Part L w3 (numB o.s.toNat) := (ob_part h3).frame hLle hLs
  have hM : flB [opText o, numB o.e.toNat, numB o.s.toNat] = opBytes o := by simp [flB, opBytes]
  have hM0 : (opBytes o).length ≠ 0 := by unfold opBytes opText opHead; simp
  refine concat_ob (bs := [opText o, numB o.e.toNat, numB o.s.toNat]) hLb rfl rfl ?_ (by rw [hM]; omega) (by omega) fun w4 l4 h4 => ?_
  · intro k w s hw hs
    rcases k with _ | _ | _ | k
    · obtain rfl := Option.some.inj hw; obtain rfl := Option.some.inj hs; exact P0
    · obtain rfl := Option.some.inj hw; obtain rfl := Option.some.inj hs; exact P1
    · obtain rfl := Option.some.inj hw; obtain rfl := Option.some.inj hs; exact P2
    · cases hw
  rw [hM, decide_eq_false hM0] at h4
  simp
  refine hK _ _ (h4.base ?_ fun b hb => ?_)
  · have := h2.le; have := h3.le; omega
  · have := h2.le; have := h3.le
    rw [hLs b (by omega), h3.same b (by omega), h2.same b (by omega), h1.same b (by simp; omega), List.getElem?_append_left hb]
theorem wEncode_bad (o : Opr) (ho : OkOp o) (hk : ¬ opErr o = 0) : PureC Tryz.prog GS 59 [.ag (encOp o)] (.tu [.nilS, .int .i64 (opErr o)]) := by
  refine pure_of Tryz.checked.mixed GS_closed ?_
  apply call_intro c59_eq r59_eq
  unfold c59 r59
  have hck := wOpCheck_ok o ho
  have hcl := closed_op o
  obtain ⟨E, hE⟩ : ∃ E, E = encOp o := ⟨_, rfl⟩
  have hEl : E.length = 11 := by rw [hE]; rfl
  rw [← hE] at hck hcl ⊢
  simp [hEl, List.take_of_length_le]
  refine pure_call hck (by simp [closedL, CV.closed, hcl]) ?_
  simp [hk]
  exact rd_eq rfl rfl
theorem wID_ok (o : Opr) (ho : OkOp o) : PureC Tryz.prog GS 43 [.ag (encOp o)] (.tu [idC (idOf o), .int .i64 (opErr o)]) := by
  refine pure_of Tryz.checked.mixed GS_closed ?_
  apply call_intro c43_eq r43_eq
  unfold c43 r43 idOf
  have hcl := closed_op o
  have hz : (rep 32 (.int .u8 0) : List CV) = (List.replicate 32 0#8).map e8 := by simp [rep]
  obtain ⟨E, hE⟩ : ∃ E, E = encOp o := ⟨_, rfl⟩
  have hEl : E.length = 11 := by rw [hE]; rfl
  by_cases h0 : opErr o = 0
  · have hsm := err_small ho h0
    have hsl : (sha (opBytes o)).length = 32 := sha_length _
    rw [← hE]
    simp [hEl, List.take_of_length_le]
    rw [hE]
    refine wEncode_ob o ho h0 fun w1 l1 h1 => ?_
    rw [← hE] at h1
    have hat : l1[1]? = some (.cells 32 (rep 32 (.int .u8 0))) := by rw [h1.same 1 (by simp)]; rfl
    simp
    refine pure_callB (sum_ok (some (opBytes o)) (by simp; omega)) (.cons (h1.rdH (fun _ => rfl) (some (opBytes o)) rfl rfl) .nil) (by simp [CV.flat, flatL, idC, flatL_map e8 (fun _ => rfl)]) ?_
    have hspl : splice (rep 32 (.int .u8 0)) 0 ((sha (opBytes o)).map e8) = (sha (opBytes o)).map e8 := splice_full (by rw [List.length_map, hsl]; rfl)
    have hset : (l1.set 1 (CB.cells 32 ((sha (opBytes o)).map e8)))[1]? = some (.cells 32 ((sha (opBytes o)).map e8)) := List.getElem?_set_self (get_lt hat)
    simp [hat, idC, hsl, hspl, hset, List.take_of_length_le]
    exact rd_eq (by rw [if_pos h0, h0]) (by simp [CV.closed, closedL, closedL_map e8 (fun _ => rfl)])
  · have hen := wEncode_bad o ho h0
    rw [← hE] at hen hcl ⊢
    simp [hEl, List.take_of_length_le]
    refine pure_call hen (by simp [closedL, CV.closed, hcl]) ?_
    simp [h0, idC, hz]
    exact rd_eq rfl (by simp only [CV.closed, closedL, closedL_map e8 (fun _ => rfl), Bool.and_self])
end Op
end Go.CM

/-
  Operations: what comes in, taken apart by its types.
-/
namespace Go.CM
open Go Go.Proofs Go.RowKit
set_option linter.unusedVariables false
set_option linter.unusedSimpArgs false
set_option maxRecDepth 100000
namespace Op
open Sha
theorem ty_str {P : Program} {t : TypeId} {ts : List TypeId} {cs : List CV} (hu : P.underlying t = some .string) (h : Ty P (t :: ts) cs) : ∃ s cs', cs = .str s :: cs' ∧ Ty P ts cs' := by
  cases h
  case str s cs' hs hu' h => exact ⟨_, _, rfl, h⟩
  all_goals (exfalso; simp_all; done)
theorem ty_u8 {ts : List TypeId} {cs : List CV} (h : Ty Tryz.prog (5 :: ts) cs) : ∃ (x : B) (cs' : List CV), cs = e8 x :: cs' ∧ Ty Tryz.prog ts cs' := by
  obtain ⟨k, cs1, rfl, h1, h2, h3⟩ := ty_int (k := .u8) (by kernel_rfl) h
  have h5 : (0 : Int) ≤ k := h1
  have h6 : k ≤ 255 := h2
  refine ⟨BitVec.ofNat 8 k.toNat, cs1, ?_, h3⟩
  have : ((BitVec.ofNat 8 k.toNat).toNat : Int) = k := by
    rw [BitVec.toNat_ofNat, Nat.mod_eq_of_lt (by omega)]; omega
  simp [e8, u]; omega
theorem ty_idm {ts : List TypeId} {cs : List CV} (h : Ty Tryz.prog (32 :: ts) cs) : ∃ (x : List B) (cs' : List CV), cs = x.map e8 ++ cs' ∧ x.length = 32 ∧ Ty Tryz.prog ts cs' := by
  have h1 := ty_array (e := 5) (n := 32) (by kernel_rfl) h
  exact ty_bytes (by kernel_rfl) 32 h1
theorem ty_ids {ts : List TypeId} {cs : List CV} (h : Ty Tryz.prog (25 :: ts) cs) : ∃ (s : Ids) (cs' : List CV), cs = encIds s :: cs' ∧ okIds s ∧ Ty Tryz.prog ts cs' := by
  obtain ⟨s, cs', rfl, _, h1, h2⟩ := ty_sl (e := 32) (z := 32) (enc := eId) (Q := fun x => x.length = 32) (by kernel_rfl) (by kernel_rfl) (fun r hr => by
    obtain ⟨x, cs', rfl, hx, h3⟩ := ty_idm hr
    rw [ty_nil h3, List.append_nil]
    exact ⟨x, rfl, hx⟩) h
  exact ⟨s, cs', rfl, h1, h2⟩
theorem ty_u32 {ts : List TypeId} {cs : List CV} (h : Ty Tryz.prog (35 :: ts) cs) : ∃ (x : D) (cs' : List CV), cs = e32 x :: cs' ∧ Ty Tryz.prog ts cs' := by
  obtain ⟨k, cs1, rfl, h1, h2, h3⟩ := ty_int (k := .u32) (by kernel_rfl) h
  have h5 : (0 : Int) ≤ k := h1
  have h6 : k ≤ 4294967295 := h2
  refine ⟨BitVec.ofNat 32 k.toNat, cs1, ?_, h3⟩
  have : ((BitVec.ofNat 32 k.toNat).toNat : Int) = k := by
    rw [BitVec.toNat_ofNat, Nat.mod_eq_of_lt (by omega)]; omega
  simp [e32, u]; omega
structure TyOp (o : Opr) : Prop where
  ids : okIds o.preds
  n1 : -9223372036854775808 ≤ o.act.val.num
  n2 : o.act.val.num < 9223372036854775808
theorem ty_val2 {ts : List TypeId} {cs : List CV} (h : Ty Tryz.prog (38 :: ts) cs) : ∃ (v : Val) (cs' : List CV), cs = [e8 v.kind, .int .i64 v.num, e64 v.bits, .str v.text] ++ cs' ∧ (-9223372036854775808 ≤ v.num ∧ v.num < 9223372036854775808) ∧ Ty Tryz.prog ts cs' := by
  have h1 := ty_struct (fs := [5, 2, 36, 9]) (by kernel_rfl) h
  obtain ⟨k, _, rfl, h2⟩ := ty_u8 h1
  obtain ⟨n, _, rfl, hn1, hn2, h3⟩ := ty_int (k := .i64) (by kernel_rfl) h2
  obtain ⟨b, _, rfl, h4⟩ := ty_u64 h3
  obtain ⟨s, _, rfl, h5⟩ := ty_str (by kernel_rfl) h4
  have h6 : n ≤ 9223372036854775807 := hn2
  exact ⟨⟨k, n, b, s⟩, _, rfl, ⟨hn1, by show n < 9223372036854775808; omega⟩, h5⟩
theorem ty_act2 {ts : List TypeId} {cs : List CV} (h : Ty Tryz.prog (40 :: ts) cs) : ∃ (a : Act) (cs' : List CV), cs = [e8 a.kind, .str a.key, e8 a.val.kind, .int .i64 a.val.num, e64 a.val.bits, .str a.val.text] ++ cs' ∧ (-9223372036854775808 ≤ a.val.num ∧ a.val.num < 9223372036854775808) ∧ Ty Tryz.prog ts cs' := by
  have h1 := ty_struct (fs := [5, 9, 38]) (by kernel_rfl) h
  obtain ⟨k, _, rfl, h2⟩ := ty_u8 h1
  obtain ⟨s, _, rfl, h3⟩ := ty_str (by kernel_rfl) h2
  obtain ⟨v, _, rfl, hv, h4⟩ := ty_val2 h3
  exact ⟨⟨k, s, v⟩, _, rfl, hv, h4⟩
theorem ty_op {ts : List TypeId} {cs : List CV} (h : Ty Tryz.prog (44 :: ts) cs) : ∃ (o : Opr) (cs' : List CV), cs = encOp o ++ cs' ∧ TyOp o ∧ Ty Tryz.prog ts cs' := by
  have h1 := ty_struct (fs := [35, 25, 36, 40, 42]) (by kernel_rfl) h
  obtain ⟨a, _, rfl, h2⟩ := ty_u32 h1
  obtain ⟨p, _, rfl, hp, h3⟩ := ty_ids h2
  obtain ⟨n, _, rfl, h4⟩ := ty_u64 h3
  obtain ⟨c, _, rfl, hc, h5⟩ := ty_act2 h4
  have h6 := ty_struct (fs := [35, 35]) (by kernel_rfl) h5
  obtain ⟨x, _, rfl, h7⟩ := ty_u32 h6
  obtain ⟨y, cs', rfl, h8⟩ := ty_u32 h7
  exact ⟨⟨a, p, n, c, x, y⟩, cs', by simp [encOp], ⟨hp, hc.1, hc.2⟩, h8⟩
end Op
end Go.CM

/-
  Powers in the group, as a contract for the runner.
-/
namespace Go.CM
open Go Go.Proofs
set_option linter.unusedVariables false
set_option linter.unusedSimpArgs false
set_option maxRecDepth 100000
open Sha Op
def pmk (a n : Nat) : Nat → Nat
  | 0 => 1
  | k + 1 => match Nat.beq (n / 2 ^ (63 - k) % 2) 1 with
    | true => ((pmk a n k) ^ 2 % 1000000007) * a % 1000000007
    | false => (pmk a n k) ^ 2 % 1000000007
theorem pmk_eq (a n : Nat) (hn : n < 2 ^ 64) : ∀ k, k ≤ 64 → pmk a n k = powM a (n / 2 ^ (64 - k))
  | 0, _ => by
    have : n / 2 ^ (64 - 0) = 0 := Nat.div_eq_of_lt hn
    rw [this]; rfl
  | k + 1, hk => by
    have ih := pmk_eq a n hn k (by omega)
    have hb := half_bit n k (by omega)
    have e : 64 - (k + 1) = 63 - k := by omega
    rw [e]
    unfold pmk
    rw [ih, Nat.pow_two, powM_two]
    split
    · rename_i h
      have h1 := Nat.eq_of_beq_eq_true h
      rw [powM_odd, hb, h1]
    · rename_i h
      have h1 : n / 2 ^ (63 - k) % 2 ≠ 1 := fun hh => by rw [hh] at h; cases h
      rw [hb]
      congr 1; omega
def powF : List CV → Option CV
  | [.int .u32 x, .int .u64 n] => match decide (0 ≤ x) && (decide (x < 4294967296) && (decide (0 ≤ n) && decide (n < 18446744073709551616))) with
    | true => some (.int .u32 ((pmk x.toNat n.toNat 64 : Nat) : Int))
    | false => none
  | _ => none
abbrev powO : FuncId × Bool × (List CV → Option CV) := (135, false, powF)
theorem powO_ok : OrcP Tryz.prog GS powO := by
  intro args r h
  refine ⟨?_, fun h => by cases h⟩
  simp only [powF] at h
  split at h
  · rename_i x n
    split at h
    · rename_i hc
      cases h
      simp only [Bool.and_eq_true, decide_eq_true_eq] at hc
      obtain ⟨h1, h2, h3, h4⟩ := hc
      have hx : (CV.int .u32 x) = e32 (BitVec.ofNat 32 x.toNat) := by
        have : ((BitVec.ofNat 32 x.toNat).toNat : Int) = x := by
          rw [BitVec.toNat_ofNat, Nat.mod_eq_of_lt (by omega)]; omega
        simp [e32, u]; omega
      have hn : (CV.int .u64 n) = e64 (BitVec.ofNat 64 n.toNat) := by
        have : ((BitVec.ofNat 64 n.toNat).toNat : Int) = n := by
          rw [BitVec.toNat_ofNat, Nat.mod_eq_of_lt (by omega)]; omega
        simp [e64, u]; omega
      have hp := pow_ok (BitVec.ofNat 32 x.toNat) (BitVec.ofNat 64 n.toNat)
      have hr : e32 (powW (BitVec.ofNat 32 x.toNat) (BitVec.ofNat 64 n.toNat).toNat) = .int .u32 ((pmk x.toNat n.toNat 64 : Nat) : Int) := by
        have e1 : (BitVec.ofNat 32 x.toNat).toNat = x.toNat := by rw [BitVec.toNat_ofNat, Nat.mod_eq_of_lt (by omega)]
        have e2 : (BitVec.ofNat 64 n.toNat).toNat = n.toNat := by rw [BitVec.toNat_ofNat, Nat.mod_eq_of_lt (by omega)]
        show CV.int .u32 (u _) = _
        unfold u
        rw [powW_nat, e1, e2, pmk_eq _ _ (by omega) 64 (Nat.le_refl _)]
        simp
      rw [hx, hn, ← hr]
      exact hp
    · cases h
  · cases h
end Go.CM

/-
  Rows of one's own: one element is set, the rest is cleared and cut off; a copy; what a condition says is left out.
-/
namespace Go.CM
open Go Go.Proofs
set_option linter.unusedVariables false
set_option linter.unusedSimpArgs false
set_option maxRecDepth 100000
namespace Op
open Sha
section
variable {α : Type} {z : Nat} {enc : α → List CV}
theorem ow_cut {l : Hl} {v : CV} {j k : Nat} {ys : List α} {zr : List CV} (hzr : zr.length = z) (h : OwnS z l v j (ys.map enc)) (hk : k < ys.length) :
    ∃ v3 l3 r, sliceM (.sl z) v (some (.int .i64 (k : Int))) none none = some v3 ∧ clearL zr l v3 = some l3 ∧ sliceM (.sl z) v none (some (.int .i64 (k : Int))) none = some r ∧
      OwnS z l3 r j ((ys.take k).map enc) ∧ isNilS r = false ∧ l3.length = l.length ∧ ∀ b, b ≠ j → l3[b]? = l[b]? := by
  generalize he : ys.map enc = es at h
  cases h with
  | nil j => rw [List.map_eq_nil_iff] at he; subst he; simp at hk
  | sl j n cap sz cs es hb hl hn hz hc hcap hcs =>
    subst he
    have hn' : ys.length = n := by simpa using hn
    have hb1 : boundC (.int .i64 (k : Int)) n = some k := by
      show (if 0 ≤ (k : Int) ∧ (k : Int) ≤ (n : Int) then some (k : Int).toNat else none) = some k
      rw [if_pos ⟨by omega, by omega⟩]; simp
    have hb2 : boundC (.int .i64 (k : Int)) cap = some k := by
      show (if 0 ≤ (k : Int) ∧ (k : Int) ≤ (cap : Int) then some (k : Int).toNat else none) = some k
      rw [if_pos ⟨by omega, by omega⟩]; simp
    have b1 : boundsC n cap (some (.int .i64 (k : Int))) none none = some (k, n, cap) := by
      show (match boundC (.int .i64 (k : Int)) n with | none => none | some l => some (l, n, cap)) = _
      rw [hb1]
    have b2 : boundsC n cap none (some (.int .i64 (k : Int))) none = some (0, k, cap) := by
      show (match boundC (.int .i64 (k : Int)) cap with | none => none | some h => some (0, h, cap)) = _
      rw [hb2]
    have hck : ¬ cap = k := by omega
    have hc0 : ¬ cap = 0 := by omega
    have hjl : j < l.length := get_lt hb
    have hm1 : k * z ≤ n * z := Nat.mul_le_mul_right _ (by omega)
    have hm2 : n * z ≤ cap * z := Nat.mul_le_mul_right _ hc
    have hrl : (repeatC zr (n - k)).length = (n - k) * z := by rw [repeatC_len', hzr]
    have hm3 : k * z + (n - k) * z = n * z := by rw [← Nat.add_mul]; congr 1; omega
    refine ⟨.sl z j (k * z) (n - k) (cap - k) sz, l.set j (.cells sz (splice cs (k * z) (repeatC zr (n - k)))), .sl z j 0 k cap sz, ?_, ?_, ?_, ?_, rfl, by simp, fun b hbj => by rw [List.getElem?_set_ne (fun h => hbj h.symm)]⟩
    · rw [sliceM_sl, b1]; simp [hck]
    · unfold clearL
      simp only
      rw [if_neg (by omega)]
      simp [hb, hzr]
    · rw [sliceM_sl, b2]; simp [hc0]
    · refine .sl j k cap sz _ _ (List.getElem?_set_self hjl) (by rw [splice_length (by omega), hrl]; omega) (by simp; omega) (fun e he => ?_) (by omega) hcap ?_
      · obtain ⟨y, hy, rfl⟩ := List.mem_map.1 he
        exact hz _ (List.mem_map_of_mem (List.mem_of_mem_take hy))
      · unfold splice
        rw [List.append_assoc, List.take_append_of_le_length (by rw [List.length_take]; omega), List.take_take, Nat.min_self]
        have e1 : cs.take (k * z) = (cs.take (n * z)).take (k * z) := by rw [List.take_take, Nat.min_eq_left hm1]
        have e2 : ys.map enc = (ys.take k).map enc ++ (ys.drop k).map enc := by rw [← List.map_append, List.take_append_drop]
        have e3 : ((ys.take k).map enc).flatten.length = k * z := by
          rw [flatten_len (z := z) (fun e he => by obtain ⟨y, hy, rfl⟩ := List.mem_map.1 he; exact hz _ (List.mem_map_of_mem (List.mem_of_mem_take hy)))]
          rw [List.length_map, List.length_take, Nat.min_eq_left (by omega)]
        rw [e1, hcs, e2, List.flatten_append, List.take_append_of_le_length (by omega), List.take_of_length_le (by omega)]
theorem ow_part {ys : List α} (hz : ∀ y ∈ ys, (enc y).length = z) (k : Nat) (hk : k ≤ ys.length) {n : Nat} (hn : ys.length = n) {cs : List CV} (hcs : cs.take (n * z) = (ys.map enc).flatten) (hl : n * z ≤ cs.length) :
    cs.take (k * z) = ((ys.take k).map enc).flatten ∧ (cs.drop (k * z)).take (n * z - k * z) = ((ys.drop k).map enc).flatten := by
  have hm1 : k * z ≤ n * z := Nat.mul_le_mul_right _ (by omega)
  have e2 : ys.map enc = (ys.take k).map enc ++ (ys.drop k).map enc := by rw [← List.map_append, List.take_append_drop]
  have e3 : ((ys.take k).map enc).flatten.length = k * z := by
    rw [flatten_len (z := z) (fun e he => by obtain ⟨y, hy, rfl⟩ := List.mem_map.1 he; exact hz _ (List.mem_of_mem_take hy))]
    rw [List.length_map, List.length_take, Nat.min_eq_left (by omega)]
  have e1 : cs.take (k * z) = (cs.take (n * z)).take (k * z) := by rw [List.take_take, Nat.min_eq_left hm1]
  constructor
  · rw [e1, hcs, e2, List.flatten_append, List.take_append_of_le_length (by omega), List.take_of_length_le (by omega)]
  · rw [← List.drop_take, hcs, e2, List.flatten_append, List.drop_append_of_le_length (by omega), List.drop_of_length_le (by omega), List.nil_append]
theorem ow_set {l : Hl} {v : CV} {j k : Nat} {ys : List α} {x : α} {X : CV} (hX : X.cells = some (enc x)) (h : OwnS z l v j (ys.map enc)) (hz : ∀ y ∈ ys, (enc y).length = z) (hk : k < ys.length) (hx : (enc x).length = z) :
    ∃ p l', iaC (.sl z) v (.int .i64 (k : Int)) = some p ∧ storeL z l p (X) = some l' ∧ OwnS z l' v j ((ys.set k x).map enc) ∧ l'.length = l.length ∧ ∀ b, b ≠ j → l'[b]? = l[b]? := by
  generalize he : ys.map enc = es at h
  cases h with
  | nil j => rw [List.map_eq_nil_iff] at he; subst he; simp at hk
  | sl j n cap sz cs es hb hl hn hz2 hc hcap hcs =>
    subst he
    have hn' : ys.length = n := by simpa using hn
    have hjl : j < l.length := get_lt hb
    have hxl := hx
    have hm1 : (k + 1) * z ≤ n * z := Nat.mul_le_mul_right _ (by omega)
    have hm2 : n * z ≤ cap * z := Nat.mul_le_mul_right _ hc
    have hs : (k + 1) * z = k * z + z := by rw [Nat.succ_mul]
    obtain ⟨f1, _⟩ := ow_part hz k (by omega) hn' hcs (by omega)
    obtain ⟨_, f2⟩ := ow_part hz (k + 1) (by omega) hn' hcs (by omega)
    refine ⟨.ptr j (k * z) sz, l.set j (.cells sz (splice cs (k * z) (enc x))), ?_, ?_, ?_, by simp, fun b hbj => by rw [List.getElem?_set_ne (fun h => hbj h.symm)]⟩
    · simp [iaC]; omega
    · unfold storeL
      simp [hb, hX, hxl]
      omega
    · refine .sl j n cap sz _ _ (List.getElem?_set_self hjl) (by rw [splice_length (by omega), hxl]; omega) (by simp; omega) (fun e he => ?_) hc hcap ?_
      · obtain ⟨y, hy, rfl⟩ := List.mem_map.1 he
        rcases List.mem_or_eq_of_mem_set hy with h | h
        · exact hz _ h
        · rw [h]; exact hxl
      · have hset : ys.set k x = ys.take k ++ (x :: ys.drop (k + 1)) := by rw [List.set_eq_take_append_cons_drop, if_pos hk]
        rw [hset, List.map_append, List.map_cons, List.flatten_append, List.flatten_cons, ← f1, ← f2]
        unfold splice
        have t1 : (cs.take (k * z)).length = k * z := by rw [List.length_take]; omega
        have u1 : (cs.take (k * z)).take (n * z) = cs.take (k * z) := List.take_of_length_le (by rw [t1]; omega)
        have u2 : (enc x).take (n * z - k * z) = enc x := List.take_of_length_le (by rw [hxl]; omega)
        rw [List.append_assoc, hxl, ← hs, List.take_append, t1, u1, List.take_append, u2, hxl, show n * z - k * z - z = n * z - (k + 1) * z by omega]
end
end Op
end Go.CM

/-
  What a call gives back, given up and read by value.
-/
namespace Go.CM
open Go Go.Proofs
set_option linter.unusedVariables false
set_option linter.unusedSimpArgs false
set_option maxRecDepth 100000
theorem callS_wk {P : Program} {G : Nat → CV} {f : FuncId} {args : List CV} {h h' h2 : Hp} {r r2 : CV} (hc : CallS P G f args h r h') (wk : Wk h' h2) (hv : RdK h' h2 r r2) : CallS P G f args h r2 h2 := by
  intro R B w μ vs rel g hl hvs
  refine (hc R B w μ vs rel g hl hvs).mono ?_
  rintro e w' ⟨v, μ', rfl, e1, r1, hv1⟩
  exact ⟨v, μ', rfl, e1.trans (wk.ext w' μ'), wk.rel r1, wk.vr r1 hv hv1⟩
theorem callP_wk {P : Program} {G : Nat → CV} (hmix : P.follows .mixedOrders = true) (hG : ∀ g, (G g).closed = true) {f : FuncId} {args : List CV} {l : Hl} {K : CV → Hl → Prop}
    (h : CallP P G f args l (c := ⟨fun r l' => ∃ r2 l2, Wk (HL l') (HL l2) ∧ RdK (HL l') (HL l2) r r2 ∧ l.length ≤ l2.length ∧ K r2 l2⟩)) : CallP P G f args l (c := ⟨K⟩) := by
  obtain ⟨r, l', hev, hle, r2, l2, wk, hv, hl2, hk⟩ := h
  exact ⟨r2, l2, .ext (callS_wk (sound hmix hG hev) wk hv), hl2, hk⟩
theorem own_wk {z : Nat} {l : Hl} {v : CV} {j : Nat} {es : List (List CV)} (h : OwnS z l v j es) (hv : isNilS v = false) : Wk (HL l) (HL (l.set j .dead)) ∧ RdK (HL l) (HL (l.set j .dead)) v (.rsl z es) := by
  cases h with
  | nil j => cases hv
  | sl j n cap sz cs es hb hl hn hz hc hcap hcs =>
  have hlt := get_lt hb
  have hd : (HL (l.set j .dead)).f j = .dead := by rw [HL_f, List.getElem?_set, if_pos rfl, if_pos hlt]
  have hle : n * z ≤ cap * z := Nat.mul_le_mul_right _ hc
  refine ⟨⟨by simp, fun b' => ?_⟩, .sl z j 0 n cap sz cs es (HL_cells.2 hb) hd hn hz (by omega) (fun i k e c c' he hk hc1 => ?_)⟩
  · by_cases hbb : b' = j
    · subst hbb; exact .inr ⟨sz, cs, HL_cells.2 hb, .inl hd⟩
    · left
      rw [HL_f, HL_f, List.getElem?_set, if_neg (by omega)]
  · have hkz : k < z := by rw [← hz e (List.mem_of_getElem? he)]; exact (List.getElem?_eq_some_iff.1 hk).1
    have hi := (List.getElem?_eq_some_iff.1 he).1
    have hm : i * z + z ≤ n * z := by rw [← Nat.succ_mul]; exact Nat.mul_le_mul_right _ (by omega)
    have h1 := flat_get hz he hkz
    rw [← hcs, List.getElem?_take_of_lt (by omega), hk] at h1
    rw [Nat.zero_add, h1] at hc1
    cases hc1
    exact .same _
end Go.CM

/-
  Buffers of sleepers: the examples of the chapter, carried out (printed by program).
-/
namespace Go.CM
open Go Go.Proofs
set_option linter.unusedVariables false
set_option maxRecDepth 1000000
set_option maxHeartbeats 8000000
abbrev kaliveA0 : List CV := [.ag ([ji (2)] ++ [.rsl 45 [[ji (3)] ++ [.int .u32 (1024)] ++ [.rsl 32 [jb [1, 0, 0, 0, 0, 0, 0, 0, 0, 0, 0, 0, 0, 0, 0, 0, 0, 0, 0, 0, 0, 0, 0, 0, 0, 0, 0, 0, 0, 0, 0, 0], jb [2, 0, 0, 0, 0, 0, 0, 0, 0, 0, 0, 0, 0, 0, 0, 0, 0, 0, 0, 0, 0, 0, 0, 0, 0, 0, 0, 0, 0, 0, 0, 0]]] ++ [.int .u64 (0)] ++ [.int .u8 2] ++ [.str [97]] ++ [.int .u8 0] ++ [ji (0)] ++ [.int .u64 (0)] ++ [.str []] ++ [.int .u32 (192820109)] ++ [.int .u32 (137395584)] ++ jb [98, 195, 47, 252, 181, 18, 255, 181, 88, 126, 145, 198, 98, 104, 127, 146, 82, 253, 244, 154, 92, 167, 129, 172, 180, 41, 142, 222, 56, 247, 172, 11] ++ [.rsl 32 [jb [1, 0, 0, 0, 0, 0, 0, 0, 0, 0, 0, 0, 0, 0, 0, 0, 0, 0, 0, 0, 0, 0, 0, 0, 0, 0, 0, 0, 0, 0, 0, 0], jb [2, 0, 0, 0, 0, 0, 0, 0, 0, 0, 0, 0, 0, 0, 0, 0, 0, 0, 0, 0, 0, 0, 0, 0, 0, 0, 0, 0, 0, 0, 0, 0]]]]])] ++ [ji (2)] ++ [.ag ([.int .u32 (1024)] ++ [.rsl 32 [jb [1, 0, 0, 0, 0, 0, 0, 0, 0, 0, 0, 0, 0, 0, 0, 0, 0, 0, 0, 0, 0, 0, 0, 0, 0, 0, 0, 0, 0, 0, 0, 0], jb [2, 0, 0, 0, 0, 0, 0, 0, 0, 0, 0, 0, 0, 0, 0, 0, 0, 0, 0, 0, 0, 0, 0, 0, 0, 0, 0, 0, 0, 0, 0, 0]]] ++ [.int .u64 (0)] ++ [.int .u8 2] ++ [.str [98]] ++ [.int .u8 0] ++ [ji (0)] ++ [.int .u64 (0)] ++ [.str []] ++ [.int .u32 (329141704)] ++ [.int .u32 (379372429)])] ++ [.rsl 32 [jb [1, 0, 0, 0, 0, 0, 0, 0, 0, 0, 0, 0, 0, 0, 0, 0, 0, 0, 0, 0, 0, 0, 0, 0, 0, 0, 0, 0, 0, 0, 0, 0], jb [2, 0, 0, 0, 0, 0, 0, 0, 0, 0, 0, 0, 0, 0, 0, 0, 0, 0, 0, 0, 0, 0, 0, 0, 0, 0, 0, 0, 0, 0, 0, 0]]]
abbrev kaliveR0 : CV := .tu ([.ag ([ji (0)] ++ [.nilS])] ++ [ji (32)])
theorem kalive0 : PureN Tryz.prog GS 22 kaliveA0 kaliveR0 :=
  pureN_runs (P := Tryz.prog) Tryz.checked.mixed GS_closed (orcOf_ok (AllO.mem (allO_cons sumO_ok (allO_cons powO_ok (allO_nil))))) tbl_ok (orc := orcOf [sumO, powO]) (fuel := 100000) (k := 60) (by kernel_rfl)
theorem kalive_run : CallP Tryz.prog GS 8 [] [] (c := ⟨fun r _ => r = .bool true⟩) :=
  callP_of_runs (orcOf_ok (AllO.mem (allO_cons sumO_ok (allO_cons powO_ok (allO_cons refOfO_ok (allO_cons (pickO_ok (allK_cons kalive0 (allK_nil))) (allO_nil))))))) tbl_ok (orc := orcOf [sumO, powO, refOfO, (22, true, pickA [(kaliveA0, kaliveR0)])]) (fuel := 100000) (k := 60) (by kernel_rfl)
theorem alive_ok : PureC Tryz.prog GS 8 [] (.bool true) :=
  pure_of Tryz.checked.mixed GS_closed (by
    obtain ⟨r, l, h1, h2, h3⟩ := kalive_run
    exact ⟨r, l, h1, h2, rd_eq h3 rfl⟩)
end Go.CM

/-
  Buffers of sleepers: ids looked up, what may be missing, sleepers; walked in both texts.
-/
namespace Go.CM
open Go Go.Proofs
set_option linter.unusedVariables false
set_option linter.unusedSimpArgs false
set_option maxRecDepth 100000
namespace Op
open Sha
def ixOf {α : Type} [DecidableEq α] (x : α) : List α → Nat → Int
  | [], _ => -1
  | y :: r, k => if y = x then (k : Int) else ixOf x r (k + 1)
theorem ixOf_neg {α : Type} [DecidableEq α] (x : α) : ∀ (l : List α) (k : Nat), (0 ≤ ixOf x l k) ↔ x ∈ l
  | [], k => by simp [ixOf]
  | y :: r, k => by
    unfold ixOf
    by_cases h : y = x
    · simp [h]
    · rw [if_neg h, ixOf_neg x r (k + 1)]
      simp [Ne.symm h]
theorem ixOf_at {α : Type} [DecidableEq α] {x : α} : ∀ {l : List α} {k n : Nat} {y : α}, l[k]? = some y → (∀ (j : Nat) (z : α), j < k → l[j]? = some z → z ≠ x) → y = x → ixOf x l n = ((n + k : Nat) : Int)
  | [], k, n, y, h, _, _ => by simp at h
  | w :: r, 0, n, y, h, _, hy => by
    simp at h; subst h
    unfold ixOf
    rw [if_pos hy]; simp
  | w :: r, k + 1, n, y, h, hl, hy => by
    unfold ixOf
    rw [if_neg (hl 0 w (by omega) (by simp)), ixOf_at (k := k) (n := n + 1) (by simpa using h) (fun j z hj hz => hl (j + 1) z (by omega) (by simpa using hz)) hy]
    congr 1; omega
theorem ixOf_no {α : Type} [DecidableEq α] {x : α} : ∀ {l : List α} {n : Nat}, (∀ (j : Nat) (z : α), l[j]? = some z → z ≠ x) → ixOf x l n = -1
  | [], n, _ => rfl
  | w :: r, n, hl => by
    unfold ixOf
    rw [if_neg (hl 0 w (by simp)), ixOf_no fun j z hz => hl (j + 1) z (by simpa using hz)]
theorem wIndexI_ok (s : Ids) (ho : okIds s) (hl : s.l.length ≤ 1000000) (x : List B) (hx : x.length = 32) : PureC Tryz.prog GS 92 [encIds s, .ag (eId x)] (.int .i64 (ixOf x s.l 0)) := by
  refine pure_of Tryz.checked.mixed GS_closed ?_
  apply call_intro c92_eq r92_eq
  unfold c92 r92
  simp [encIds]
  refine loop_up s.l.length (fun k σ l => l = [.cells 32 (eId x)] ∧ σ 0 = encS 32 eId s ∧ σ 3 = .ptr 0 0 32 ∧ σ 7 = .int .i64 s.l.length ∧ σ 8 = .int .i64 k ∧ ∀ (j : Nat) (z : List B), j < k → s.l[j]? = some z → z ≠ x) ?_ (by simp [encIds, eId_len hx])
  rintro k σ l hk ⟨rfl, g0, g3, g7, g8, hs⟩
  obtain ⟨σ, rfl⟩ := upds4 g0 g3 g7 g8
  clear g0 g3 g7 g8
  unfold l92_0
  simp
  refine kIf_intro (fun h => ?_) (fun h => ?_)
  · simp only [decide_eq_true_eq] at h
    obtain ⟨y, hy, hym⟩ := get_of (l := s.l) (k := k) (by omega)
    have e1 : IntKind.i64.wrap ((k : Int) + 1) = ((k + 1 : Nat) : Int) := by rw [IntKind.wrap_i64]; omega
    simp [hy, eId_len (ho y hym), eId_len hx, List.take_of_length_le, idEql hx (ho y hym)]
    by_cases he : x = y
    · have hix := ixOf_at (n := 0) hy hs he.symm
      simp [he]
      exact rd_eq (by rw [← he, hix]; simp) rfl
    · simp [he, e1]
      refine ⟨by omega, fun j z hj hz => ?_⟩
      by_cases hjk : j = k
      · subst hjk; rw [hy] at hz; obtain rfl := Option.some.inj hz; exact fun h => he h.symm
      · exact hs j z (by omega) hz
  · simp [h]
    have hk2 : k = s.l.length := by simp at h; omega
    exact rd_eq (by rw [ixOf_no fun j z hz => hs j z (by rw [hk2]; exact (List.getElem?_eq_some_iff.1 hz).1) hz]) rfl
theorem wInI_ok (s : Ids) (ho : okIds s) (hl : s.l.length ≤ 1000000) (x : List B) (hx : x.length = 32) : PureC Tryz.prog GS 61 [encIds s, .ag (eId x)] (.bool (decide (x ∈ s.l))) := by
  refine pure_of Tryz.checked.mixed GS_closed ?_
  apply call_intro c61_eq r61_eq
  unfold c61 r61
  simp [eId_len hx, List.take_of_length_le]
  refine pure_call (wIndexI_ok s ho hl x hx) (by have := closed_ids s; have := closed_eId x; simp_all [closedL, CV.closed]) ?_
  simp
  exact rd_eq (congrArg CV.bool (by simp only [ixOf_neg])) rfl
theorem rIn_ok (s : Ids) (ho : okIds s) (hl : s.l.length ≤ 1000000) (x : List B) (hx : x.length = 32) : PureC Tryz.prog GS 13 [encIds s, .ag (eId x)] (.bool (decide (x ∈ s.l))) := by
  refine pure_of Tryz.checked.mixed GS_closed ?_
  apply call_intro c13_eq r13_eq
  unfold c13 r13
  simp [encIds]
  refine loop_up s.l.length (fun k σ l => l = [.cells 32 (eId x)] ∧ σ 0 = encS 32 eId s ∧ σ 3 = .ptr 0 0 32 ∧ σ 5 = .int .i64 k ∧ ∀ (j : Nat) (z : List B), j < k → s.l[j]? = some z → z ≠ x) ?_ (by simp [encIds, eId_len hx])
  rintro k σ l hk ⟨rfl, g0, g3, g5, hs⟩
  obtain ⟨σ, rfl⟩ := upds3 g0 g3 g5
  clear g0 g3 g5
  unfold l13_0
  simp
  refine kIf_intro (fun h => ?_) (fun h => ?_)
  · simp only [decide_eq_true_eq] at h
    obtain ⟨y, hy, hym⟩ := get_of (l := s.l) (k := k) (by omega)
    have e1 : IntKind.i64.wrap ((k : Int) + 1) = ((k + 1 : Nat) : Int) := by rw [IntKind.wrap_i64]; omega
    simp [hy, eId_len (ho y hym), eId_len hx, List.take_of_length_le, idEql (ho y hym) hx]
    by_cases he : y = x
    · simp [he]
      exact rd_eq (congrArg CV.bool (decide_eq_true (by rw [← he]; exact hym)).symm) rfl
    · simp [he, e1]
      refine ⟨by omega, fun j z hj hz => ?_⟩
      by_cases hjk : j = k
      · subst hjk; rw [hy] at hz; obtain rfl := Option.some.inj hz; exact he
      · exact hs j z (by omega) hz
  · simp [h]
    have hk2 : k = s.l.length := by simp at h; omega
    refine rd_eq (congrArg CV.bool (decide_eq_false fun hm => ?_).symm) rfl
    obtain ⟨j, hj⟩ := List.mem_iff_getElem?.1 hm
    exact hs j x (by rw [hk2]; exact (List.getElem?_eq_some_iff.1 hj).1) hj rfl
def longO (o : Opr) : Bool := decide (40 < o.preds.l.length) || (decide (100 < o.act.key.length) || decide (100 < o.act.val.text.length))
theorem rLong_ok (o : Opr) : PureC Tryz.prog GS 18 [.ag (encOp o)] (.bool (longO o)) := by
  refine pure_of Tryz.checked.mixed GS_closed ?_
  apply call_intro c18_eq r18_eq
  unfold c18 r18 longO
  have hlen : lenM (.sl 32) (encIds o.preds) = some (.int .i64 o.preds.l.length) := by simp [encIds]
  by_cases h1 : 40 < o.preds.l.length
  · have h1' : (40 : Int) < (o.preds.l.length : Int) := by omega
    simp [encOp, hlen, h1, h1']
    exact rd_eq (by simp [h1]) rfl
  · have h1' : ¬ (40 : Int) < (o.preds.l.length : Int) := by omega
    by_cases h2 : 100 < o.act.key.length
    · have h2' : (100 : Int) < (o.act.key.length : Int) := by omega
      simp [encOp, hlen, h1, h1', h2, h2']
      exact rd_eq (by simp [h1, h2]) rfl
    · have h2' : ¬ (100 : Int) < (o.act.key.length : Int) := by omega
      have h3' : ((100 : Int) < (o.act.val.text.length : Int)) ↔ 100 < o.act.val.text.length := by omega
      simp [encOp, hlen, h1, h1', h2, h2', h3']
      exact rd_eq (by simp [h1, h2]) rfl
theorem pCmp_ok (a b : List B) (ha : a.length = 32) (hb : b.length = 32) : PureC Tryz.prog GS 40 [.ag (eId a), .ag (eId b)] (.int .i64 (cmpB a b)) := by
  refine pure_of Tryz.checked.mixed GS_closed ?_
  apply call_intro c40_eq r40_eq
  unfold c40 r40
  have hs := slice_arr_all (n := 32) (b := 1) (by omega)
  have hs0 := slice_arr_all (n := 32) (b := 0) (by omega)
  simp [eId, ha, hb, hs, hs0]
  have hc := bCompare_ok (some a) (some b) (by simp [ha, hb])
  refine pure_callB hc ?_ rfl ?_
  · exact .cons ((own_arr (j := 0) ha rfl).rdH_enc (fun _ => rfl) (some a) rfl rfl) (.cons ((own_arr (j := 1) hb rfl).rdH_enc (fun _ => rfl) (some b) rfl rfl) .nil)
  · simp
    exact rd_eq rfl rfl
def missB (o : Opr) (m : List (List B)) : Bool := decide (0 < m.length) && (ris m && m.all fun x => decide (x ∈ o.preds.l))
theorem ris_step {l : List (List B)} (h : ris l = true) {k : Nat} (hk : k + 1 < l.length) : cmpB (idAt l k) (idAt l (k + 1)) < 0 := (of_decide_eq_true h) (k + 1) hk (by omega)
structure MisI (o : Opr) (m : Ids) (k : Nat) (σ : Sg) (l : Hl) : Prop where
  hl : ∃ r, l = .cells 11 (encOp o) :: r
  g1 : σ 1 = encIds m
  g2 : σ 2 = .ptr 0 0 11
  g7 : σ 7 = encIds m
  g8 : σ 8 = .int .i64 m.l.length
  g9 : σ 9 = .int .i64 k
  hs : ∀ j, j < k → (1 ≤ j → cmpB (idAt m.l (j - 1)) (idAt m.l j) < 0) ∧ idAt m.l j ∈ o.preds.l
theorem wMiss_ok (o : Opr) (ho : OkOp o) (m : Ids) (hm : okIds m) (hl : m.l.length ≤ 1000000) : PureC Tryz.prog GS 44 [.ag (encOp o), encIds m] (.bool (missB o m.l)) := by
  refine pure_of Tryz.checked.mixed GS_closed ?_
  apply call_intro c44_eq r44_eq
  unfold c44 r44
  have hlen : lenM (.sl 32) (encIds m) = some (.int .i64 m.l.length) := by simp [encIds]
  have hcp := closed_ids o.preds
  simp [hlen]
  refine loop_up m.l.length (MisI o m) ?_ ⟨⟨_, rfl⟩, by simp, by simp [encOp], by simp, by simp, by simp, fun j h => by omega⟩
  rintro k σ l hk ⟨⟨r, rfl⟩, g1, g2, g7, g8, g9, hs⟩
  obtain ⟨σ, rfl⟩ := upds5 g1 g2 g7 g8 g9
  clear g1 g2 g7 g8 g9
  unfold l44_0
  simp
  refine kIf_intro (fun h => ?_) (fun h => ?_)
  · simp only [decide_eq_true_eq] at h
    obtain ⟨y, hy, hym⟩ := get_of (l := m.l) (k := k) (by omega)
    have hyl := eId_len (hm y hym)
    have e1 : IntKind.i64.wrap ((k : Int) + 1) = ((k + 1 : Nat) : Int) := by rw [IntKind.wrap_i64]; omega
    have hia : iaC (.sl 32) (encIds m) (.int .i64 (k : Int)) = some (.rptr (eId y) 0) := by simp [encIds, hy]
    have hsp : splice (rep 32 (.int .u8 0)) 0 (eId y) = eId y := splice_full (by rw [hyl]; rfl)
    have hin := wInI_ok o.preds ho.ids ho.len y (hm y hym)
    have hcy := closed_eId y
    have hat : idAt m.l k = y := idAt_get hy
    have hbad : ∀ (j : Nat), j < m.l.length → ¬ ((1 ≤ j → cmpB (idAt m.l (j - 1)) (idAt m.l j) < 0) ∧ idAt m.l j ∈ o.preds.l) → missB o m.l = false := fun j hj hn => by
      unfold missB
      cases h1 : ris m.l with
      | false => simp
      | true =>
        cases h2 : (m.l.all fun x => decide (x ∈ o.preds.l)) with
        | false => simp
        | true =>
          exact absurd ⟨fun h => (of_decide_eq_true h1) j hj h, of_decide_eq_true (List.all_eq_true.1 h2 _ (idAt_mem hj))⟩ hn
    obtain ⟨Y, hY⟩ : ∃ Y, Y = eId y := ⟨_, rfl⟩
    rw [← hY] at hyl hia hsp hin hcy
    have hnext : y ∈ o.preds.l → (1 ≤ k → cmpB (idAt m.l (k - 1)) y < 0) → ∀ j, j < k + 1 → (1 ≤ j → cmpB (idAt m.l (j - 1)) (idAt m.l j) < 0) ∧ idAt m.l j ∈ o.preds.l := fun h1 h2 j hj => by
      by_cases hjk : j = k
      · subst hjk; rw [hat]; exact ⟨h2, h1⟩
      · exact hs j (by omega)
    rcases k with _ | k
    · simp at hia
      simp [encOp, hia, hyl, hsp, List.take_of_length_le]
      refine pure_call hin (by simp [closedL, CV.closed, hcp, hcy]) ?_
      by_cases hmem : y ∈ o.preds.l
      · simp [hmem]
        exact ⟨by omega, ⟨_, rfl⟩, by simp, by simp, by simp, by simp, by simp; rw [IntKind.wrap_i64]; omega, hnext hmem (fun h => by omega)⟩
      · have := hbad 0 (by omega) (fun h => hmem (by rw [← hat]; exact h.2))
        simp [hmem]
        exact rd_eq (by rw [this]) rfl
    · obtain ⟨z, hz, hzm⟩ := get_of (l := m.l) (k := k) (by omega)
      have hzl := eId_len (hm z hzm)
      have hzc := closed_eId z
      have hatz : idAt m.l k = z := idAt_get hz
      have e3 : IntKind.i64.wrap (k : Int) = (k : Int) := by rw [IntKind.wrap_i64]; omega
      have hpos : (0 : Int) < (k : Int) + 1 := by omega
      have hiz : iaC (.sl 32) (encIds m) (.int .i64 (k : Int)) = some (.rptr (eId z) 0) := by simp [encIds, hz]
      have hcm := pCmp_ok z y (hm z hzm) (hm y hym)
      obtain ⟨Z, hZ⟩ : ∃ Z, Z = eId z := ⟨_, rfl⟩
      rw [← hZ] at hiz hzl hzc hcm
      rw [← hY] at hcm
      simp at hia
      simp [hpos, hia, hiz, e3, hyl, hzl, hsp, List.take_of_length_le]
      refine pure_call hcm (by simp [closedL, CV.closed, hzc, hcy]) ?_
      by_cases hlt : cmpB z y < 0
      · have hlt' : ¬ (0 : Int) ≤ cmpB z y := by omega
        simp [hlt', encOp, hyl, List.take_of_length_le]
        refine pure_call hin (by simp [closedL, CV.closed, hcp, hcy]) ?_
        by_cases hmem : y ∈ o.preds.l
        · simp [hmem]
          exact ⟨by omega, ⟨_, rfl⟩, by simp, by simp, by simp, by simp, by simp; rw [IntKind.wrap_i64]; omega, hnext hmem (fun h => by rw [Nat.add_sub_cancel, hatz]; exact hlt)⟩
        · have := hbad (k + 1) (by omega) (fun h => hmem (by rw [← hat]; exact h.2))
          simp [hmem]
          exact rd_eq (by rw [this]) rfl
      · have hlt' : (0 : Int) ≤ cmpB z y := by omega
        have := hbad (k + 1) (by omega) (fun h => hlt (by have := h.1 (by omega); rw [hat, Nat.add_sub_cancel, hatz] at this; exact this))
        simp [hlt']
        exact rd_eq (by rw [this]) rfl
  · simp [h, hlen]
    have hk2 : k = m.l.length := by simp at h; omega
    refine rd_eq (congrArg CV.bool ?_) rfl
    have h1 : ris m.l = true := ris_true fun j hj h1 => (hs j (by omega)).1 h1
    have h2 : (m.l.all fun x => decide (x ∈ o.preds.l)) = true := List.all_eq_true.2 fun x hx => by
      obtain ⟨j, hj⟩ := List.mem_iff_getElem?.1 hx
      have := (hs j (by rw [hk2]; exact (List.getElem?_eq_some_iff.1 hj).1)).2
      rw [idAt_get hj] at this
      exact decide_eq_true this
    unfold missB
    rw [h1, h2]; simp
end Op
end Go.CM

/-
  Ids of one's own struck by a condition: slices.IndexFunc and slices.DeleteFunc, walked.
-/
namespace Go.CM
open Go Go.Proofs
set_option linter.unusedVariables false
set_option linter.unusedSimpArgs false
set_option maxRecDepth 100000
namespace Op
open Sha
structure Gx (j : Nat) (l l' : Hl) : Prop where
  le : l.length ≤ l'.length
  same : ∀ b, b < l.length → b ≠ j → l'[b]? = l[b]?
theorem Gx.refl (j : Nat) (l : Hl) : Gx j l l := ⟨Nat.le_refl _, fun _ _ _ => rfl⟩
theorem Gx.trans {j : Nat} {a b c : Hl} (h1 : Gx j a b) (h2 : Gx j b c) : Gx j a c := ⟨by have := h1.le; have := h2.le; omega, fun x hx hj => by rw [h2.same x (by have := h1.le; omega) hj]; exact h1.same x hx hj⟩
def CondP (g : FuncId) (cap : List CV) (j : Nat) (l0 : Hl) (xs : List (List B)) (p : List B → Bool) : Prop :=
  ∀ x ∈ xs, ∀ l, Gx j l0 l → ∀ K : CV → Hl → Prop, (∀ l', l.length ≤ l'.length → (∀ b, b < l.length → l'[b]? = l[b]?) → K (.bool (p x)) l') → CallP Tryz.prog GS g ([] ++ [.ag (eId x)] ++ cap) l (c := ⟨K⟩)
structure IxI (l0 : Hl) (v : CV) (g : FuncId) (cap : List CV) (xs : List (List B)) (p : List B → Bool) (k : Nat) (σ : Sg) (l : Hl) : Prop where
  g0 : σ 0 = v
  g1 : σ 1 = .fn g [] cap
  g7 : σ 7 = .int .i64 xs.length
  g8 : σ 8 = .int .i64 k
  hs : ∀ (j : Nat) (z : List B), j < k → xs[j]? = some z → p z = false
  le : l0.length ≤ l.length
  same : ∀ b, b < l0.length → l[b]? = l0[b]?
theorem indexI_own {g : FuncId} {cap : List CV} {j : Nat} {l : Hl} {v : CV} {xs : List (List B)} {p : List B → Bool} (hg : funOkB Tryz.prog g = true) (ho : OwnS 32 l v j (xs.map eId)) (hz : (∀ x ∈ xs, x.length = 32)) (hn : xs.length ≤ 1000000) (hp : CondP g cap j l xs p)
    {K : CV → Hl → Prop} (hK : ∀ n l', (n = -1 ∧ (∀ z ∈ xs, p z = false) ∨ ∃ k : Nat, n = (k : Int) ∧ k < xs.length ∧ (∀ (i : Nat) (z : List B), i < k → xs[i]? = some z → p z = false) ∧ ∀ y, xs[k]? = some y → p y = true) → l.length ≤ l'.length → (∀ b, b < l.length → l'[b]? = l[b]?) → K (.int .i64 n) l') :
    CallP Tryz.prog GS 53 [v, .fn g [] cap] l (c := ⟨K⟩) := by
  apply call_intro c53_eq r53_eq
  unfold c53 r53
  have hlen := ho.len
  rw [List.length_map] at hlen
  simp [hlen]
  refine loop_up xs.length (IxI l v g cap xs p) ?_ ⟨by simp, by simp, by simp, by simp, fun j z h => by omega, Nat.le_refl _, fun _ _ => rfl⟩
  rintro k σ l1 hk ⟨g0, g1, g7, g8, hs, hle, hsm⟩
  obtain ⟨σ, rfl⟩ := upds4 g0 g1 g7 g8
  clear g0 g1 g7 g8
  unfold l53_0
  simp
  refine kIf_intro (fun h => ?_) (fun h => ?_)
  · simp only [decide_eq_true_eq] at h
    obtain ⟨y, hy, hym⟩ := get_of (l := xs) (k := k) (by omega)
    have e1 : IntKind.i64.wrap ((k : Int) + 1) = ((k + 1 : Nat) : Int) := by rw [IntKind.wrap_i64]; omega
    have ho1 : OwnS 32 l1 v j (xs.map eId) := ho.frame fun hj => hsm j hj
    obtain ⟨q, cs, o, a1, a2, a3, a4⟩ := ho1.q.get (k := .i64) (i := k) (e := eId y) (by rw [List.getElem?_map, hy]; rfl)
    simp [a1, a2, a3, a4]
    refine ⟨hg, ?_⟩
    have := hp y hym l1 ⟨hle, fun b hb _ => hsm b hb⟩
    simp at this
    refine this _ fun l2 h1 h2 => ?_
    cases h5 : p y with
    | true =>
      simp
      refine hK _ _ (.inr ⟨k, rfl, h, fun i z hi hz => hs i z hi hz, fun w hw => ?_⟩) (by omega) (fun b hb => by rw [h2 b (by omega)]; exact hsm b hb)
      rw [hy] at hw; obtain rfl := Option.some.inj hw; exact h5
    | false =>
      simp [e1]
      refine ⟨by omega, by simp, by simp, by simp, by simp, fun i z hi hz => ?_, by omega, fun b hb => by rw [h2 b (by omega)]; exact hsm b hb⟩
      by_cases hik : i = k
      · rw [hik, hy] at hz; obtain rfl := Option.some.inj hz; exact h5
      · exact hs i z (by omega) hz
  · simp [h]
    have hk2 : k = xs.length := by simp at h; omega
    refine hK _ _ (.inl ⟨rfl, fun z hz => ?_⟩) hle hsm
    obtain ⟨i, hi⟩ := List.mem_iff_getElem?.1 hz
    exact hs i z (by rw [hk2]; exact (List.getElem?_eq_some_iff.1 hi).1) hi
structure DelI (l0 : Hl) (v : CV) (g : FuncId) (cap : List CV) (j : Nat) (xs : List (List B)) (p : List B → Bool) (k : Nat) (σ : Sg) (l : Hl) : Prop where
  g0 : σ 0 = v
  g1 : σ 1 = .fn g [] cap
  g6 : σ 6 = .int .i64 k
  gx : Gx j l0 l
  ex : ∃ (q : Nat) (ys : List (List B)), σ 5 = .int .i64 (q : Int) ∧ OwnS 32 l v j (ys.map eId) ∧ ys.length = xs.length ∧ (∀ x ∈ ys, x.length = 32) ∧ ys.take q = (xs.take k).filter (fun t => !p t) ∧ q < k ∧ ∀ t, k ≤ t → ys[t]? = xs[t]?
theorem filter_all {p : List B → Bool} {l : List (List B)} (h : ∀ z ∈ l, p z = false) : l.filter (fun t => !p t) = l := by
  rw [List.filter_eq_self]
  intro a ha; rw [h a ha]; rfl
theorem filter_take {p : List B → Bool} {l : List (List B)} {k : Nat} (h : ∀ (i : Nat) (z : List B), i < k → l[i]? = some z → p z = false) : (l.take k).filter (fun t => !p t) = l.take k := by
  refine filter_all fun z hz => ?_
  obtain ⟨i, hi⟩ := List.mem_iff_getElem?.1 hz
  have hil := (List.getElem?_eq_some_iff.1 hi).1
  rw [List.length_take] at hil
  rw [List.getElem?_take_of_lt (by omega)] at hi
  exact h i z (by omega) hi
theorem filter_step {p : List B → Bool} {l : List (List B)} {k : Nat} {y : List B} (h : l[k]? = some y) : (l.take (k + 1)).filter (fun t => !p t) = (l.take k).filter (fun t => !p t) ++ (if p y then [] else [y]) := by
  rw [List.take_add_one, h, List.filter_append]
  cases hp : p y <;> simp [hp]
set_option maxHeartbeats 1000000 in
theorem deleteI_own {g : FuncId} {cap : List CV} {j : Nat} {l : Hl} {v : CV} {xs : List (List B)} {p : List B → Bool} (hg : funOkB Tryz.prog g = true) (ho : OwnS 32 l v j (xs.map eId)) (hz : (∀ x ∈ xs, x.length = 32)) (hn : xs.length ≤ 1000000) (hp : CondP g cap j l xs p)
    {K : CV → Hl → Prop} (hK : ∀ r l', OwnS 32 l' r j ((xs.filter fun t => !p t).map eId) → Gx j l l' → isNilS r = isNilS v → K r l') :
    CallP Tryz.prog GS 36 [v, .fn g [] cap] l (c := ⟨K⟩) := by
  apply call_intro c36_eq r36_eq
  unfold c36 r36
  have hlen := ho.len
  rw [List.length_map] at hlen
  simp
  refine indexI_own hg ho hz hn hp fun n l1 hcase hle hsm => ?_
  rcases hcase with ⟨rfl, hall⟩ | ⟨k0, rfl, hk0, hlo, hat⟩
  · simp
    refine hK _ _ ?_ ⟨hle, fun b hb _ => hsm b hb⟩ rfl
    rw [filter_all hall]
    exact ho.frame fun hj => hsm j hj
  · have hne : ¬ ((k0 : Int) = -1) := by omega
    have e1 : IntKind.i64.wrap ((k0 : Int) + 1) = ((k0 + 1 : Nat) : Int) := by rw [IntKind.wrap_i64]; omega
    have ho1 : OwnS 32 l1 v j (xs.map eId) := ho.frame fun hj => hsm j hj
    have hv : isNilS v = false := by
      cases hnv : isNilS v with
      | false => rfl
      | true =>
        have := isNil_iff.1 hnv
        subst this
        have := ho.q.nil_of
        rw [List.map_eq_nil_iff] at this
        rw [this] at hk0; simp at hk0
    simp [hne, e1]
    refine loop_up (xs.length - (k0 + 1)) (fun m => DelI l v g cap j xs p (k0 + 1 + m)) ?_ ⟨by simp, by simp, by simp, ⟨hle, fun b hb _ => hsm b hb⟩, k0, xs, by simp, ho1, rfl, hz, ?_, by omega, fun _ _ => rfl⟩
    · rintro m σ l2 hm ⟨g0, g1, g6, hgx, q, ys, g5, hq, hyl, hyz, htk, hqk, hsame⟩
      obtain ⟨k, hk⟩ : ∃ k, k = k0 + 1 + m := ⟨_, rfl⟩
      rw [show k0 + 1 + (m + 1) = k + 1 by omega]
      rw [← hk] at g6 htk hqk hsame
      obtain ⟨σ, rfl⟩ := upds4 g0 g1 g5 g6
      clear g0 g1 g5 g6
      unfold l36_0
      have hlq := hq.len
      rw [List.length_map, hyl] at hlq
      by_cases hlt : k < xs.length
      · have hlt' : (k : Int) < (xs.length : Int) := by omega
        obtain ⟨y, hy, hym⟩ := get_of (l := xs) (k := k) hlt
        have hyid := hz y hym
        have hYl := eId_len hyid
        have hsp : splice (rep 32 (.int .u8 0)) 0 (eId y) = eId y := splice_full (by rw [hYl]; rfl)
        have e2 : IntKind.i64.wrap ((k : Int) + 1) = ((k + 1 : Nat) : Int) := by rw [IntKind.wrap_i64]; omega
        have e3 : IntKind.i64.wrap ((q : Int) + 1) = ((q + 1 : Nat) : Int) := by rw [IntKind.wrap_i64]; omega
        have hyk : ys[k]? = some y := by rw [hsame k (Nat.le_refl _)]; exact hy
        obtain ⟨pp, cs, o, a1, a2, a3, a4⟩ := hq.q.get (k := .i64) (i := k) (e := eId y) (by rw [List.getElem?_map, hyk]; rfl)
        have hgx3 : Gx j l (l2 ++ [CB.cells 32 (eId y)]) := ⟨by have := hgx.le; simp; omega, fun b hb hbj => by rw [List.getElem?_append_left (by have := hgx.le; omega)]; exact hgx.same b hb hbj⟩
        have hcall := hp y hym _ hgx3
        have hfs := filter_step (p := p) hy
        have hsetL := fun (l4 : Hl) (h : OwnS 32 l4 v j (ys.map eId)) => ow_set (X := .ag (eId y)) rfl h (fun t ht => eId_len (hyz t ht)) (k := q) (x := y) (by omega) hYl
        simp at hcall
        obtain ⟨Y, hY⟩ : ∃ Y, Y = eId y := ⟨_, rfl⟩
        rw [← hY] at hYl hsp a4 hcall hsetL
        simp [hlq, hlt', a1, a2, a3, a4, hYl, hsp, List.take_of_length_le]
        refine ⟨hg, ?_⟩
        refine hcall _ fun l4 h1 h2 => ?_
        have hl24 : l2.length < l4.length := by omega
        have hs24 : ∀ b, b < l2.length → l4[b]? = l2[b]? := fun b hb => by rw [h2 b (by omega), List.getElem?_append_left hb]
        have hq4 : OwnS 32 l4 v j (ys.map eId) := hq.frame fun hj => hs24 j hj
        have hat4 : l4[l2.length]? = some (.cells 32 Y) := by rw [h2 _ (by simp)]; simp
        have hgx4 : Gx j l l4 := ⟨by have := hgx.le; omega, fun b hb hbj => by rw [hs24 b (by have := hgx.le; omega)]; exact hgx.same b hb hbj⟩
        cases h5 : p y with
        | true =>
          rw [h5, if_pos rfl, List.append_nil] at hfs
          simp [e2]
          refine ⟨by omega, by simp, by simp, by simp, hgx4, q, ys, by simp, hq4, hyl, hyz, by rw [hfs]; exact htk, by omega, fun t ht => hsame t (by omega)⟩
        | false =>
          rw [h5, if_neg (by simp)] at hfs
          obtain ⟨p5, l5, z1, z2, z3, z4, z5⟩ := hsetL l4 hq4
          simp [hat4, hYl, z1, z2, e2, e3, List.take_of_length_le]
          refine ⟨by omega, by simp, by simp, by simp, ⟨by have := hgx4.le; omega, fun b hb hbj => by rw [z5 b hbj]; exact hgx4.same b hb hbj⟩, q + 1, ys.set q y, by simp, z3, by simp [hyl], fun t ht => ?_, ?_, by omega, fun t ht => ?_⟩
          · rcases List.mem_or_eq_of_mem_set ht with h | h
            · exact hyz _ h
            · rw [h]; exact hyid
          · have tl : (ys.take q).length = q := by rw [List.length_take]; omega
            rw [List.set_eq_take_append_cons_drop, if_pos (by omega), List.take_append, tl, List.take_of_length_le (by omega), show q + 1 - q = 1 by omega, hfs, ← htk]; simp
          · rw [List.getElem?_set_ne (by omega)]; exact hsame t (by omega)
      · have hlt' : ¬ (k : Int) < (xs.length : Int) := by omega
        have hkl : k = xs.length := by omega
        obtain ⟨v3, l3, r, z1, z2, z3, z4, z5, z6, z7⟩ := ow_cut (z := 32) (zr := rep 32 (.int .u8 0)) rfl hq (k := q) (by omega)
        simp [hlq, hlt', z1, z2, z3]
        rw [hkl, List.take_length] at htk
        rw [htk] at z4
        exact hK _ _ z4 ⟨by have := hgx.le; omega, fun b hb hbj => by rw [z7 b hbj]; exact hgx.same b hb hbj⟩ (by rw [z5, hv])
    · rw [List.take_add_one, List.filter_append, filter_take hlo]
      obtain ⟨y, hy, _⟩ := get_of (l := xs) (k := k0) hk0
      have := hat y hy
      rw [hy]; simp [this]
end Op
end Go.CM

/-
  Buffers of sleepers: where an id lies; the buffer checked; walked in the program's text.
-/
namespace Go.CM
open Go Go.Proofs
set_option linter.unusedVariables false
set_option linter.unusedSimpArgs false
set_option maxRecDepth 100000
namespace Op
open Sha
structure Slp where
  tk : Int
  op : Opr
  id : List B
  miss : Ids
def encSl (s : Slp) : List CV := .int .i64 s.tk :: (encOp s.op ++ (eId s.id ++ [encIds s.miss]))
abbrev Slps := Sv Slp
def encSls (s : Slps) : CV := encS 45 encSl s
structure OkSl (s : Slp) : Prop where
  op : OkOp s.op
  id : s.id.length = 32
  miss : okIds s.miss
  len : s.miss.l.length ≤ 1000000
def okSls (l : List Slp) : Prop := ∀ s ∈ l, OkSl s
theorem closedL_app : ∀ a b : List CV, closedL (a ++ b) = (closedL a && closedL b)
  | [], b => by simp [closedL]
  | x :: a, b => by
    rw [List.cons_append]
    simp only [closedL, closedL_app a b, Bool.and_assoc]
theorem closed_encSl (s : Slp) : closedL (encSl s) = true := by
  have h1 := closed_op s.op
  have h2 := closed_eId s.id
  have h3 := closed_ids s.miss
  unfold encSl
  simp only [closedL, CV.closed, Bool.true_and, closedL_app, h1, h2, h3, Bool.and_self]
theorem closed_Sls (s : Slps) : (encSls s).closed = true := closed_encS closed_encSl s
structure Row (s : Slp) (R : List CV) : Prop where
  len : R.length = 45
  tk : ∀ h : 0 < R.length, R[0]'h = .int .i64 s.tk
  op : R.tail.take 11 = encOp s.op
  id : (R.drop 12).take 32 = eId s.id
  miss : ∀ h : 44 < R.length, R[44]'h = encIds s.miss
  closed : closedL R = true
theorem row_of {s : Slp} (h : OkSl s) : Row s (encSl s) := by
  have hi := eId_len h.id
  have hl : (encSl s).length = 45 := by unfold encSl encOp; simp [hi]
  refine ⟨hl, fun _ => rfl, ?_, ?_, fun h2 => ?_, closed_encSl s⟩
  · unfold encSl encOp; simp
  · unfold encSl encOp
    simp [hi]
  · have : (encSl s)[44]? = some (encIds s.miss) := by
      unfold encSl encOp
      simp [hi, List.getElem?_append]
    exact (List.getElem?_eq_some_iff.1 this).2
theorem fn_at : funOkB Tryz.prog 63 = true := by kernel_rfl
theorem at1 (s : Slp) (hs : OkSl s) (x : List B) (hx : x.length = 32) (r : Hl) {K : CV → Hl → Prop} (hK : ∀ r', K (.bool (decide (s.id = x))) (.cells 32 (eId x) :: r')) :
    CallP Tryz.prog GS 63 [.ag (encSl s), .ptr 0 0 32] (.cells 32 (eId x) :: r) (c := ⟨K⟩) := by
  apply call_intro c63_eq r63_eq
  unfold c63 r63
  have hR := row_of hs
  have hxl := eId_len hx
  have heq := idEql hs.id hx
  obtain ⟨R, hRe⟩ : ∃ R, R = encSl s := ⟨_, rfl⟩
  obtain ⟨X, hX⟩ : ∃ X, X = eId x := ⟨_, rfl⟩
  rw [← hRe] at hR ⊢
  rw [← hX] at hxl heq hK ⊢
  have h1 := hR.len
  have h2 := hR.id
  have h3 := eId_len hs.id
  simp [h1, h2, h3, hxl, heq, List.take_of_length_le]
  have := hK (r ++ [CB.cells 45 R])
  simpa using this
structure AtI (s : Slps) (x : List B) (k : Nat) (σ : Sg) (l : Hl) : Prop where
  hl : ∃ r, l = .cells 32 (eId x) :: r
  g0 : σ 0 = encSls s
  g1 : σ 1 = .fn 63 [] [.ptr 0 0 32]
  g7 : σ 7 = .int .i64 s.l.length
  g8 : σ 8 = .int .i64 k
  hs : ∀ (j : Nat) (z : List B), j < k → (s.l.map Slp.id)[j]? = some z → z ≠ x
theorem at_ix (s : Slps) (hs : okSls s.l) (hl : s.l.length ≤ 1000000) (x : List B) (hx : x.length = 32) {r : Hl} {K : CV → Hl → Prop} (hK : ∀ r', K (.int .i64 (ixOf x (s.l.map Slp.id) 0)) r') :
    CallP Tryz.prog GS 62 [encSls s, .fn 63 [] [.ptr 0 0 32]] (.cells 32 (eId x) :: r) (c := ⟨K⟩) := by
  apply call_intro c62_eq r62_eq
  unfold c62 r62
  have hlen : lenM (.sl 45) (encSls s) = some (.int .i64 s.l.length) := by simp [encSls]
  simp [hlen]
  refine loop_up s.l.length (AtI s x) ?_ ⟨⟨_, rfl⟩, by simp, by simp, by simp, by simp, fun j z h => by omega⟩
  rintro k σ l hk ⟨⟨r, rfl⟩, g0, g1, g7, g8, hss⟩
  obtain ⟨σ, rfl⟩ := upds4 g0 g1 g7 g8
  clear g0 g1 g7 g8
  unfold l62_0
  simp
  refine kIf_intro (fun h => ?_) (fun h => ?_)
  · simp only [decide_eq_true_eq] at h
    obtain ⟨y, hy, hym⟩ := get_of (l := s.l) (k := k) (by omega)
    have hR := row_of (hs y hym)
    have e1 : IntKind.i64.wrap ((k : Int) + 1) = ((k + 1 : Nat) : Int) := by rw [IntKind.wrap_i64]; omega
    have hia : iaC (.sl 45) (encSls s) (.int .i64 (k : Int)) = some (.rptr (encSl y) 0) := by simp [encSls, hy]
    have hyk : (s.l.map Slp.id)[k]? = some y.id := by rw [List.getElem?_map, hy]; rfl
    simp [hia, hR.len, List.take_of_length_le]
    refine ⟨fn_at, at1 y (hs y hym) x hx r fun r' => ?_⟩
    by_cases he : y.id = x
    · simp [he]
      have := ixOf_at (n := 0) hyk hss he
      rw [Nat.zero_add] at this
      rw [← this]
      exact hK _
    · simp [he, e1]
      refine ⟨by omega, ⟨_, rfl⟩, by simp, by simp, by simp, by simp, fun j z hj hz => ?_⟩
      by_cases hjk : j = k
      · rw [hjk, hyk] at hz; obtain rfl := Option.some.inj hz; exact he
      · exact hss j z (by omega) hz
  · simp [h]
    have hk2 : k = s.l.length := by simp at h; omega
    have := ixOf_no (n := 0) (l := s.l.map Slp.id) (x := x) fun j z hz => hss j z (by rw [hk2]; have := (List.getElem?_eq_some_iff.1 hz).1; simpa using this) hz
    rw [← this]
    exact hK _
theorem pAt_ok (s : Slps) (hs : okSls s.l) (hl : s.l.length ≤ 1000000) (x : List B) (hx : x.length = 32) : PureC Tryz.prog GS 45 [encSls s, .ag (eId x)] (.int .i64 (ixOf x (s.l.map Slp.id) 0)) := by
  refine pure_of Tryz.checked.mixed GS_closed ?_
  apply call_intro c45_eq r45_eq
  unfold c45 r45
  simp [eId_len hx]
  refine at_ix s hs hl x hx fun r' => ?_
  simp
  exact rd_eq rfl rfl
end Op
end Go.CM

/-
  Buffers of sleepers: checked; walked in the program's text.
-/
namespace Go.CM
open Go Go.Proofs
set_option linter.unusedVariables false
set_option linter.unusedSimpArgs false
set_option maxRecDepth 100000
namespace Op
open Sha
def slAt (l : List Slp) (k : Nat) : Slp := l.getD k ⟨0, ⟨0#32, none, 0#64, ⟨0#8, [], zeroVal⟩, 0#32, 0#32⟩, [], none⟩
theorem slAt_get {l : List Slp} {k : Nat} {x : Slp} (h : l[k]? = some x) : slAt l k = x := by
  unfold slAt; rw [List.getD_eq_getElem?_getD, h]; rfl
def tkPrev (l : List Slp) (k : Nat) : Int := if k = 0 then -1 else (slAt l (k - 1)).tk
def goodSl (l : List Slp) (k : Nat) : Bool :=
  decide (opErr (slAt l k).op = 0) && (decide (idOf (slAt l k).op = (slAt l k).id) && (decide (tkPrev l k < (slAt l k).tk) && (decide ((slAt l k).tk ≤ 1000000000) && (missB (slAt l k).op (slAt l k).miss.l && decide ((slAt l k).id ∉ (l.take k).map Slp.id)))))
def goodSls (l : List Slp) : Bool := decide (∀ k, k < l.length → goodSl l k = true)
def penErr (c : Int) (l : List Slp) : Int := if c < 1 ∨ 8 < c ∨ c < l.length then 8 else if goodSls l then 0 else 8
theorem pen_ok {c : Int} {l : List Slp} (h : ¬ (c < 1 ∨ 8 < c ∨ c < l.length)) (h2 : ∀ k, k < l.length → goodSl l k = true) : penErr c l = 0 := by
  unfold penErr goodSls; rw [if_neg h, decide_eq_true h2]; rfl
theorem pen_bad {c : Int} {l : List Slp} (h : ¬ (c < 1 ∨ 8 < c ∨ c < l.length)) {k : Nat} (hk : k < l.length) (h2 : goodSl l k = false) : penErr c l = 8 := by
  unfold penErr goodSls; rw [if_neg h, decide_eq_false fun hh => by rw [hh k hk] at h2; cases h2]; rfl
theorem idOf_len6 (o : Opr) : (idOf o).length = 32 := by
  unfold idOf; split
  · exact sha_length _
  · simp
def encP (c : Int) (s : Slps) : List CV := [.int .i64 c, encSls s]
theorem take_sls (s : Slps) {k : Nat} {y : Slp} (hy : s.l[k]? = some y) : sliceM (.sl 45) (encSls s) none (some (.int .i64 (k : Int))) none = some (encSls (some (s.l.take k))) := by
  cases s with
  | none => simp at hy
  | some a =>
    have hk := (List.getElem?_eq_some_iff.1 hy).1
    have := slice_to (z := 45) (enc := encSl) (l := a) (k := .i64) (i := (k : Int)) (by omega) (by simp at hk; omega)
    simpa [encSls] using this
abbrev zeroSl : List CV := CV.int .i64 0 :: CV.int .u32 0 :: CV.nilS :: CV.int .u64 0 :: CV.int .u8 0 :: CV.str [] :: CV.int .u8 0 :: CV.int .i64 0 :: CV.int .u64 0 :: CV.str [] :: CV.int .u32 0 :: CV.int .u32 0 :: (rep 32 (.int .u8 0) ++ [CV.nilS])
theorem spS {R : List CV} (h : R.length = 45) : splice (CV.int .i64 0 :: CV.int .u32 0 :: CV.nilS :: CV.int .u64 0 :: CV.int .u8 0 :: CV.str [] :: CV.int .u8 0 :: CV.int .i64 0 :: CV.int .u64 0 :: CV.str [] :: CV.int .u32 0 :: CV.int .u32 0 :: (rep 32 (.int .u8 0) ++ [CV.nilS])) 0 R = R := splice_full (by rw [h]; rfl)
structure PckI (c : Int) (s : Slps) (k : Nat) (σ : Sg) (l : Hl) : Prop where
  hl : ∃ r, l = .cells 2 (encP c s) :: r
  g1 : σ 1 = .ptr 0 0 2
  g3 : σ 3 = .int .i64 (tkPrev s.l k)
  g25 : σ 25 = encSls s
  g26 : σ 26 = .int .i64 s.l.length
  g27 : σ 27 = .int .i64 k
  hs : ∀ j, j < k → goodSl s.l j = true
set_option maxHeartbeats 1000000 in
theorem wPCheck_ok (c : Int) (s : Slps) (hs : okSls s.l) (hl : s.l.length ≤ 1000000) : PureC Tryz.prog GS 29 [.ag (encP c s)] (.int .i64 (penErr c s.l)) := by
  refine pure_of Tryz.checked.mixed GS_closed ?_
  apply call_intro c29_eq r29_eq
  unfold c29 r29
  have hlen : lenM (.sl 45) (encSls s) = some (.int .i64 s.l.length) := by simp [encSls]
  by_cases h1 : c < 1
  · have hp : penErr c s.l = 8 := by unfold penErr; rw [if_pos (.inl h1)]
    rw [hp]
    simp [encP, h1]
    exact rd_eq rfl rfl
  · by_cases h2 : 8 < c
    · have hp : penErr c s.l = 8 := by unfold penErr; rw [if_pos (.inr (.inl h2))]
      rw [hp]
      simp [encP, h1, h2]
      exact rd_eq rfl rfl
    · by_cases h3 : c < s.l.length
      · have hp : penErr c s.l = 8 := by unfold penErr; rw [if_pos (.inr (.inr h3))]
        rw [hp]
        simp [encP, hlen, h1, h2, h3]
        exact rd_eq rfl rfl
      · have hno : ¬ (c < 1 ∨ 8 < c ∨ c < s.l.length) := by omega
        simp [encP, hlen, h1, h2, h3]
        refine loop_up s.l.length (PckI c s) ?_ ⟨⟨_, rfl⟩, by simp, by simp [tkPrev], by simp, by simp, by simp, fun j h => by omega⟩
        rintro k σ l hk ⟨⟨r, rfl⟩, g1, g3, g25, g26, g27, hss⟩
        obtain ⟨σ, rfl⟩ := upds5 g1 g3 g25 g26 g27
        clear g1 g3 g25 g26 g27
        unfold l29_0
        simp
        refine kIf_intro (fun h => ?_) (fun h => ?_)
        · simp only [decide_eq_true_eq] at h
          obtain ⟨y, hy, hym⟩ := get_of (l := s.l) (k := k) (by omega)
          have hoy := hs y hym
          have hR := row_of hoy
          have e1 : IntKind.i64.wrap ((k : Int) + 1) = ((k + 1 : Nat) : Int) := by rw [IntKind.wrap_i64]; omega
          have hia : iaC (.sl 45) (encSls s) (.int .i64 (k : Int)) = some (.rptr (encSl y) 0) := by simp [encSls, hy]
          have hst := take_sls s hy
          have hat := slAt_get hy
          have hwid := wID_ok y.op hoy.op
          have hmis := wMiss_ok y.op hoy.op y.miss hoy.miss hoy.len
          have htk : okSls ((s.l.take k)) := fun t ht => hs t (List.mem_of_mem_take ht)
          have hpa := pAt_ok (some (s.l.take k)) htk (by simp; omega) y.id hoy.id
          have hix := ixOf_neg y.id ((s.l.take k).map Slp.id) 0
          have hil := idOf_len6 y.op
          have hne := idNeq hil hoy.id
          have hyl := eId_len hoy.id
          have hcl := closed_Sls (some (s.l.take k))
          have hco := closed_op y.op
          have hcm := closed_ids y.miss
          have hci := closed_eId y.id
          have hga : goodSl s.l k = (decide (opErr y.op = 0) && (decide (idOf y.op = y.id) && (decide (tkPrev s.l k < y.tk) && (decide (y.tk ≤ 1000000000) && (missB y.op y.miss.l && decide (y.id ∉ (s.l.take k).map Slp.id)))))) := by unfold goodSl; rw [hat]
          have hbad : goodSl s.l k = false → penErr c s.l = 8 := fun hb => pen_bad hno h hb
          have htn : tkPrev s.l (k + 1) = y.tk := by unfold tkPrev; rw [if_neg (by omega), Nat.add_sub_cancel, hat]
          obtain ⟨R, hRe⟩ : ∃ R, R = encSl y := ⟨_, rfl⟩
          rw [← hRe] at hR hia
          obtain ⟨O, hO⟩ : ∃ O, O = encOp y.op := ⟨_, rfl⟩
          have f1 := hR.len
          have f2 := hR.tk
          have f3 := hR.op
          have f4 := hR.id
          have f5 := hR.miss
          rw [← hO] at f3 hwid hmis hco
          have hOl : O.length = 11 := by rw [hO]; rfl
          have hspR := spS f1
          obtain ⟨D, hD⟩ : ∃ D, D = (idOf y.op).map e8 := ⟨_, rfl⟩
          have hDl : D.length = 32 := by rw [hD, List.length_map, hil]
          have hspD : splice (rep 32 (.int .u8 0)) 0 D = D := splice_full (by rw [hDl]; rfl)
          unfold idC at hwid
          rw [← hD] at hwid
          simp [hia, f1, hspR, f3, hOl, List.take_of_length_le]
          refine pure_call hwid (by simp [closedL, CV.closed, hco]) ?_
          simp [hDl, hspD, List.take_of_length_le]
          have hneD : binC Tryz.prog .neq 32 (.ag D) (.ag (eId y.id)) = some (.bool !decide (idOf y.op = y.id)) := by rw [hD]; exact hne
          by_cases c1 : opErr y.op = 0
          · by_cases c2 : idOf y.op = y.id
            · by_cases c3 : tkPrev s.l k < y.tk
              · have c3' : ¬ y.tk ≤ tkPrev s.l k := by omega
                by_cases c4 : y.tk ≤ 1000000000
                · have c4' : ¬ 1000000000 < y.tk := by omega
                  simp [c1, c2, hneD, f1, f2, f3, f4, f5, hyl, hOl, hDl, c3', c4', List.take_of_length_le]
                  refine pure_call hmis (by simp [closedL, CV.closed, hco, hcm]) ?_
                  cases c5 : missB y.op y.miss.l with
                  | false =>
                    have hb := hbad (by rw [hga]; simp [c5])
                    rw [hb]
                    simp
                    exact rd_eq rfl rfl
                  | true =>
                    simp [encP, hst, f1, f4, hyl, List.take_of_length_le]
                    refine pure_call hpa (by simp [closedL, CV.closed, hcl, hci]) ?_
                    by_cases c6 : y.id ∈ (s.l.take k).map Slp.id
                    · have hb := hbad (by rw [hga]; simp only [c6, not_true, decide_false, Bool.and_false])
                      have : 0 ≤ ixOf y.id ((s.l.map Slp.id).take k) 0 := by rw [← List.map_take]; exact hix.2 c6
                      rw [hb]
                      simp [this]
                      exact rd_eq rfl rfl
                    · have hge : ¬ (0 ≤ ixOf y.id ((s.l.map Slp.id).take k) 0) := by rw [← List.map_take]; exact fun h => c6 (hix.1 h)
                      have hgood : goodSl s.l k = true := by rw [hga, c5]; simp only [c1, c2, c3, c4, c6, decide_true, not_false_eq_true, Bool.and_self]
                      simp [hge, f1, f2, e1]
                      refine ⟨by omega, ⟨_, rfl⟩, by simp, by simp [htn], by simp, by simp, by simp, fun j hj => ?_⟩
                      by_cases hjk : j = k
                      · rw [hjk]; exact hgood
                      · exact hss j (by omega)
                · have c4' : 1000000000 < y.tk := by omega
                  have hb := hbad (by rw [hga]; simp [c4])
                  rw [hb]
                  simp [c1, c2, hneD, f1, f2, f4, hyl, hDl, c3', c4', List.take_of_length_le]
                  exact rd_eq rfl rfl
              · have c3' : y.tk ≤ tkPrev s.l k := by omega
                have hb := hbad (by rw [hga]; simp [c3])
                rw [hb]
                simp [c1, c2, hneD, f1, f2, f4, hyl, hDl, c3', List.take_of_length_le]
                exact rd_eq rfl rfl
            · have hb := hbad (by rw [hga]; simp [c2])
              rw [hb]
              simp [c1, c2, hneD, f1, f4, hyl, hDl, List.take_of_length_le]
              exact rd_eq rfl rfl
          · have hb := hbad (by rw [hga]; simp [c1])
            rw [hb]
            simp [c1]
            exact rd_eq rfl rfl
        · simp [h]
          exact rd_eq (by rw [pen_ok hno fun j hj => hss j (by simp at h; omega)]) rfl
end Op
end Go.CM

/-
  Buffers of sleepers: where an id lies, what may be missing, the buffer checked; walked in the reference.
-/
namespace Go.CM
open Go Go.Proofs
set_option linter.unusedVariables false
set_option linter.unusedSimpArgs false
set_option maxRecDepth 100000
namespace Op
open Sha
structure RatI (c : Int) (s : Slps) (x : List B) (k : Nat) (σ : Sg) (l : Hl) : Prop where
  hl : l = [.cells 2 (encP c s), .cells 32 (eId x)]
  g2 : σ 2 = .ptr 0 0 2
  g3 : σ 3 = .ptr 1 0 32
  g5 : σ 5 = .int .i64 k
  hs : ∀ (j : Nat) (z : List B), j < k → (s.l.map Slp.id)[j]? = some z → z ≠ x
theorem rAt_ok (c : Int) (s : Slps) (hs : okSls s.l) (hl : s.l.length ≤ 1000000) (x : List B) (hx : x.length = 32) : PureC Tryz.prog GS 12 [.ag (encP c s), .ag (eId x)] (.int .i64 (ixOf x (s.l.map Slp.id) 0)) := by
  refine pure_of Tryz.checked.mixed GS_closed ?_
  apply call_intro c12_eq r12_eq
  unfold c12 r12
  have hlen : lenM (.sl 45) (encSls s) = some (.int .i64 s.l.length) := by simp [encSls]
  have hxl := eId_len hx
  simp [encP, hxl, hlen]
  refine loop_up s.l.length (RatI c s x) ?_ ⟨rfl, by simp, by simp, by simp, fun j z h => by omega⟩
  rintro k σ l hk ⟨rfl, g2, g3, g5, hss⟩
  obtain ⟨σ, rfl⟩ := upds3 g2 g3 g5
  clear g2 g3 g5
  unfold l12_0
  simp [encP, hlen]
  refine kIf_intro (fun h => ?_) (fun h => ?_)
  · simp only [decide_eq_true_eq] at h
    obtain ⟨y, hy, hym⟩ := get_of (l := s.l) (k := k) (by omega)
    have hR := row_of (hs y hym)
    have e1 : IntKind.i64.wrap ((k : Int) + 1) = ((k + 1 : Nat) : Int) := by rw [IntKind.wrap_i64]; omega
    have hia : iaC (.sl 45) (encSls s) (.int .i64 (k : Int)) = some (.rptr (encSl y) 0) := by simp [encSls, hy]
    have hyk : (s.l.map Slp.id)[k]? = some y.id := by rw [List.getElem?_map, hy]; rfl
    have heq := idEql (hs y hym).id hx
    have hyl := eId_len (hs y hym).id
    obtain ⟨R, hRe⟩ : ∃ R, R = encSl y := ⟨_, rfl⟩
    rw [← hRe] at hR hia
    have f1 := hR.len
    have f4 := hR.id
    simp [hia, f1, f4, hyl, hxl, List.take_of_length_le, heq]
    by_cases he : y.id = x
    · simp [he]
      have := ixOf_at (n := 0) hyk hss he
      rw [Nat.zero_add] at this
      exact rd_eq (by rw [this]) rfl
    · simp [he, e1]
      refine ⟨by omega, rfl, by simp, by simp, by simp, fun j z hj hz => ?_⟩
      by_cases hjk : j = k
      · rw [hjk, hyk] at hz; obtain rfl := Option.some.inj hz; exact he
      · exact hss j z (by omega) hz
  · simp [h]
    have hk2 : k = s.l.length := by simp at h; omega
    have := ixOf_no (n := 0) (l := s.l.map Slp.id) (x := x) fun j z hz => hss j z (by rw [hk2]; have := (List.getElem?_eq_some_iff.1 hz).1; simpa using this) hz
    exact rd_eq (by rw [this]) rfl
theorem nodup_len {α : Type} [DecidableEq α] : ∀ {l m : List α}, l.Nodup → (∀ x ∈ l, x ∈ m) → l.length ≤ m.length
  | [], m, _, _ => Nat.zero_le _
  | x :: l, m, h, hm => by
    obtain ⟨h1, h2⟩ := List.nodup_cons.1 h
    have hx := hm x (by simp)
    have ih := nodup_len (l := l) (m := m.erase x) h2 fun y hy => (List.mem_erase_of_ne (fun e => h1 (by rw [← e]; exact hy))).2 (hm y (by simp [hy]))
    have := List.length_erase_of_mem hx
    have := List.length_pos_of_mem hx
    simp only [List.length_cons]; omega
theorem ris_lt {l : List (List B)} (h : ris l = true) : ∀ {d i : Nat}, i + d + 1 < l.length → cmpB (idAt l i) (idAt l (i + d + 1)) < 0
  | 0, i, hi => ris_step h hi
  | d + 1, i, hi => cmpB_trans _ _ _ (ris_lt h (d := d) (i := i) (by omega)) (ris_step h (k := i + d + 1) hi)
theorem ris_nodup {l : List (List B)} (h : ris l = true) : l.Nodup := by
  refine List.pairwise_iff_getElem.2 fun i j hi hj hij he => ?_
  have := ris_lt h (d := j - i - 1) (i := i) (by omega)
  rw [show i + (j - i - 1) + 1 = j by omega] at this
  have e1 : idAt l i = l[i] := idAt_get (List.getElem?_eq_getElem hi)
  have e2 : idAt l j = l[j] := idAt_get (List.getElem?_eq_getElem hj)
  rw [e1, e2, he, cmpB_self] at this
  omega
structure LckI (o : Opr) (m : Ids) (k : Nat) (σ : Sg) (l : Hl) : Prop where
  hl : l = [.cells 11 (encOp o)]
  g1 : σ 1 = encIds m
  g2 : σ 2 = .ptr 0 0 11
  g5 : σ 5 = .int .i64 k
  hs : ∀ j, j < k → idAt m.l j ∈ o.preds.l
theorem rLacks_ok (o : Opr) (ho : OkOp o) (m : Ids) (hm : okIds m) (hl : m.l.length ≤ 1000000) : PureC Tryz.prog GS 38 [.ag (encOp o), encIds m] (.bool (missB o m.l)) := by
  refine pure_of Tryz.checked.mixed GS_closed ?_
  apply call_intro c38_eq r38_eq
  unfold c38 r38
  have hlen : lenM (.sl 32) (encIds m) = some (.int .i64 m.l.length) := by simp [encIds]
  have hplen : lenM (.sl 32) (encIds o.preds) = some (.int .i64 o.preds.l.length) := by simp [encIds]
  have hcp := closed_ids o.preds
  have hcm := closed_ids m
  by_cases h0 : m.l.length = 0
  · have hb : missB o m.l = false := by unfold missB; rw [h0]; rfl
    rw [hb]
    simp [hlen, h0]
    exact rd_eq rfl rfl
  · have h0' : ¬ ((m.l.length : Int) = 0) := by omega
    by_cases h1 : o.preds.l.length < m.l.length
    · have h1' : ((o.preds.l.length : Int) < (m.l.length : Int)) := by omega
      have hb : missB o m.l = false := by
        cases h : missB o m.l with
        | false => rfl
        | true =>
          unfold missB at h
          rw [Bool.and_eq_true, Bool.and_eq_true] at h
          have := nodup_len (ris_nodup h.2.1) fun x hx => of_decide_eq_true (List.all_eq_true.1 h.2.2 x hx)
          omega
      rw [hb]
      simp [encOp, hlen, hplen, h0, h0', h1, h1']
      exact rd_eq rfl rfl
    · have h1' : ¬ ((o.preds.l.length : Int) < (m.l.length : Int)) := by omega
      simp [encOp, hlen, hplen, h0, h0', h1, h1']
      refine pure_call (rRising_ok m hm hl) (by simp [closedL, CV.closed, hcm]) ?_
      cases h2 : ris m.l with
      | false =>
        have hb : missB o m.l = false := by unfold missB; rw [h2]; simp
        rw [hb]
        simp
        exact rd_eq rfl rfl
      | true =>
        simp
        refine loop_up m.l.length (LckI o m) ?_ ⟨rfl, by simp, by simp, by simp, fun j h => by omega⟩
        rintro k σ l hk ⟨rfl, g1, g2, g5, hss⟩
        obtain ⟨σ, rfl⟩ := upds3 g1 g2 g5
        clear g1 g2 g5
        unfold l38_0
        simp [hlen]
        refine kIf_intro (fun h => ?_) (fun h => ?_)
        · simp only [decide_eq_true_eq] at h
          obtain ⟨y, hy, hym⟩ := get_of (l := m.l) (k := k) (by omega)
          have hyl := eId_len (hm y hym)
          have e1 : IntKind.i64.wrap ((k : Int) + 1) = ((k + 1 : Nat) : Int) := by rw [IntKind.wrap_i64]; omega
          have hia : iaC (.sl 32) (encIds m) (.int .i64 (k : Int)) = some (.rptr (eId y) 0) := by simp [encIds, hy]
          have hin := rIn_ok o.preds ho.ids ho.len y (hm y hym)
          have hcy := closed_eId y
          simp [encOp, hia, hyl, List.take_of_length_le]
          refine pure_call hin (by simp [closedL, CV.closed, hcp, hcy]) ?_
          by_cases hmem : y ∈ o.preds.l
          · simp [hmem, e1]
            refine ⟨by omega, rfl, by simp, by simp, by simp, fun j hj => ?_⟩
            by_cases hjk : j = k
            · rw [hjk, idAt_get hy]; exact hmem
            · exact hss j (by omega)
          · have hb : missB o m.l = false := by
              unfold missB
              cases h3 : (m.l.all fun x => decide (x ∈ o.preds.l)) with
              | false => simp
              | true => exact absurd (of_decide_eq_true (List.all_eq_true.1 h3 y hym)) hmem
            rw [hb]
            simp [hmem]
            exact rd_eq rfl rfl
        · simp [h]
          have hk2 : k = m.l.length := by simp at h; omega
          have hb : missB o m.l = true := by
            unfold missB
            have h3 : (m.l.all fun x => decide (x ∈ o.preds.l)) = true := List.all_eq_true.2 fun x hx => by
              obtain ⟨j, hj⟩ := List.mem_iff_getElem?.1 hx
              have := hss j (by rw [hk2]; exact (List.getElem?_eq_some_iff.1 hj).1)
              rw [idAt_get hj] at this
              exact decide_eq_true this
            rw [h2, h3, decide_eq_true (by omega)]; rfl
          rw [hb]
          exact rd_eq rfl rfl
end Op
end Go.CM

/-
  Buffers of sleepers: checked; walked in the reference.
-/
namespace Go.CM
open Go Go.Proofs
set_option linter.unusedVariables false
set_option linter.unusedSimpArgs false
set_option maxRecDepth 100000
namespace Op
open Sha
structure RckI (c : Int) (s : Slps) (k : Nat) (σ : Sg) (l : Hl) : Prop where
  hl : ∃ r, l = .cells 2 (encP c s) :: r
  g1 : σ 1 = .ptr 0 0 2
  g3 : σ 3 = .int .i64 k
  hs : ∀ j, j < k → goodSl s.l j = true
theorem tkPrev_ge {l : List Slp} : ∀ {k : Nat}, k ≤ l.length → (∀ j, j < k → goodSl l j = true) → -1 ≤ tkPrev l k
  | 0, _, _ => by simp [tkPrev]
  | k + 1, hk, h => by
    have ih := tkPrev_ge (l := l) (k := k) (by omega) fun j hj => h j (by omega)
    have hg := h k (by omega)
    unfold goodSl at hg
    simp only [Bool.and_eq_true, decide_eq_true_eq] at hg
    have := hg.2.2.1
    unfold tkPrev
    rw [if_neg (by omega), Nat.add_sub_cancel]
    omega
theorem ix_first {l : List Slp} {k : Nat} {y : Slp} (hy : l[k]? = some y) : ixOf y.id (l.map Slp.id) 0 = (k : Int) ↔ y.id ∉ (l.take k).map Slp.id := by
  have hyk : (l.map Slp.id)[k]? = some y.id := by rw [List.getElem?_map, hy]; rfl
  have hlt := (List.getElem?_eq_some_iff.1 hyk).1
  constructor
  · intro h hm
    rw [List.map_take] at hm
    obtain ⟨j, hj⟩ := List.mem_iff_getElem?.1 hm
    have hjl := (List.getElem?_eq_some_iff.1 hj).1
    rw [List.length_take] at hjl
    rw [List.getElem?_take_of_lt (by omega)] at hj
    -- the first place is at most j
    have hfst : ∀ {l : List (List B)} {j n : Nat}, l[j]? = some y.id → ixOf y.id l n ≤ ((n + j : Nat) : Int) := by
      intro l
      induction l with
      | nil => intro j n h; simp at h
      | cons w r ih =>
        intro j n h
        unfold ixOf
        split
        · omega
        · rename_i hw
          rcases j with _ | j
          · simp at h; exact absurd h hw
          · have := ih (j := j) (n := n + 1) (by simpa using h)
            omega
    have := hfst (n := 0) hj
    rw [h] at this
    omega
  · intro h
    have := ixOf_at (n := 0) hyk (fun j z hj hz he => h (by
      rw [List.map_take]
      exact List.mem_iff_getElem?.2 ⟨j, by rw [List.getElem?_take_of_lt hj, hz, he]⟩)) rfl
    simpa using this
set_option maxHeartbeats 1000000 in
theorem rPCheck_ok (c : Int) (s : Slps) (hs : okSls s.l) (hl : s.l.length ≤ 1000000) : PureC Tryz.prog GS 11 [.ag (encP c s)] (.int .i64 (penErr c s.l)) := by
  refine pure_of Tryz.checked.mixed GS_closed ?_
  apply call_intro c11_eq r11_eq
  unfold c11 r11
  have hlen : lenM (.sl 45) (encSls s) = some (.int .i64 s.l.length) := by simp [encSls]
  have hcs := closed_Sls s
  by_cases h1 : c < 1
  · have hp : penErr c s.l = 8 := by unfold penErr; rw [if_pos (.inl h1)]
    rw [hp]
    simp [encP, h1]
    exact rd_eq rfl rfl
  · by_cases h2 : 8 < c
    · have hp : penErr c s.l = 8 := by unfold penErr; rw [if_pos (.inr (.inl h2))]
      rw [hp]
      simp [encP, h1, h2]
      exact rd_eq rfl rfl
    · by_cases h3 : c < s.l.length
      · have hp : penErr c s.l = 8 := by unfold penErr; rw [if_pos (.inr (.inr h3))]
        rw [hp]
        simp [encP, hlen, h1, h2, h3]
        exact rd_eq rfl rfl
      · have hno : ¬ (c < 1 ∨ 8 < c ∨ c < s.l.length) := by omega
        simp [encP, hlen, h1, h2, h3]
        refine loop_up s.l.length (RckI c s) ?_ ⟨⟨_, rfl⟩, by simp, by simp, fun j h => by omega⟩
        rintro k σ l hk ⟨⟨r, rfl⟩, g1, g3, hss⟩
        obtain ⟨σ, rfl⟩ := upds2 g1 g3
        clear g1 g3
        unfold l11_0
        simp [encP, hlen]
        refine kIf_intro (fun h => ?_) (fun h => ?_)
        · simp only [decide_eq_true_eq] at h
          obtain ⟨y, hy, hym⟩ := get_of (l := s.l) (k := k) (by omega)
          have hoy := hs y hym
          have hR := row_of hoy
          have e1 : IntKind.i64.wrap ((k : Int) + 1) = ((k + 1 : Nat) : Int) := by rw [IntKind.wrap_i64]; omega
          have hia : iaC (.sl 45) (encSls s) (.int .i64 (k : Int)) = some (.rptr (encSl y) 0) := by simp [encSls, hy]
          have hat := slAt_get hy
          have hwid := rID6_ok y.op hoy.op
          have hmis := rLacks_ok y.op hoy.op y.miss hoy.miss hoy.len
          have hpa := rAt_ok c s hs hl y.id hoy.id
          have hix := ix_first hy
          have hil := idOf_len6 y.op
          have hne := idNeq hil hoy.id
          have hyl := eId_len hoy.id
          have hco := closed_op y.op
          have hcm := closed_ids y.miss
          have hci := closed_eId y.id
          have hga : goodSl s.l k = (decide (opErr y.op = 0) && (decide (idOf y.op = y.id) && (decide (tkPrev s.l k < y.tk) && (decide (y.tk ≤ 1000000000) && (missB y.op y.miss.l && decide (y.id ∉ (s.l.take k).map Slp.id)))))) := by unfold goodSl; rw [hat]
          have hbad : goodSl s.l k = false → penErr c s.l = 8 := fun hb => pen_bad hno h hb
          have hge := tkPrev_ge (l := s.l) (k := k) (by omega) hss
          obtain ⟨R, hRe⟩ : ∃ R, R = encSl y := ⟨_, rfl⟩
          rw [← hRe] at hR hia
          obtain ⟨O, hO⟩ : ∃ O, O = encOp y.op := ⟨_, rfl⟩
          have f1 := hR.len
          have f2 := hR.tk
          have f3 := hR.op
          have f4 := hR.id
          have f5 := hR.miss
          rw [← hO] at f3 hwid hmis hco
          have hOl : O.length = 11 := by rw [hO]; rfl
          have hspR := spS f1
          obtain ⟨D, hD⟩ : ∃ D, D = (idOf y.op).map e8 := ⟨_, rfl⟩
          have hDl : D.length = 32 := by rw [hD, List.length_map, hil]
          have hspD : splice (rep 32 (.int .u8 0)) 0 D = D := splice_full (by rw [hDl]; rfl)
          have hneD : binC Tryz.prog .neq 32 (.ag D) (.ag (eId y.id)) = some (.bool !decide (idOf y.op = y.id)) := by rw [hD]; exact hne
          unfold idC at hwid
          rw [← hD] at hwid
          -- what comes behind the tickets
          have hrest : tkPrev s.l k < y.tk → y.tk ≤ 1000000000 → True := fun _ _ => trivial
          by_cases c0 : y.tk < 0
          · have hb := hbad (by rw [hga, decide_eq_false (show ¬ tkPrev s.l k < y.tk by omega)]; simp)
            rw [hb]
            simp [hia, f1, hspR, f2, c0, List.take_of_length_le]
            exact rd_eq rfl rfl
          · by_cases c4 : y.tk ≤ 1000000000
            · have c4' : ¬ 1000000000 < y.tk := by omega
              by_cases hk0 : k = 0
              · have c3 : tkPrev s.l k < y.tk := by rw [hk0]; simp [tkPrev]; omega
                have hk0' : ¬ (0 : Int) < (k : Int) := by omega
                have hkn : ¬ 0 < k := by omega
                simp [encP, hia, f1, hspR, f2, f4, hyl, c0, c4', hkn, List.take_of_length_le]
                refine pure_call hpa (show closedL [CV.ag (encP c s), CV.ag (eId y.id)] = true by simp [encP, closedL, CV.closed, hcs, hci]) ?_
                by_cases c6 : y.id ∈ (s.l.take k).map Slp.id
                · have hb := hbad (by rw [hga]; simp only [c6, not_true, decide_false, Bool.and_false])
                  have hnx : ¬ ixOf y.id (s.l.map Slp.id) 0 = (k : Int) := fun h => (hix.1 h) c6
                  rw [hb]
                  simp [hnx]
                  exact rd_eq rfl rfl
                · have hnx : ixOf y.id (s.l.map Slp.id) 0 = (k : Int) := hix.2 c6
                  simp [hnx, f1, f3, hOl, List.take_of_length_le]
                  refine pure_call hwid (by simp [closedL, CV.closed, hco]) ?_
                  by_cases c1 : opErr y.op = 0
                  · by_cases c2 : idOf y.op = y.id
                    · simp [c1, c2, hneD, f1, f3, f4, f5, hyl, hOl, hDl, hspD, List.take_of_length_le]
                      refine pure_call hmis (by simp [closedL, CV.closed, hco, hcm]) ?_
                      cases c5 : missB y.op y.miss.l with
                      | false =>
                        have hb := hbad (by rw [hga]; simp [c5])
                        rw [hb]
                        simp
                        exact rd_eq rfl rfl
                      | true =>
                        have hgood : goodSl s.l k = true := by rw [hga, c5]; simp only [c1, c2, c3, c4, c6, decide_true, not_false_eq_true, Bool.and_self]
                        simp [e1]
                        exact ⟨by omega, ⟨_, rfl⟩, by simp, by simp, fun j hj => by
                          by_cases hjk : j = k
                          · rw [hjk]; exact hgood
                          · exact hss j (by omega)⟩
                    · have hb := hbad (by rw [hga]; simp [c2])
                      rw [hb]
                      simp [c1, c2, hneD, f1, f4, hyl, hDl, hspD, List.take_of_length_le]
                      exact rd_eq rfl rfl
                  · have hb := hbad (by rw [hga]; simp [c1])
                    rw [hb]
                    simp [c1, hDl, hspD]
                    exact rd_eq rfl rfl
              · obtain ⟨z, hz, hzm⟩ := get_of (l := s.l) (k := k - 1) (by omega)
                have e3 : IntKind.i64.wrap ((k : Int) - 1) = ((k - 1 : Nat) : Int) := by rw [IntKind.wrap_i64]; omega
                have hk0' : (0 : Int) < (k : Int) := by omega
                have hkp : 0 < k := by omega
                have hiz : iaC (.sl 45) (encSls s) (.int .i64 ((k - 1 : Nat) : Int)) = some (.rptr (encSl z) 0) := by simp [encSls, hz]
                have hZ := row_of (hs z hzm)
                have g2 := hZ.tk
                have g1 := hZ.len
                have htz : tkPrev s.l k = z.tk := by unfold tkPrev; rw [if_neg hk0, slAt_get hz]
                obtain ⟨Z, hZe⟩ : ∃ Z, Z = encSl z := ⟨_, rfl⟩
                simp only [← hZe] at g1 g2 hiz
                by_cases c3 : tkPrev s.l k < y.tk
                · have c3' : ¬ y.tk ≤ z.tk := by omega
                  simp [encP, hia, hiz, f1, g1, hspR, f2, g2, f4, hyl, c0, c4', hkp, e3, c3', List.take_of_length_le]
                  refine pure_call hpa (show closedL [CV.ag (encP c s), CV.ag (eId y.id)] = true by simp [encP, closedL, CV.closed, hcs, hci]) ?_
                  by_cases c6 : y.id ∈ (s.l.take k).map Slp.id
                  · have hb := hbad (by rw [hga]; simp only [c6, not_true, decide_false, Bool.and_false])
                    have hnx : ¬ ixOf y.id (s.l.map Slp.id) 0 = (k : Int) := fun h => (hix.1 h) c6
                    rw [hb]
                    simp [hnx]
                    exact rd_eq rfl rfl
                  · have hnx : ixOf y.id (s.l.map Slp.id) 0 = (k : Int) := hix.2 c6
                    simp [hnx, f1, f3, hOl, List.take_of_length_le]
                    refine pure_call hwid (by simp [closedL, CV.closed, hco]) ?_
                    by_cases c1 : opErr y.op = 0
                    · by_cases c2 : idOf y.op = y.id
                      · simp [c1, c2, hneD, f1, f3, f4, f5, hyl, hOl, hDl, hspD, List.take_of_length_le]
                        refine pure_call hmis (by simp [closedL, CV.closed, hco, hcm]) ?_
                        cases c5 : missB y.op y.miss.l with
                        | false =>
                          have hb := hbad (by rw [hga]; simp [c5])
                          rw [hb]
                          simp
                          exact rd_eq rfl rfl
                        | true =>
                          have hgood : goodSl s.l k = true := by rw [hga, c5]; simp only [c1, c2, c3, c4, c6, decide_true, not_false_eq_true, Bool.and_self]
                          simp [e1]
                          exact ⟨by omega, ⟨_, rfl⟩, by simp, by simp, fun j hj => by
                            by_cases hjk : j = k
                            · rw [hjk]; exact hgood
                            · exact hss j (by omega)⟩
                      · have hb := hbad (by rw [hga]; simp [c2])
                        rw [hb]
                        simp [c1, c2, hneD, f1, f4, hyl, hDl, hspD, List.take_of_length_le]
                        exact rd_eq rfl rfl
                    · have hb := hbad (by rw [hga]; simp [c1])
                      rw [hb]
                      simp [c1, hDl, hspD]
                      exact rd_eq rfl rfl
                · have c3' : y.tk ≤ z.tk := by omega
                  have hb := hbad (by rw [hga]; simp [c3])
                  rw [hb]
                  simp [encP, hia, hiz, f1, g1, hspR, f2, g2, f4, hyl, c0, c4', hkp, e3, c3', List.take_of_length_le]
                  exact rd_eq rfl rfl
            · have c4' : 1000000000 < y.tk := by omega
              have hb := hbad (by rw [hga]; simp [c4])
              rw [hb]
              simp [hia, f1, hspR, f2, c0, c4', List.take_of_length_le]
              exact rd_eq rfl rfl
        · simp [h]
          exact rd_eq (by rw [pen_ok hno fun j hj => hss j (by simp at h; omega)]) rfl
end Op
end Go.CM

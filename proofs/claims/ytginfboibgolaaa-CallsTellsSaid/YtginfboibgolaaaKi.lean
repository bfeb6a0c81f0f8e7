/-
  Calls: what comes in.
-/
import Derived.Test.YtginfboibgolaaaKh
namespace Go.CM
open Go Go.Proofs Go.RowKit
set_option linter.unusedVariables false
set_option linter.unusedSimpArgs false
set_option maxRecDepth 100000
namespace Ca
open Sha Op

theorem ty_str {P : Program} {t : TypeId} {ts : List TypeId} {cs : List CV} (hu : P.underlying t = some .string) (h : Ty P (t :: ts) cs) : ∃ s cs', cs = .str s :: cs' ∧ Ty P ts cs' := by
  cases h
  case str s cs' hs hu' h => exact ⟨_, _, rfl, h⟩
  all_goals (exfalso; simp_all; done)
theorem ty_u8 {ts : List TypeId} {cs : List CV} (h : Ty Try.prog (5 :: ts) cs) : ∃ (x : B) (cs' : List CV), cs = e8 x :: cs' ∧ Ty Try.prog ts cs' := by
  obtain ⟨k, cs1, rfl, h1, h2, h3⟩ := ty_int (k := .u8) (by kernel_rfl) h
  have h5 : (0 : Int) ≤ k := h1
  have h6 : k ≤ 255 := h2
  refine ⟨BitVec.ofNat 8 k.toNat, cs1, ?_, h3⟩
  have : ((BitVec.ofNat 8 k.toNat).toNat : Int) = k := by
    rw [BitVec.toNat_ofNat, Nat.mod_eq_of_lt (by omega)]; omega
  simp [e8, u]; omega
theorem ty_by {ts : List TypeId} {cs : List CV} (h : Ty Try.prog (22 :: ts) cs) : ∃ (s : Bs) (cs' : List CV), cs = encBs s :: cs' ∧ Ty Try.prog ts cs' := by
  obtain ⟨s, cs', rfl, _, _, h2⟩ := ty_sl (e := 5) (z := 1) (enc := enc8) (Q := fun _ => True) (by kernel_rfl) (by kernel_rfl) (fun r hr => by
    obtain ⟨x, cs', rfl, h3⟩ := ty_u8 hr
    rw [ty_nil h3]
    exact ⟨x, rfl, trivial⟩) h
  exact ⟨s, cs', rfl, h2⟩
theorem ty_idm {ts : List TypeId} {cs : List CV} (h : Ty Try.prog (31 :: ts) cs) : ∃ (x : List B) (cs' : List CV), cs = x.map e8 ++ cs' ∧ x.length = 32 ∧ Ty Try.prog ts cs' := by
  have h1 := ty_array (e := 5) (n := 32) (by kernel_rfl) h
  exact ty_bytes (by kernel_rfl) 32 h1
theorem ty_ids {ts : List TypeId} {cs : List CV} (h : Ty Try.prog (32 :: ts) cs) : ∃ (s : Ids) (cs' : List CV), cs = encIds s :: cs' ∧ okIds s ∧ Ty Try.prog ts cs' := by
  obtain ⟨s, cs', rfl, _, h1, h2⟩ := ty_sl (e := 31) (z := 32) (enc := eId) (Q := fun x => x.length = 32) (by kernel_rfl) (by kernel_rfl) (fun r hr => by
    obtain ⟨x, cs', rfl, hx, h3⟩ := ty_idm hr
    rw [ty_nil h3, List.append_nil]
    exact ⟨x, rfl, hx⟩) h
  exact ⟨s, cs', rfl, h1, h2⟩
theorem ty_val {ts : List TypeId} {cs : List CV} (h : Ty Try.prog (25 :: ts) cs) : ∃ (v : Val) (cs' : List CV), cs = [e8 v.kind, .int .i64 v.num, e64 v.bits, .str v.text] ++ cs' ∧ Ty Try.prog ts cs' := by
  have h1 := ty_struct (fs := [5, 2, 23, 9]) (by kernel_rfl) h
  obtain ⟨k, _, rfl, h2⟩ := ty_u8 h1
  obtain ⟨n, _, rfl, _, _, h3⟩ := ty_int (k := .i64) (by kernel_rfl) h2
  obtain ⟨b, _, rfl, h4⟩ := ty_u64 h3
  obtain ⟨s, _, rfl, h5⟩ := ty_str (by kernel_rfl) h4
  exact ⟨⟨k, n, b, s⟩, _, rfl, h5⟩
theorem ty_act {ts : List TypeId} {cs : List CV} (h : Ty Try.prog (27 :: ts) cs) : ∃ (a : Op.Act) (cs' : List CV), cs = [e8 a.kind, .str a.key, e8 a.val.kind, .int .i64 a.val.num, e64 a.val.bits, .str a.val.text] ++ cs' ∧ Ty Try.prog ts cs' := by
  have h1 := ty_struct (fs := [5, 9, 25]) (by kernel_rfl) h
  obtain ⟨k, _, rfl, h2⟩ := ty_u8 h1
  obtain ⟨s, _, rfl, h3⟩ := ty_str (by kernel_rfl) h2
  obtain ⟨v, _, rfl, h4⟩ := ty_val h3
  exact ⟨⟨k, s, v⟩, _, rfl, h4⟩
theorem ty_call {ts : List TypeId} {cs : List CV} (h : Ty Try.prog (29 :: ts) cs) : ∃ (c : Call) (cs' : List CV), cs = encC c ++ cs' ∧ Ty Try.prog ts cs' := by
  have h1 := ty_struct (fs := [5, 22, 27, 23, 9]) (by kernel_rfl) h
  obtain ⟨k, _, rfl, h2⟩ := ty_u8 h1
  obtain ⟨b, _, rfl, h3⟩ := ty_by h2
  obtain ⟨a, _, rfl, h4⟩ := ty_act h3
  obtain ⟨n, _, rfl, h5⟩ := ty_u64 h4
  obtain ⟨s, _, rfl, h6⟩ := ty_str (by kernel_rfl) h5
  exact ⟨⟨k, b, a, n, s⟩, _, rfl, h6⟩
theorem ty_ans {ts : List TypeId} {cs : List CV} (h : Ty Try.prog (34 :: ts) cs) : ∃ (a : Ans) (cs' : List CV), cs = encAn a ++ cs' ∧ okA a ∧ Ty Try.prog ts cs' := by
  have h1 := ty_struct (fs := [5, 31, 3, 4, 25, 32, 3]) (by kernel_rfl) h
  obtain ⟨k, _, rfl, h2⟩ := ty_u8 h1
  obtain ⟨x, _, rfl, hx, h3⟩ := ty_idm h2
  obtain ⟨n, _, rfl, _, _, h4⟩ := ty_int (k := .i64) (by kernel_rfl) h3
  obtain ⟨b, _, rfl, h5⟩ := ty_bool (by kernel_rfl) h4
  obtain ⟨v, _, rfl, h6⟩ := ty_val h5
  obtain ⟨s, _, rfl, hs, h7⟩ := ty_ids h6
  obtain ⟨m, cs', rfl, _, _, h8⟩ := ty_int (k := .i64) (by kernel_rfl) h7
  exact ⟨⟨k, x, n, b, v, s, m⟩, cs', by simp [encAn], ⟨hx, hs⟩, h8⟩
theorem ty_open {ts : List TypeId} {cs : List CV} (h : Ty Try.prog (36 :: ts) cs) : ∃ (o : Opn) (cs' : List CV), cs = encO o ++ cs' ∧ okA o.ans ∧ Ty Try.prog ts cs' := by
  have h1 := ty_struct (fs := [29, 5, 3, 22, 3, 34]) (by kernel_rfl) h
  obtain ⟨c, _, rfl, h2⟩ := ty_call h1
  obtain ⟨k, _, rfl, h3⟩ := ty_u8 h2
  obtain ⟨n, _, rfl, _, _, h4⟩ := ty_int (k := .i64) (by kernel_rfl) h3
  obtain ⟨b, _, rfl, h5⟩ := ty_by h4
  obtain ⟨m, _, rfl, _, _, h6⟩ := ty_int (k := .i64) (by kernel_rfl) h5
  obtain ⟨a, cs', rfl, ha, h7⟩ := ty_ans h6
  exact ⟨⟨c, k, n, b, m, a⟩, cs', by simp [encO], ha, h7⟩
theorem tyA_u8 {ts : List TypeId} {cs : List CV} (h : TyA Try.prog (5 :: ts) cs) : ∃ (n : B) (cs' : List CV), cs = e8 n :: cs' ∧ TyA Try.prog ts cs' := by
  obtain ⟨c, cs', rfl, h1, h2⟩ := tyA_cons h
  obtain ⟨n, cs1, hs, h3⟩ := ty_u8 (tyV_one (by kernel_rfl) h1)
  cases hs
  exact ⟨n, cs', rfl, h2⟩
theorem tyA_call {ts : List TypeId} {cs : List CV} (h : TyA Try.prog (29 :: ts) cs) : ∃ (x : Call) (cs' : List CV), cs = .ag (encC x) :: cs' ∧ TyA Try.prog ts cs' := by
  obtain ⟨c, cs', rfl, h1, h2⟩ := tyA_cons h
  obtain ⟨cs, rfl, h3⟩ := tyV_agg (by kernel_rfl) h1
  obtain ⟨x, _, rfl, h4⟩ := ty_call h3
  rw [ty_nil h4, List.append_nil]
  exact ⟨x, cs', rfl, h2⟩
theorem tyA_open {ts : List TypeId} {cs : List CV} (h : TyA Try.prog (36 :: ts) cs) : ∃ (x : Opn) (cs' : List CV), cs = .ag (encO x) :: cs' ∧ okA x.ans ∧ TyA Try.prog ts cs' := by
  obtain ⟨c, cs', rfl, h1, h2⟩ := tyA_cons h
  obtain ⟨cs, rfl, h3⟩ := tyV_agg (by kernel_rfl) h1
  obtain ⟨x, _, rfl, ha, h4⟩ := ty_open h3
  rw [ty_nil h4, List.append_nil]
  exact ⟨x, cs', rfl, ha, h2⟩
end Ca
end Go.CM

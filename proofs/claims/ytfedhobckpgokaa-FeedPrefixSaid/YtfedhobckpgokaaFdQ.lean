/-
  Feeds: what comes in.
-/
import Derived.Test.YtfedhobckpgokaaFdP
import Derived.Test.YtfedhobckpgokaaCnF
namespace Go.CM
open Go Go.Proofs
set_option linter.unusedVariables false
set_option linter.unusedSimpArgs false
set_option maxRecDepth 100000
namespace Fd

theorem ty_id (r : List CV) (h : Ty Try.prog [37] r) : ∃ x : Id, r = encId x ∧ x.length = 32 := by
  have h1 := ty_array (e := 5) (n := 32) (by kernel_rfl) h
  obtain ⟨x, cs', rfl, hx, h2⟩ := ty_ints (k := .u8) (by kernel_rfl) 32 h1
  rw [ty_nil h2, List.append_nil]
  exact ⟨x, rfl, hx⟩
theorem ty_ids {ts : List TypeId} {cs : List CV} (h : Ty Try.prog (31 :: ts) cs) : ∃ (s : Sv Id) (cs' : List CV), cs = encIds s :: cs' ∧ s.l.length ≤ maxLen ∧ okIds s ∧ Ty Try.prog ts cs' :=
  ty_sl (e := 37) (by kernel_rfl) (by kernel_rfl) ty_id h
theorem ty_q (r : List CV) (h : Ty Try.prog [58] r) : ∃ q : Queue, r = encQ q ∧ okIds q.ids ∧ q.ids.l.length ≤ maxLen := by
  have h1 := ty_struct (fs := [3, 31, 4, 4]) (by kernel_rfl) h
  obtain ⟨n, _, rfl, _, _, h2⟩ := ty_int (k := .i64) (by kernel_rfl) h1
  obtain ⟨s, _, rfl, hl, hi, h3⟩ := ty_ids h2
  obtain ⟨b, _, rfl, h4⟩ := ty_bool (by kernel_rfl) h3
  obtain ⟨d, _, rfl, h5⟩ := ty_bool (by kernel_rfl) h4
  rw [ty_nil h5]
  exact ⟨⟨n, s, b, d⟩, rfl, hi, hl⟩
theorem ty_f {cs : List CV} (h : Ty Try.prog [26] cs) : ∃ f : Feed, .ag cs = encF f ∧ f.subs.l.length ≤ maxLen ∧ (∀ q ∈ f.subs.l, okIds q.ids ∧ q.ids.l.length ≤ maxLen) ∧
    IntKind.i64.min ≤ f.cap ∧ f.cap ≤ IntKind.i64.max ∧ IntKind.i64.min ≤ f.ver ∧ f.ver ≤ IntKind.i64.max := by
  have h1 := ty_struct (fs := [3, 3, 24]) (by kernel_rfl) h
  obtain ⟨n, _, rfl, a1, a2, h2⟩ := ty_int (k := .i64) (by kernel_rfl) h1
  obtain ⟨m, _, rfl, b1, b2, h3⟩ := ty_int (k := .i64) (by kernel_rfl) h2
  obtain ⟨s, _, rfl, hl, hi, h4⟩ := ty_sl (e := 58) (z := 4) (by kernel_rfl) (by kernel_rfl) ty_q h3
  rw [ty_nil h4]
  exact ⟨⟨n, m, s⟩, rfl, hl, hi, a1, a2, b1, b2⟩
theorem tyA_f {ts : List TypeId} {cs : List CV} (h : TyA Try.prog (26 :: ts) cs) : ∃ (f : Feed) (cs' : List CV), cs = encF f :: cs' ∧ f.subs.l.length ≤ maxLen ∧ (∀ q ∈ f.subs.l, okIds q.ids ∧ q.ids.l.length ≤ maxLen) ∧ TyA Try.prog ts cs' := by
  obtain ⟨c, cs', rfl, h1, h2⟩ := tyA_cons h
  obtain ⟨cs, rfl, h3⟩ := tyV_agg (by kernel_rfl) h1
  obtain ⟨f, hf, hl, hq, _⟩ := ty_f h3
  exact ⟨f, cs', by rw [hf], hl, hq, h2⟩
theorem tyA_ids {ts : List TypeId} {cs : List CV} (h : TyA Try.prog (31 :: ts) cs) : ∃ (s : Sv Id) (cs' : List CV), cs = encIds s :: cs' ∧ s.l.length ≤ maxLen ∧ okIds s ∧ TyA Try.prog ts cs' := by
  obtain ⟨c, cs', rfl, h1, h2⟩ := tyA_cons h
  obtain ⟨s, cs1, hs, hl, hi, h3⟩ := ty_ids (tyV_one (by kernel_rfl) h1)
  cases hs
  exact ⟨s, cs', rfl, hl, hi, h2⟩
theorem tyA_int {ts : List TypeId} {cs : List CV} (h : TyA Try.prog (3 :: ts) cs) : ∃ (n : Int) (cs' : List CV), cs = .int .i64 n :: cs' ∧ IntKind.i64.min ≤ n ∧ n ≤ IntKind.i64.max ∧ TyA Try.prog ts cs' := by
  obtain ⟨c, cs', rfl, h1, h2⟩ := tyA_cons h
  obtain ⟨n, cs1, hs, hl, hi, h3⟩ := ty_int (k := .i64) (by kernel_rfl) (tyV_one (by kernel_rfl) h1)
  cases hs
  exact ⟨n, cs', rfl, hl, hi, h2⟩
end Fd
end Go.CM

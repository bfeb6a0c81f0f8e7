/-
  Feeds: the law FeedPrefix, walked.
-/
import Derived.Test.YtfedhobckpgokaaFdT
import Derived.Test.YtfedhobckpgokaaFdQ
namespace Go.CM
open Go Go.Proofs
set_option linter.unusedVariables false
set_option linter.unusedSimpArgs false
set_option maxRecDepth 100000
namespace Fd

def encB (b : Bool) : List CV := [.bool b]
theorem cNN (a b : Int) : closedL [CV.int .i64 a, CV.int .i64 b] = true := rfl

theorem ty_b (r : List CV) (h : Ty Try.prog [4] r) : ∃ b : Bool, r = encB b ∧ True := by
  obtain ⟨b, _, rfl, h5⟩ := ty_bool (by kernel_rfl) h
  rw [ty_nil h5]
  exact ⟨b, rfl, trivial⟩
theorem tyA_bools {ts : List TypeId} {cs : List CV} (h : TyA Try.prog (22 :: ts) cs) : ∃ (s : Sv Bool) (cs' : List CV), cs = encS 1 encB s :: cs' ∧ TyA Try.prog ts cs' := by
  obtain ⟨c, cs', rfl, h1, h2⟩ := tyA_cons h
  obtain ⟨s, cs1, hs, hl, hi, h3⟩ := ty_sl (e := 4) (z := 1) (enc := encB) (Q := fun _ => True) (by kernel_rfl) (by kernel_rfl) ty_b (tyV_one (by kernel_rfl) h1)
  cases hs
  exact ⟨s, cs', rfl, h2⟩

set_option maxHeartbeats 8000000 in
theorem prefix_call (c before ahead : Int) (steps : Sv Bool) : CallP Try.prog G0 3 [.int .i64 c, .int .i64 before, .int .i64 ahead, encS 1 encB steps] [] (c := ⟨fun r _ => r = .bool true⟩) := by
  apply call_intro c3_eq r3_eq
  unfold c3 r3
  have hlen : lenM (.sl 1) (encS 1 encB steps) = some (.int .i64 steps.l.length) := len_encS _
  simp
  refine pure_call alive_ok rfl ?_
  by_cases h1 : c < 1
  · simp [h1]
  by_cases h8 : 8 < c
  · simp [h1, h8]
  by_cases hb0 : before < 0
  · simp [h1, h8, hb0]
  by_cases hb1 : 20 < before
  · simp [h1, h8, hb0, hb1]
  by_cases ha0 : ahead < 0
  · simp [h1, h8, hb0, hb1, ha0]
  by_cases ha1 : 20 < ahead
  · simp [h1, h8, hb0, hb1, ha0, ha1]
  by_cases hs : 60 < (steps.l.length : Int)
  · simp [h1, h8, hb0, hb1, ha0, ha1, hlen, hs]
  obtain ⟨b, rfl⟩ : ∃ b : Nat, before = b := ⟨before.toNat, by omega⟩
  obtain ⟨a, rfl⟩ : ∃ a : Nat, ahead = a := ⟨ahead.toNat, by omega⟩
  obtain ⟨s1, s2, s3, s4⟩ := pf_start (c := c) (by omega) (by omega) (before := b) (ahead := a) (by omega) (by omega)
  simp [h1, h8, hb0, hb1, ha0, ha1, hlen, hs]
  have k9 := new_ok c
  have i1 := ids_ok 0 b (by omega)
  have hF : okB 200 (newF c).1 := okB_new _ _
  have k10 := publish_ok (newF c).1 (idsOf 0 b) (hF.ok (by omega)) (idsOf_ok _ _) (by rw [idsOf_l, idsL_len]; omega)
  rw [idsOf_l, s2] at k10
  have hF2 := okB_publish hF (ids := idsL 0 b) (idsL_32 _ _)
  rw [idsL_len] at hF2
  have k12 := subscribe_ok (publish (newF c).1 (idsL 0 b)).1 (b + a : Nat) (hF2.ok (by omega))
  rw [s1] at k9
  rw [s3, Int.natCast_add] at k12
  obtain ⟨F1, hF1⟩ : ∃ F, F = (newF c).1 := ⟨_, rfl⟩
  rw [← hF1] at k9 k10 k12 s4
  obtain ⟨F2, hF2⟩ : ∃ F, F = (publish F1 (idsL 0 b)).1 := ⟨_, rfl⟩
  rw [← hF2] at k10 k12 s4
  rw [Int.natCast_add] at s4
  obtain ⟨F3, hF3⟩ : ∃ F, F = (sub F2 ((b : Int) + a)).1 := ⟨_, rfl⟩
  rw [← hF3] at k12 s4
  refine pure_call k9 rfl ?_
  simp [encF]
  refine pure_call (by simpa using i1) (cNN _ _) ?_
  simp [encF]
  refine pure_call k10 (cFi _ _) ?_
  simp [encF]
  have hwab : IntKind.i64.wrap ((b : Int) + a) = b + a := wrap_i64 (by omega) (by omega)
  simp [hwab]
  refine pure_call (k12) (cFn _ _ _) ?_
  simp [encF, hwab]
  refine loop_up steps.l.length (fun k σ l => σ 0 = .int .i64 c ∧ σ 1 = .int .i64 b ∧ σ 2 = .int .i64 a ∧ σ 3 = encS 1 encB steps ∧ σ 9 = .bool true ∧ σ 14 = .ptr 2 0 3 ∧ σ 21 = .int .i64 k ∧
    ∃ (told next : Nat) (lags : Int) (ended : Bool) (g : Feed) (x0 x1 : CB) (rest : Hl), σ 17 = .int .i64 told ∧ σ 18 = .int .i64 next ∧ σ 19 = .int .i64 lags ∧ σ 20 = .bool ended ∧
      l = x0 :: x1 :: .cells 3 [.int .i64 g.cap, .int .i64 g.ver, encSubs g.subs] :: rest ∧ Pf (200 + k) c (b + a) told next lags ended g ∧ told ≤ 20 + k ∧ next ≤ 40 + k) ?_ ?_
  · rintro k σ l hk ⟨g0, g1, g2, g3, g9, g14, g21, told, next, lags, ended, g, x0, x1, rest, g17, g18, g19, g20, rfl, P, ht, hn⟩
    obtain ⟨σ, rfl⟩ := upds11 g0 g1 g2 g3 g9 g14 g17 g18 g19 g20 g21
    clear g0 g1 g2 g3 g9 g14 g17 g18 g19 g20 g21
    unfold l3_0
    simp [hlen]
    by_cases h : k < steps.l.length
    · obtain ⟨x, hx, hxm⟩ := get_of h
      have hwk : IntKind.i64.wrap ((k : Int) + 1) = k + 1 := wrap_i64 (by omega) (by omega)
      have hwt : IntKind.i64.wrap ((told : Int) + 1) = told + 1 := wrap_i64 (by omega) (by omega)
      have hwn : IntKind.i64.wrap ((next : Int) + 1) = next + 1 := wrap_i64 (by omega) (by omega)
      have hwd : IntKind.i64.wrap ((told : Int) - next) = told - next := wrap_i64 (by omega) (by omega)
      have hia : iaC (.sl 1) (encS 1 encB steps) (.int .i64 k) = some (.rptr (encB x) 0) := by
        rw [ia_encS]; simp [hx]
      have k13 := refCheck_ok g (P.b.ok (by omega)).2
      rw [P.ok] at k13
      simp [h]
      refine pure_call k13 (cF _) ?_
      simp [hia, encB]
      cases x with
      | true =>
        obtain ⟨p1, p2⟩ := pf_pub P (by omega)
        have i2 := ids_ok told 1 (by omega)
        have k10 := publish_ok g (idsOf told 1) (P.b.ok (by omega)) (idsOf_ok _ _) (by rw [idsOf_l, idsL_len]; omega)
        rw [idsOf_l, show idsL told 1 = [idOf told] from rfl, p1] at k10
        obtain ⟨H, hH⟩ : ∃ H, H = (publish g [idOf told]).1 := ⟨_, rfl⟩
        rw [← hH] at k10 p2
        rw [Int.natCast_add] at i2
        simp [hwt]
        refine pure_call i2 (cNN _ _) ?_
        simp [encF]
        refine pure_call k10 (cFi _ _) ?_
        simp [encF]
        have hfin : ∀ L : Int, L = lags' c (b + a) told next lags ended → Pf (200 + (k + 1)) c (b + a) (told + 1) next L ended H := fun L hL => by rw [hL]; exact p2
        cases he : ended with
        | true =>
          simp [h, hwt, hwk]
          rw [he] at p2 hfin
          exact ⟨told + 1, by simp, next, rfl, H, ⟨rfl, rfl, rfl⟩, hfin _ (by unfold lags'; simp), by omega, by omega⟩
        | false =>
          rw [he] at p2 hfin
          by_cases hl : lags < 0
          · by_cases hba : (b : Int) + a ≤ told
            · by_cases hc : c ≤ (told : Int) - next
              · simp [h, hwt, hwk, hl, hba, hwd, hc, hwab]
                exact ⟨told + 1, by simp, next, rfl, H, ⟨rfl, rfl, rfl⟩, hfin _ (by unfold lags'; rw [if_pos ⟨rfl, hl, by omega, hc⟩]), by omega, by omega⟩
              · simp [h, hwt, hwk, hl, hba, hwd, hc, hwab]
                exact ⟨told + 1, by simp, next, rfl, H, ⟨rfl, rfl, rfl⟩, hfin _ (by unfold lags'; rw [if_neg (by omega)]), by omega, by omega⟩
            · simp [h, hwt, hwk, hl, hba, hwab]
              exact ⟨told + 1, by simp, next, rfl, H, ⟨rfl, rfl, rfl⟩, hfin _ (by unfold lags'; rw [if_neg (by omega)]), by omega, by omega⟩
          · simp [h, hwt, hwk, hl]
            exact ⟨told + 1, by simp, next, rfl, H, ⟨rfl, rfl, rfl⟩, hfin _ (by unfold lags'; rw [if_neg (by omega)]), by omega, by omega⟩
      | false =>
        have k14 := take_ok g 0 (P.b.ok (by omega))
        have h32 := take_id32 P.b 0
        have hT := pf_take P (by omega) (by omega)
        have i15 := id_ok next (by omega)
        obtain ⟨T, hTd⟩ : ∃ T, T = take g 0 := ⟨_, rfl⟩
        rw [← hTd] at k14 h32 hT
        have hsf := splice_full (cs := encId zeroId) (vs := encId T.id) (by rw [id_len h32]; rfl)
        rw [zero_id] at hsf
        simp
        refine pure_call k14 (cFn _ _ _) ?_
        simp [encF, Taken.enc, id_len h32, hsf, List.take_of_length_le]
        have hup : ∀ {m x L E F}, Pf (200 + k) c (b + a) m x L E F → Pf (200 + (k + 1)) c (b + a) m x L E F := fun h => ⟨h.ok, h.b.mono (by omega), h.cap, h.ver, h.q⟩
        rcases hT with ⟨rfl, t1⟩ | ⟨rfl, t1, t2, t3, t4, t5, t6⟩ | ⟨rfl, t1, t2, t3, t4, t5, t6⟩ | ⟨rfl, t1, t2, t3⟩
        · by_cases hl : 0 ≤ lags
          · simp [hl, t1, h, hwk]
            exact ⟨told, rfl, next, rfl, g, ⟨rfl, rfl, rfl⟩, hup P, by omega, by omega⟩
          · simp [hl, t1, h, hwk]
            exact ⟨told, rfl, next, rfl, g, ⟨rfl, rfl, rfl⟩, hup P, by omega, by omega⟩
        · have heq : binC Try.prog .neq 37 (.ag (encId (idOf next))) (.ag (encId (idOf next))) = some (.bool false) := by rw [id_neq (idOf_len _) (idOf_len _)]; simp
          by_cases hl : 0 ≤ lags
          · rw [if_pos hl] at t1
            simp [hl, t1, t2, t3, t4, t5, h, hwk]
            refine ⟨by rw [id_len (idOf_len _)]; omega, pure_call i15 rfl ?_⟩
            simp [heq, hwn, h, hwk, t2, t3, t4, id_len (idOf_len next), List.take_of_length_le]
            exact ⟨told, rfl, next + 1, by simp, T.f, ⟨rfl, rfl, rfl⟩, hup t6, by omega, by omega⟩
          · rw [if_neg hl] at t1
            have t1' : next < told := by omega
            simp [hl, t1, t1', t2, t3, t4, t5, h, hwk]
            refine ⟨by rw [id_len (idOf_len _)]; omega, pure_call i15 rfl ?_⟩
            simp [heq, hwn, h, hwk, t2, t3, t4, id_len (idOf_len next), List.take_of_length_le]
            exact ⟨told, rfl, next + 1, by simp, T.f, ⟨rfl, rfl, rfl⟩, hup t6, by omega, by omega⟩
        · rw [if_pos t2] at t1
          simp [t1, t2, t3, t4, t5, h, hwk]
          exact ⟨told, rfl, next, rfl, T.f, ⟨rfl, rfl, rfl⟩, hup t6, by omega, by omega⟩
        · rw [if_neg t2] at t1
          have t1' : ¬next < told := by omega
          simp [t1, t1', t2, t3, h, hwk]
          exact ⟨told, rfl, next, rfl, g, ⟨rfl, rfl, rfl⟩, hup P, by omega, by omega⟩
    · simp [h]
  · simp
    exact ⟨b, rfl, b + a, by simp, F3, ⟨rfl, rfl, rfl⟩, s4, by omega, by omega⟩
end Fd
end Go.CM

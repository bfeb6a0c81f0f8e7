/-
  Sets of tags: OrsetApplies, walked.
-/
import Derived.Test.YtboebmmklamaeaaGreatDoorEk
namespace Go.CM
open Go Go.Proofs Go.RowKit
set_option linter.unusedVariables false
set_option linter.unusedSimpArgs false
set_option maxRecDepth 100000
namespace Op
open Sha
structure ApI (L : Hl) (b : Ids) (k : Nat) (σ : Sg) (l : Hl) : Prop where
  hl : l = L
  g2 : σ 2 = encIds b
  g3 : σ 3 = .ptr 0 0 1
  g4 : σ 4 = .ptr 1 0 11
  g7 : σ 7 = .bool true
  g8 : σ 8 = .ptr 2 0 1
  g10 : σ 10 = .ptr 3 0 32
  g11 : σ 11 = .int .i64 k
structure ApJ (L : Hl) (p : Nat) (add : Bool) (k : Nat) (σ : Sg) (l : Hl) : Prop where
  hl : l = L
  g3 : σ 3 = .ptr 0 0 1
  g4 : σ 4 = .ptr 1 0 11
  g7 : σ 7 = .bool true
  g8 : σ 8 = .ptr 2 0 1
  g10 : σ 10 = .ptr 3 0 32
  g13 : σ 13 = .int .i64 (if add = true ∧ p < k then 1 else 0)
  g14 : σ 14 = .int .i64 k
set_option maxHeartbeats 2000000 in
theorem orsetApplies_call (hal : PureC Tryz.prog GS 27 [] (.bool true)) (s : Tgs) (o : Opr) (b : Ids) (hs : okTs s.l) (hto : TyOp o) (hb : okIds b) :
    CallP Tryz.prog GS 6 [.ag [encTs s], .ag (encOp o), encIds b] [] (c := ⟨fun r _ => r = .bool true⟩) := by
  apply call_intro c6_eq r6_eq
  unfold c6 r6
  have hcs := closed_Ts s
  have hco := closed_op o
  have hcb := closed_ids b
  have hcop : closedL [CV.ag (encOp o)] = true := by simp [closedL, CV.closed, hco]
  have hcts : closedL [CV.ag [encTs s]] = true := by simp [closedL, CV.closed, hcs]
  have hblen : lenM (.sl 32) (encIds b) = some (.int .i64 b.l.length) := by simp [encIds]
  have hslen : lenM (.sl 33) (encTs s) = some (.int .i64 s.l.length) := by simp [encTs]
  have hctA : ∀ x : Tgs, (encTs x).closed = true := closed_Ts
  have hce : ∀ x : Tgs, (encTs x).cells = some [encTs x] := fun x => by cases x <;> rfl
  have hbe : ∀ x y : Bool, binC Tryz.prog .eql 4 (.bool x) (.bool y) = some (.bool (x == y)) := bin_bool_eql (by kernel_rfl)
  simp [encOp]
  refine pure_call hal rfl ?_
  simp
  refine pure_call (rTGreat_ok s hs) hcts ?_
  cases hg : greatT s.l with
  | true => simp
  | false =>
    have hsl : s.l.length ≤ 1000000 := by have := (great_le hg).1; omega
    simp
    refine pure_call (rTCheck_ok s hs hsl) hcts ?_
    by_cases h0 : tagErr s.l = 0
    · simp [h0]
      refine pure_call (rLong_ok o) hcop ?_
      cases hl : longO o with
      | true => simp
      | false =>
        have ho := okOp_of hto hl
        simp
        refine pure_call (rOpCheck_ok o ho) hcop ?_
        by_cases h1 : opErr o = 0
        · simp [h1, hblen]
          by_cases h2 : 60 < b.l.length
          · have h2' : (60 : Int) < (b.l.length : Int) := by omega
            simp [h2']
          · have h2' : ¬ (60 : Int) < (b.l.length : Int) := by omega
            simp [h2']
            have hbl : b.l.length ≤ 1000000 := by omega
            have hok := appW_ok s o b hs hsl
            have hwa := wApply_ok s o b hs hsl ho hb hbl
            obtain ⟨A1, hA1⟩ : ∃ A, A = (appW s o b).1 := ⟨_, rfl⟩
            obtain ⟨E1, hE1⟩ : ∃ A, A = (appW s o b).2 := ⟨_, rfl⟩
            have hae := app_err h0 h1 (show b.l.length ≤ 60 by omega)
            have hfi := fine_of h0 h1 (show b.l.length ≤ 60 by omega)
            rw [← hA1] at hwa hok hfi
            rw [← hE1] at hwa hae hfi
            refine pure_call hwa (show closedL [CV.ag [encTs s], CV.ag (encOp o), encIds b] = true by simp [closedL, CV.closed, hcs, hco, hcb]) ?_
            have hof := rOf6_ok o ho (by have := opErr_len h1; omega)
            have hide : idOf o = sha (opBytes o) := by unfold idOf; rw [if_pos h1]
            have hil := idOf_len o
            rw [← hide] at hof
            obtain ⟨D, hD⟩ : ∃ D, D = (idOf o).map e8 := ⟨_, rfl⟩
            have hDl : D.length = 32 := by rw [hD, List.length_map, hil]
            have hspD : splice (rep 32 (.int .u8 0)) 0 D = D := splice_full (by rw [hDl]; rfl)
            unfold idC at hof
            rw [← hD] at hof
            simp [hce]
            refine pure_call hof hcop ?_
            simp [hDl, hspD, List.take_of_length_le]
            by_cases he : E1 = 0
            · simp [he]
              refine pure_call (rTCheck_ok A1 hok.1 hok.2) (by simp [closedL, CV.closed, hctA]) ?_
              have hF := hfi he
              simp [hF.ok]
              rw [← opWords o]
              obtain ⟨L, hL⟩ : ∃ L, L = [CB.cells 1 [encTs s], CB.cells 11 (encOp o), CB.cells 1 [encTs A1], CB.cells 32 D] := ⟨_, rfl⟩
              rw [← hL]
              have q0 : L[0]? = some (.cells 1 [encTs s]) := by rw [hL]; rfl
              have q1 : L[1]? = some (.cells 11 (encOp o)) := by rw [hL]; rfl
              have q2 : L[2]? = some (.cells 1 [encTs A1]) := by rw [hL]; rfl
              have q3 : L[3]? = some (.cells 32 D) := by rw [hL]; rfl
              simp only [encOp] at q1
              have hAlen : lenM (.sl 33) (encTs A1) = some (.int .i64 A1.l.length) := by simp [encTs]
              refine loop_up s.l.length (ApI L b) ?_ ⟨rfl, by simp, by simp, by simp, by simp, by simp, by simp, by simp⟩
              rintro k σ l hk ⟨rfl, g2, g3, g4, g7, g8, g10, g11⟩
              obtain ⟨σ, rfl⟩ := upds7 g2 g3 g4 g7 g8 g10 g11
              clear g2 g3 g4 g7 g8 g10 g11
              unfold l6_0
              simp [q0, hslen]
              refine kIf_intro (fun h => ?_) (fun h => ?_)
              · simp only [decide_eq_true_eq] at h
                obtain ⟨y, hy, hym⟩ := get_of (l := s.l) (k := k) (by omega)
                have e1 : IntKind.i64.wrap ((k : Int) + 1) = ((k + 1 : Nat) : Int) := by rw [IntKind.wrap_i64]; omega
                have hia : iaC (.sl 33) (encTs s) (.int .i64 (k : Int)) = some (.rptr (encT y) 0) := by simp [encTs, hy]
                have hin := rIn_ok b hb hbl y.id (hs y hym)
                have hat := at_ok A1 hok.1 hok.2 y (hs y hym)
                have hmm := hF.mem y hym
                have hyi := closed_eId y.id
                have hyc := closed_encT y
                obtain ⟨E, hE⟩ : ∃ E, E = eId y.id := ⟨_, rfl⟩
                have hET : encT y = .str y.key :: E := by rw [hE]; rfl
                have hEl : E.length = 32 := by rw [hE]; exact eId_len (hs y hym)
                rw [← hE] at hin hyi
                rw [hET] at hia hat hyc
                have hfin : ∀ (gone : Bool), gone = goneT o b y → ((decide (y ∈ A1.l)) == gone) = false := fun g h => by rw [h, hmm]; cases goneT o b y <;> rfl
                by_cases k3 : o.act.kind = 3#8
                · have k3' := (e_3 o).2 k3
                  by_cases hke : y.key = o.act.key
                  · simp [q0, q1, k3', hia, hke, hEl, List.take_of_length_le]
                    refine pure_call hin (by simp [closedL, CV.closed, hcb, hyi]) ?_
                    have hgo : decide (y.id ∈ b.l) = goneT o b y := by unfold goneT struck; simp [k3, hke]
                    rw [hke] at hat
                    simp [q0, q2, hia, hke, hEl, List.take_of_length_le]
                    refine pure_call hat (by simp [closedL, CV.closed, hctA, hyi]) ?_
                    simp [hbe, hfin _ hgo, e1]
                    exact ⟨by omega, rfl, by simp, by simp, by simp, by simp, by simp, by simp, by simp⟩
                  · have hgo : false = goneT o b y := by unfold goneT struck; simp [hke]
                    simp [q0, q1, q2, k3', hia, hke, hEl, List.take_of_length_le]
                    refine pure_call hat (by simp [closedL, CV.closed, hctA, hyi]) ?_
                    simp [hbe, hfin _ hgo, e1]
                    exact ⟨by omega, rfl, by simp, by simp, by simp, by simp, by simp, by simp, by simp⟩
                · have k3' : ¬ (u o.act.kind : Int) = 3 := fun h => k3 ((e_3 o).1 h)
                  have hgo : false = goneT o b y := by unfold goneT; simp [k3]
                  simp [q0, q1, q2, k3', hia, hEl, List.take_of_length_le]
                  refine pure_call hat (by simp [closedL, CV.closed, hctA, hyi]) ?_
                  simp [hbe, hfin _ hgo, e1]
                  exact ⟨by omega, rfl, by simp, by simp, by simp, by simp, by simp, by simp, by simp⟩
              · simp [h]
                obtain ⟨p, hp1, hp2⟩ := hF.cnt
                refine loop_up A1.l.length (ApJ l p (decide (o.act.kind = 2#8))) ?_ ⟨rfl, by simp, by simp, by simp, by simp, by simp, by simp, by simp⟩
                rintro k2 σ l hk2 ⟨rfl, g3, g4, g7, g8, g10, g13, g14⟩
                obtain ⟨σ, rfl⟩ := upds7 g3 g4 g7 g8 g10 g13 g14
                clear g3 g4 g7 g8 g10 g13 g14
                unfold l6_1
                simp [q2, hAlen]
                refine kIf_intro (fun h => ?_) (fun h => ?_)
                · simp only [decide_eq_true_eq] at h
                  obtain ⟨y, hy, hym⟩ := get_of (l := A1.l) (k := k2) (by omega)
                  have e1 : IntKind.i64.wrap ((k2 : Int) + 1) = ((k2 + 1 : Nat) : Int) := by rw [IntKind.wrap_i64]; omega
                  have hia : iaC (.sl 33) (encTs A1) (.int .i64 (k2 : Int)) = some (.rptr (encT y) 0) := by simp [encTs, hy]
                  have hyid := hok.1 y hym
                  have hat := at_ok s hs hsl y hyid
                  have hyl := encT_len hyid
                  have hyc := closed_encT y
                  have hnew := hF.new y hym
                  have hne := tNeq hyid hyid
                  obtain ⟨Y, hY⟩ : ∃ Y, Y = encT y := ⟨_, rfl⟩
                  rw [← hY] at hia hat hyl hyc hne
                  have hYe : y ∉ s.l → Y = .str o.act.key :: D := fun hn => by rw [hY, (hnew hn).2, hD]; rfl
                  simp [q0, q2, hia, hyl, List.take_of_length_le]
                  refine pure_call hat (by simp [closedL, CV.closed, hctA, hyc]) ?_
                  by_cases hms : y ∈ s.l
                  · have hsame : (if o.act.kind = 2#8 ∧ p < k2 then (1 : Int) else 0) = if o.act.kind = 2#8 ∧ p < k2 + 1 then 1 else 0 := by
                      by_cases ka : o.act.kind = 2#8
                      · have := ((hp1 ka).2 k2 y hy)
                        have hkp : k2 ≠ p := fun h => (this.2 h) hms
                        simp only [ka, true_and]
                        by_cases hpk : p < k2
                        · rw [if_pos hpk, if_pos (by omega)]
                        · rw [if_neg hpk, if_neg (by omega)]
                      · simp [ka]
                    simp [hms, e1]
                    exact ⟨by omega, rfl, by simp, by simp, by simp, by simp, by simp, by simp [hsame], by simp⟩
                  · obtain ⟨ka, hye⟩ := hnew hms
                    have ka' := (e_2 o).2 ka
                    have hkp : k2 = p := ((hp1 ka).2 k2 y hy).1 hms
                    have hYY := hYe hms
                    rw [hYY] at hia hne hyl
                    have hw : IntKind.i64.wrap 1 = 1 := by rw [IntKind.wrap_i64]; omega
                    have hDD : closedL D = true := by rw [hD]; exact closedL_map e8 (fun _ => rfl) _
                    have hu2 : (u 2#8 : Int) = 2 := rfl
                    rw [hkp] at hia
                    simp [hms, q1, q2, q3, ka', ka, hkp, hw, hu2, hia, hDl, hspD, List.take_of_length_le, hne]
                    have e2 : IntKind.i64.wrap ((p : Int) + 1) = ((p + 1 : Nat) : Int) := by rw [← hkp]; exact e1
                    simp [e2]
                    exact ⟨by omega, rfl, by simp, by simp, by simp, by simp, by simp, by simp [ka], by simp⟩
                · have hk3 : k2 = A1.l.length := by simp at h; omega
                  by_cases ka : o.act.kind = 2#8
                  · have ka' := (e_2 o).2 ka
                    have hpl := (hp1 ka).1
                    have hpk : p < k2 := by omega
                    have hu2 : (u 2#8 : Int) = 2 := rfl
                    simp [h, q1, ka', hpk, hu2, hbe, ka]
                  · have ka' : ¬ (u o.act.kind : Int) = 2 := fun h => ka ((e_2 o).1 h)
                    simp [h, q1, ka', hbe, ka]
            · obtain ⟨k2, hE⟩ := hae he
              have k2' := (e_2 o).2 k2
              rcases hE with hE | ⟨hE, h60⟩
              · simp [hE, k2']
              · have h60' : (s.l.length : Int) = 60 := by omega
                simp [hE, k2', hslen, h60]
        · simp [h1]
    · simp [h0]
end Op
end Go.CM

/-
  Feeds: the law FeedDoes, walked.
-/
import Derived.Test.YtfedhobckpgokaaFdO
namespace Go.CM
open Go Go.Proofs
set_option linter.unusedVariables false
set_option linter.unusedSimpArgs false
set_option maxRecDepth 100000
namespace Fd

theorem cF (f : Feed) : closedL [encF f] = true := by simp [closedL, closed_F]
theorem cFn (f : Feed) (k : IntKind) (n : Int) : closedL [encF f, .int k n] = true := by simp [closedL, closed_F, CV.closed]
theorem cFF (f g : Feed) : closedL [encF f, encF g] = true := by simp [closedL, closed_F]
theorem cFi (f : Feed) (s : Sv Id) : closedL [encF f, encIds s] = true := by simp [closedL, closed_F, closed_ids]

set_option maxHeartbeats 8000000 in
theorem does_call (f : Feed) (ids : Sv Id) (from_ n : Int) (hl : f.subs.l.length ≤ maxLen) (hq : ∀ q ∈ f.subs.l, okIds q.ids) (hi : okIds ids) : CallP Try.prog G0 5 [encF f, encIds ids, .int .i64 from_, .int .i64 n] [] (c := ⟨fun r _ => r = .bool true⟩) := by
  apply call_intro c5_eq r5_eq
  unfold c5 r5
  have hlen : lenM (.sl 32) (encIds ids) = some (.int .i64 ids.l.length) := len_encS _
  simp [encF]
  refine pure_call (great_ok f hl) (cF f) ?_
  cases hg : great f with
  | true => simp
  | false =>
    by_cases h70 : 70 < (ids.l.length : Int)
    · simp [hlen, h70]
    · have hB : okB 100 f := ⟨fun q h => ⟨hq q h, (great_of hg).2 q h⟩, (great_of hg).1⟩
      have hF := hB.ok (by omega)
      have hT := okB_tw hB
      have hTF := hT.ok (by omega)
      simp [hlen, h70]
      refine pure_call (refTwin_ok f hF) (cF f) ?_
      simp [encF]
      have hidl : ids.l.length ≤ 1000000 := by omega
      obtain ⟨A, hA⟩ : ∃ A, A = newF n := ⟨_, rfl⟩
      obtain ⟨S, hS⟩ : ∃ S, S = rsub f from_ := ⟨_, rfl⟩
      obtain ⟨p, hp⟩ : ∃ p, p = refPublish f ids.l := ⟨_, rfl⟩
      obtain ⟨T, hTk⟩ : ∃ T, T = rtake f n := ⟨_, rfl⟩
      obtain ⟨E, hE⟩ : ∃ E, E = rendF f n := ⟨_, rfl⟩
      have k9 := new_ok n
      have k18 := refNew_ok n
      have k12 := subscribe_ok (twF f) from_ hTF
      have k19 := refSubscribe_ok f from_ hF
      have k10 := publish_ok (twF f) ids hTF hi hidl
      have k20 := refPublish_ok f ids hF hi hidl
      have k14 := take_ok (twF f) n hTF
      have k22 := refTake_ok f n hF
      have k23 := end_ok (twF f) n hTF
      have k24 := refEnd_ok f n hF
      have k25 := check_ok (twF f) hTF.2
      have k13 := refCheck_ok f hF.2
      have hAF : okF A.1 := by rw [hA]; exact (okB_new 0 n).ok (by omega)
      have hSF : okF S.1 := by rw [hS, ← sub_tw]; exact (okB_sub hT from_).ok (by omega)
      have hpF : okF p.1 := by rw [hp, ← publish_tw]; exact (okB_publish hT hi).ok (by omega)
      have hTkF : okF T.f := by rw [hTk, ← take_tw]; exact (okB_take hT n).ok (by omega)
      have hEF : okF E.1 := by rw [hE, ← end_tw]; exact (okB_end hT n).ok (by omega)
      have hT32 : T.id.length = 32 := by rw [hTk, ← take_tw]; exact take_id32 hT n
      rw [← hA] at k9 k18
      rw [sub_tw, ← hS] at k12
      rw [← hS] at k19
      rw [publish_tw, ← hp] at k10
      rw [← hp] at k20
      rw [take_tw, ← hTk] at k14
      rw [← hTk] at k22
      rw [end_tw, ← hE] at k23
      rw [← hE] at k24
      rw [chk_tw] at k25
      have sA := same_ok A.1 A.1 hAF hAF
      have sS := same_ok S.1 S.1 hSF hSF
      have sp := same_ok p.1 p.1 hpF hpF
      have sT := same_ok T.f T.f hTkF hTkF
      have sE := same_ok E.1 E.1 hEF hEF
      have so := same_ok (twF f) f hTF hF
      rw [sameF_refl] at sA sS sp sT sE
      rw [sameF_tw] at so
      clear hA hS hp hTk hE
      have c1 : closedL [CV.int .i64 n] = true := rfl
      refine pure_call k9 c1 ?_
      simp [encF]
      refine pure_call k18 c1 ?_
      simp [encF]
      refine pure_call k12 (cFn _ _ _) ?_
      simp [encF]
      refine pure_call k19 (cFn _ _ _) ?_
      simp [encF]
      refine pure_call k10 (cFi _ _) ?_
      simp [encF]
      refine pure_call k20 (cFi _ _) ?_
      simp [encF]
      refine pure_call sA (cFF _ _) ?_
      simp [encF]
      refine pure_call sS (cFF _ _) ?_
      simp [encF]
      refine pure_call sp (cFF _ _) ?_
      simp [encF]
      have hsf := splice_full (cs := encId zeroId) (vs := encId T.id) (by rw [id_len hT32]; rfl)
      rw [zero_id] at hsf
      refine pure_call k14 (cFn _ _ _) ?_
      simp [encF, Taken.enc, id_len hT32, hsf, List.take_of_length_le]
      refine pure_call k22 (cFn _ _ _) ?_
      simp [encF, Taken.enc, id_len hT32, hsf, List.take_of_length_le]
      refine pure_call k23 (cFn _ _ _) ?_
      simp [encF]
      refine pure_call k24 (cFn _ _ _) ?_
      simp [encF]
      refine pure_call k25 (cF _) ?_
      simp [encF]
      refine pure_call k13 (cF _) ?_
      simp [encF]
      refine pure_call sT (cFF _ _) ?_
      simp [encF, id_len hT32, List.take_of_length_le, id_eql hT32 hT32]
      refine pure_call sE (cFF _ _) ?_
      simp [encF]
      refine pure_call so (cFF _ _) ?_
      simp [encF]
end Fd
end Go.CM

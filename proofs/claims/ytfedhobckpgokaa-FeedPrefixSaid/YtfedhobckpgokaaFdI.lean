/-
  Feeds: the reference's Subscribe, Take, End.
-/
import Derived.Test.YtfedhobckpgokaaFdH
namespace Go.CM
open Go Go.Proofs
set_option linter.unusedVariables false
set_option linter.unusedSimpArgs false
set_option maxRecDepth 100000
namespace Fd

def rsub (f : Feed) (from_ : Int) : Feed × Int × Int :=
  if chk f ≠ 0 then (zeroF, 0, chk f) else if from_ < f.ver then (zeroF, 0, 2) else if 1000000000 < from_ then (zeroF, 0, 2)
  else if (f.subs.l.length : Int) = 60 then (zeroF, 0, 18) else if (f.live : Int) = 4 then (zeroF, 0, 18)
  else ({ f with subs := some (f.subs.l.map twQ ++ [newQ from_]) }, f.subs.l.length, 0)

set_option maxHeartbeats 2000000 in
theorem refSubscribe_ok (f : Feed) (n : Int) (hf : okF f) : PureC Try.prog G0 19 [encF f, .int .i64 n] (.tu [encF (rsub f n).1, .int .i64 (rsub f n).2.1, .int .i64 (rsub f n).2.2]) := by
  refine pure_of Try.checked.mixed G0_closed ?_
  apply call_intro c19_eq r19_eq
  unfold c19 r19
  simp [encF]
  refine pure_call (refCheck_ok f hf.2) (show closedL [encF f] = true by simp [closedL, closed_F]) ?_
  have hz : ∀ l, Rd l (.ag [.int .i64 0, .int .i64 0, .nilS]) (encF zeroF) := fun l => .same _ (closed_F zeroF)
  simp
  by_cases h1 : chk f = 0
  · by_cases h2 : n < f.ver
    · simp [h1, h2]
      simp only [rsub, h1, h2, ne_eq, not_true_eq_false, if_false, if_true]
      exact rd_tu3 (hz _) (.same _ rfl) (.same _ rfl)
    · by_cases h3 : 1000000000 < n
      · simp [h1, h2, h3]
        simp only [rsub, h1, h2, h3, ne_eq, not_true_eq_false, if_false, if_true]
        exact rd_tu3 (hz _) (.same _ rfl) (.same _ rfl)
      · have hsl : lenM (.sl 4) (encSubs f.subs) = some (.int .i64 f.subs.l.length) := len_encS _
        by_cases h4 : (f.subs.l.length : Int) = 60
        · simp [h1, h2, h3, hsl, h4]
          simp only [rsub, h1, h2, h3, h4, ne_eq, not_true_eq_false, if_false, if_true]
          exact rd_tu3 (hz _) (.same _ rfl) (.same _ rfl)
        · simp [h1, h2, h3, hsl, h4]
          refine pure_call (refLive_ok f hf.2) (show closedL [encF f] = true by simp [closedL, closed_F]) ?_
          simp
          by_cases h5 : (f.live : Int) = 4
          · simp [h5]
            simp only [rsub, h1, h2, h3, h4, h5, ne_eq, not_true_eq_false, if_false, if_true]
            exact rd_tu3 (hz _) (.same _ rfl) (.same _ rfl)
          · have hsub : rsub f n = ({ f with subs := some (f.subs.l.map twQ ++ [newQ n]) }, (f.subs.l.length : Int), (0 : Int)) := by
              simp only [rsub, h1, h2, h3, h4, h5, ne_eq, not_true_eq_false, if_false]
            have hl := hf.2
            simp [h5]
            refine refTwin_own f hf (fun hn x y => ?_) (fun rest j hr => ?_)
            · simp
              rw [app_nil (xs := [encQ (newQ n)]) (by simp [contentsL, encQ, newQ, encIds, encS]) (by omega) (by omega) (by simp) (by simp [roomMax])]
              simp
              refine AppK.keep ?_
              simp [hsl, hsub]
              exact rd_tu3 (rd_Fs (f := { f with subs := _ }) (rd_subs (qs := f.subs.l.map twQ ++ [newQ n]) (by simp [hn]) (by simp [hn]))) (.same _ rfl) (.same _ rfl)
            · have hj := get_lt hr
              have hset : ∀ (c : CB) (X : Hl), (rest ++ X).set j c = rest.set j c ++ X := fun c X => by rw [List.set_append_left _ _ hj]
              simp
              rw [app_own (es := (f.subs.l.map twQ).map encQ) (xs := [encQ (newQ n)]) (m := 1) (by simp only [List.getElem?_cons_succ, List.getElem?_append_left hj, hr]) (by simp [contentsL, encQ, newQ, encIds, encS]) (by simp) (by simp) rfl (rows_Q _) (by omega) (by omega) (by simp [roomMax]; omega)]
              simp
              refine AppK.keep ?_
              simp [hsl, hsub, hset]
              refine rd_tu3 (rd_Fs (f := { f with subs := _ }) (rd_subs (qs := f.subs.l.map twQ ++ [newQ n]) ?_ (by simp))) (.same _ rfl) (.same _ rfl)
              simp only [List.getElem?_cons_succ]
              rw [List.getElem?_append_left (by simpa using hj), List.getElem?_set, if_pos rfl, if_pos hj]
              simp
  · simp [h1]
    refine pure_call (refCheck_ok f hf.2) (show closedL [encF f] = true by simp [closedL, closed_F]) ?_
    simp
    simp only [rsub, h1, ne_eq, not_false_eq_true, if_true]
    exact rd_tu3 (hz _) (.same _ rfl) (.same _ rfl)

theorem refTwin_split (f : Feed) (hf : okF f) {l : Hl} {K : CV → Hl → Prop} (h0 : f.subs.l = [] → ∀ x y, K (.ag [.int .i64 f.cap, .int .i64 f.ver, .nilS]) (l ++ [x, y]))
    (h1 : ∀ (pre post : Hl), K (.ag [.int .i64 f.cap, .int .i64 f.ver, .sl 4 (pre.length + l.length) 0 f.subs.l.length f.subs.l.length (f.subs.l.length * 4)]) (l ++ (pre ++ .cells (f.subs.l.length * 4) ((f.subs.l.map twQ).map encQ).flatten :: post))) :
    CallP Try.prog G0 17 [encF f] l (c := ⟨K⟩) :=
  refTwin_own f hf h0 fun rest j hr => by
    obtain ⟨pre, post, rfl, rfl⟩ := split_at hr
    exact h1 pre post

def rsetQ (f : Feed) (k : Nat) (q : Queue) : Feed := { f with subs := some ((f.subs.l.map twQ).set k q) }
def rtake (f : Feed) (n : Int) : Taken :=
  if num f n ≠ 0 then ⟨zeroF, 0, 0, zeroId, num f n⟩ else
  match f.subs.l[n.toNat]? with
  | none => ⟨zeroF, 0, 0, zeroId, 38⟩
  | some q => match q.ids.l with
    | x :: r => ⟨rsetQ f n.toNat { q with next := q.next + 1, ids := some r }, 1, q.next, x, 0⟩
    | [] => if q.lag then ⟨rsetQ f n.toNat { q with ids := some [], lag := false, en := true }, 2, q.next, zeroId, 0⟩ else ⟨zeroF, 0, 0, zeroId, 38⟩
theorem rtake_bad {f : Feed} {n : Int} (h : num f n ≠ 0) : rtake f n = ⟨zeroF, 0, 0, zeroId, num f n⟩ := by unfold rtake; rw [if_pos h]
theorem rtake_busy {f : Feed} {k : Nat} {q : Queue} (h : num f k = 0) (hq : f.subs.l[k]? = some q) (hi : q.ids.l = []) (hl : q.lag = false) : rtake f k = ⟨zeroF, 0, 0, zeroId, 38⟩ := by
  unfold rtake; rw [if_neg (by simpa using h), Int.toNat_natCast, hq]; simp only [hi, hl]; rfl
theorem rtake_lag {f : Feed} {k : Nat} {q : Queue} (h : num f k = 0) (hq : f.subs.l[k]? = some q) (hi : q.ids.l = []) (hl : q.lag = true) : rtake f k = ⟨rsetQ f k { q with ids := some [], lag := false, en := true }, 2, q.next, zeroId, 0⟩ := by
  unfold rtake; rw [if_neg (by simpa using h), Int.toNat_natCast, hq]; simp only [hi, hl]; rfl
theorem rtake_id {f : Feed} {k : Nat} {q : Queue} {x : Id} {r : List Id} (h : num f k = 0) (hq : f.subs.l[k]? = some q) (hi : q.ids.l = x :: r) : rtake f k = ⟨rsetQ f k { q with next := q.next + 1, ids := some r }, 1, q.next, x, 0⟩ := by
  unfold rtake; rw [if_neg (by simpa using h), Int.toNat_natCast, hq]; simp only [hi]

set_option maxHeartbeats 4000000 in
theorem refTake_ok (f : Feed) (n : Int) (hf : okF f) : PureC Try.prog G0 22 [encF f, .int .i64 n] (rtake f n).enc := by
  refine pure_of Try.checked.mixed G0_closed ?_
  apply call_intro c22_eq r22_eq
  unfold c22 r22
  simp [encF]
  refine pure_call (number_ok f n hf.2) (show closedL [encF f, .int .i64 n] = true by simp [closedL, closed_F, CV.closed]) ?_
  have hz : ∀ l, Rd l (.ag [.int .i64 0, .int .i64 0, .nilS]) (encF zeroF) := fun l => .same _ (closed_F zeroF)
  simp
  by_cases h1 : num f n = 0
  · obtain ⟨hc, hn, q, hq, he⟩ := num_ok h1
    have hk : n.toNat < f.subs.l.length := (List.getElem?_eq_some_iff.1 hq).1
    have hqm := List.mem_of_getElem? hq
    obtain ⟨_, hq1, hq2⟩ := chk_ok hc hqm
    simp [h1]
    refine refTwin_split f hf (fun hs x y => ?_) (fun pre post => ?_)
    · rw [hs] at hk; simp at hk
    · have hnl : n < f.subs.l.length := by omega
      obtain ⟨k, rfl⟩ : ∃ k : Nat, n = k := ⟨n.toNat, by omega⟩
      simp only [Int.toNat_natCast] at hq hk
      have hqt : (f.subs.l.map twQ)[k]? = some (twQ q) := by rw [List.getElem?_map, hq]; rfl
      have hrs : ∀ q', encSubs (rsetQ f k q').subs = encSubs (some ((f.subs.l.map twQ).set k q')) := fun _ => rfl
      have htl : (f.subs.l.map twQ).length = f.subs.l.length := by simp
      generalize f.subs.l.map twQ = ts at hqt hrs htl ⊢
      obtain ⟨c0, c1, c2, c3, _⟩ := cells_Q hqt
      have hw : IntKind.i64.wrap (q.next + 1) = q.next + 1 := wrap_i64 (by omega) (by omega)
      have b0 : k * 4 + 1 ≤ f.subs.l.length * 4 := by omega
      have b1 : k * 4 + 1 + 1 ≤ f.subs.l.length * 4 := by omega
      have b2 : k * 4 + 2 + 1 ≤ f.subs.l.length * 4 := by omega
      have b3 : k * 4 + 3 + 1 ≤ f.subs.l.length * 4 := by omega
      have hlen : lenM (.sl 32) (encIds q.ids) = some (.int .i64 q.ids.l.length) := len_encS _
      have hsl : iaC (.sl 4) (encSubs f.subs) (.int .i64 k) = some (.rptr (encQ q) 0) := by simp [encSubs, hq]
      have hci : ∀ s, (encIds s).cells = some [encIds s] := fun s => cells_encS _
      simp [hsl, hlen, encQ]
      cases hids : q.ids.l with
      | nil =>
        cases hl : q.lag
        · simp [hids, hl]
          rw [rtake_busy h1 hq hids hl]
          exact rd_taken (hz _) rfl rfl rfl rfl
        · have s2 := splice_Q hqt 2 [.bool false] { q with ids := some [], lag := false } (by simp) (by simp [encQ, twQ, hids])
          have s3 := splice_Q (get_set (y := { q with ids := some [], lag := false }) hqt) 3 [.bool true] { q with ids := some [], lag := false, en := true } (by simp) (by simp [encQ])
          rw [List.set_set] at s3
          simp [hids, hl, hnl, b2, b3, s2, s3, -List.map_set]
          rw [rtake_lag h1 hq hids hl]
          refine rd_taken (rd_Fs (f := rsetQ f k { q with ids := some [], lag := false, en := true }) ?_) rfl rfl rfl rfl
          rw [hrs]
          exact rd_subs (by simp) (by simp [htl])
      | cons x0 r =>
        have hx0 : x0.length = 32 := (hf.1 q hqm).1 x0 (by rw [hids]; simp)
        have hia : iaC (.sl 32) (encIds q.ids) (.int .i64 0) = some (.rptr (encId x0) 0) := by simp [encIds, ia_encS, hids]
        have hsl2 : sliceM (.sl 32) (encIds (twQ q).ids) (some (.int .i64 1)) none none = some (encIds (some r)) := by
          simp only [twQ]; rw [hids]; unfold encIds; rw [slice_from (by omega) (by simp; omega)]; rfl
        have hpos : (0 : Int) < (r.length : Int) + 1 := by omega
        have s1 := splice_Q hqt 1 [encIds (some r)] { q with ids := some r } (by simp) (by simp [encQ, twQ])
        obtain ⟨d0, d1, d2, d3, _⟩ := cells_Q (get_set (y := { q with ids := some r }) hqt)
        have hsf := splice_full (cs := encId zeroId) (vs := encId x0) (by rw [id_len hx0]; rfl)
        rw [zero_id] at hsf
        have hs0 := splice_Q (get_set (y := { q with ids := some r }) hqt) 0 [.int .i64 (q.next + 1)] { q with next := q.next + 1, ids := some r } (by simp) (by simp [encQ])
        rw [List.set_set, Nat.add_zero] at hs0
        simp [hids, hia, hsl2, hci, hnl, c1, b1, s1, hpos, d0, hw, b0, hs0, id_len hx0, hsf, List.take_of_length_le, -List.map_set]
        rw [rtake_id h1 hq hids]
        refine rd_taken (rd_Fs (f := rsetQ f k { q with next := q.next + 1, ids := some r }) ?_) rfl rfl rfl rfl
        rw [hrs]
        exact rd_subs (by simp) (by simp [htl])
  · simp [h1]
    refine pure_call (number_ok f n hf.2) (show closedL [encF f, .int .i64 n] = true by simp [closedL, closed_F, CV.closed]) ?_
    simp
    rw [rtake_bad h1]
    exact rd_taken (hz _) rfl rfl rfl rfl

def rendF (f : Feed) (n : Int) : Feed × Int :=
  if num f n ≠ 0 then (zeroF, num f n) else match f.subs.l[n.toNat]? with
  | none => (zeroF, 0)
  | some q => (rsetQ f n.toNat (endQ q), 0)
theorem rend_bad {f : Feed} {n : Int} (h : num f n ≠ 0) : rendF f n = (zeroF, num f n) := by unfold rendF; rw [if_pos h]
theorem rend_good {f : Feed} {k : Nat} {q : Queue} (h : num f k = 0) (hq : f.subs.l[k]? = some q) : rendF f k = (rsetQ f k (endQ q), 0) := by
  unfold rendF; rw [if_neg (by simpa using h), Int.toNat_natCast, hq]

set_option maxHeartbeats 4000000 in
theorem refEnd_ok (f : Feed) (n : Int) (hf : okF f) : PureC Try.prog G0 24 [encF f, .int .i64 n] (.tu [encF (rendF f n).1, .int .i64 (rendF f n).2]) := by
  refine pure_of Try.checked.mixed G0_closed ?_
  apply call_intro c24_eq r24_eq
  unfold c24 r24
  simp [encF]
  refine pure_call (number_ok f n hf.2) (show closedL [encF f, .int .i64 n] = true by simp [closedL, closed_F, CV.closed]) ?_
  have hz : ∀ l, Rd l (.ag [.int .i64 0, .int .i64 0, .nilS]) (encF zeroF) := fun l => .same _ (closed_F zeroF)
  simp
  by_cases h1 : num f n = 0
  · obtain ⟨hc, hn, q, hq, he⟩ := num_ok h1
    have hk : n.toNat < f.subs.l.length := (List.getElem?_eq_some_iff.1 hq).1
    simp [h1]
    refine refTwin_split f hf (fun hs x y => ?_) (fun pre post => ?_)
    · rw [hs] at hk; simp at hk
    · have hnl : n < f.subs.l.length := by omega
      obtain ⟨k, rfl⟩ : ∃ k : Nat, n = k := ⟨n.toNat, by omega⟩
      simp only [Int.toNat_natCast] at hq hk
      have hqt : (f.subs.l.map twQ)[k]? = some (twQ q) := by rw [List.getElem?_map, hq]; rfl
      have hrs : ∀ q', encSubs (rsetQ f k q').subs = encSubs (some ((f.subs.l.map twQ).set k q')) := fun _ => rfl
      have htl : (f.subs.l.map twQ).length = f.subs.l.length := by simp
      generalize f.subs.l.map twQ = ts at hqt hrs htl ⊢
      have b0 : k * 4 + 4 ≤ f.subs.l.length * 4 := by omega
      have hsl : iaC (.sl 4) (encSubs f.subs) (.int .i64 k) = some (.rptr (encQ q) 0) := by simp [encSubs, hq]
      have hs0 := splice_Q hqt 0 [.int .i64 q.next, .nilS, .bool false, .bool true] (endQ q) (by simp) (by simp [encQ, endQ, encIds, encS, twQ])
      rw [Nat.add_zero] at hs0
      simp [hsl, hnl, encQ, b0, hs0, -List.map_set]
      rw [rend_good h1 hq]
      refine rd_tu2 (rd_Fs (f := rsetQ f k (endQ q)) ?_) (.same _ rfl)
      rw [hrs]
      exact rd_subs (by simp) (by simp [htl])
  · simp [h1]
    refine pure_call (number_ok f n hf.2) (show closedL [encF f, .int .i64 n] = true by simp [closedL, closed_F, CV.closed]) ?_
    simp
    rw [rend_bad h1]
    exact rd_tu2 (hz _) (.same _ rfl)
end Fd
end Go.CM

/-
  Feeds: plain laws of FeedDoes; the reference's copy by value.
-/
import Derived.Test.YtfedhobckpgokaaFdN
namespace Go.CM
open Go Go.Proofs
set_option linter.unusedVariables false
set_option linter.unusedSimpArgs false
set_option maxRecDepth 100000
namespace Fd

theorem tw_subs (f : Feed) : (twF f).subs.l = f.subs.l.map twQ := by
  unfold twF
  by_cases h : f.subs.l = []
  · simp [h]
  · simp [h]
theorem okQ_tw (f : Feed) (q : Queue) : okQ (twF f) (twQ q) = okQ f q := rfl
theorem okFs_tw (f : Feed) : okFs (twF f) = okFs f := by
  unfold okFs
  rw [tw_subs, List.all_map]
  rfl
theorem live_tw (f : Feed) : (twF f).live = f.live := by
  unfold Feed.live liveL
  rw [tw_subs, List.filter_map, List.length_map]
  rfl
theorem chk_tw (f : Feed) : chk (twF f) = chk f := by
  unfold chk
  rw [okFs_tw, live_tw, tw_subs, List.length_map]
  rfl
theorem num_tw (f : Feed) (n : Int) : num (twF f) n = num f n := by
  unfold num
  rw [chk_tw, tw_subs, List.length_map, List.getElem?_map]
  cases f.subs.l[n.toNat]? <;> rfl
theorem sub_tw (f : Feed) (n : Int) : sub (twF f) n = rsub f n := by
  unfold sub rsub
  rw [chk_tw, live_tw, tw_subs, List.length_map]
  rfl
theorem publish_tw (f : Feed) (l : List Id) : publish (twF f) l = refPublish f l := by
  unfold publish refPublish
  rw [chk_tw]
  unfold twF
  by_cases h : f.subs.l = [] <;> simp [h]
theorem take_tw (f : Feed) (n : Int) : take (twF f) n = rtake f n := by
  unfold take rtake
  rw [num_tw, tw_subs, List.getElem?_map]
  cases f.subs.l[n.toNat]? with
  | none => rfl
  | some q =>
    simp only [Option.map_some]
    have h1 : (twQ q).ids.l = q.ids.l := rfl
    have h2 : ∀ p, setQ (twF f) n.toNat p = rsetQ f n.toNat p := fun p => by unfold setQ rsetQ; rw [tw_subs]; rfl
    rw [h1]
    cases hq : q.ids.l with
    | nil =>
      simp only [h2]
      rw [show (twQ q).lag = q.lag from rfl]
      have h3 : { twQ q with lag := false, en := true } = { q with ids := some [], lag := false, en := true } := by unfold twQ; rw [hq]
      rw [h3]; rfl
    | cons x r => simp only [h2]; rfl
theorem end_tw (f : Feed) (n : Int) : endF (twF f) n = rendF f n := by
  unfold endF rendF
  rw [num_tw, tw_subs, List.getElem?_map]
  cases f.subs.l[n.toNat]? with
  | none => rfl
  | some q =>
    simp only [Option.map_some]
    have h2 : ∀ p, setQ (twF f) n.toNat p = rsetQ f n.toNat p := fun p => by unfold setQ rsetQ; rw [tw_subs]; rfl
    rw [h2]; rfl
theorem sameQ_refl (q : Queue) : sameQ q q = true := by simp [sameQ]
theorem sameL_refl : ∀ l, sameL l l = true
  | [] => rfl
  | q :: l => by simp [sameL, sameQ_refl, sameL_refl l]
theorem sameF_refl (f : Feed) : sameF f f = true := by simp [sameF, sameL_refl]
theorem sameL_tw : ∀ l, sameL (l.map twQ) l = true
  | [] => rfl
  | q :: l => by simp [sameL, sameL_tw l, sameQ, twQ]
theorem sameF_tw (f : Feed) : sameF (twF f) f = true := by
  unfold sameF
  rw [tw_subs, sameL_tw]
  simp [twF]

/-- Bounds. -/
def okI (m : Nat) (q : Queue) : Prop := okIds q.ids ∧ q.ids.l.length ≤ m
def okB (m : Nat) (f : Feed) : Prop := (∀ q ∈ f.subs.l, okI m q) ∧ f.subs.l.length ≤ m
theorem okI.mono {m n : Nat} {q : Queue} (h : okI m q) (hm : m ≤ n) : okI n q := ⟨h.1, Nat.le_trans h.2 hm⟩
theorem okB.mono {m n : Nat} {f : Feed} (h : okB m f) (hm : m ≤ n) : okB n f := ⟨fun q hq => (h.1 q hq).mono hm, Nat.le_trans h.2 hm⟩
theorem okB.ok {m : Nat} {f : Feed} (h : okB m f) (hm : m ≤ 1000000) : okF f :=
  ⟨fun q hq => ⟨(h.1 q hq).1, Nat.le_trans (h.1 q hq).2 hm⟩, Nat.le_trans h.2 hm⟩
theorem okB_zero (m : Nat) : okB m zeroF := ⟨fun q hq => (by cases hq), Nat.zero_le _⟩
theorem okB_new (m : Nat) (n : Int) : okB m (newF n).1 := by
  unfold newF
  split
  · exact okB_zero m
  split
  · exact okB_zero m
  · exact ⟨fun q hq => (by cases hq), Nat.zero_le _⟩
theorem okB_tw {m : Nat} {f : Feed} (h : okB m f) : okB m (twF f) := by
  unfold okB
  rw [tw_subs, List.length_map]
  refine ⟨fun q hq => ?_, h.2⟩
  obtain ⟨p, hp, rfl⟩ := List.mem_map.1 hq
  exact h.1 p hp
theorem okB_sub {m : Nat} {f : Feed} (h : okB m f) (n : Int) : okB (m + 1) (sub f n).1 := by
  unfold sub
  repeat' split
  all_goals first | exact okB_zero _ | skip
  refine ⟨fun q hq => ?_, by have := h.2; simp; omega⟩
  simp at hq
  rcases hq with hq | rfl
  · exact (h.1 q hq).mono (by omega)
  · exact ⟨fun x hx => (by cases hx), by simp [newQ]⟩
theorem okB_setQ {m : Nat} {f : Feed} (h : okB m f) (k : Nat) {q : Queue} (hq : okI m q) : okB m (setQ f k q) := by
  refine ⟨fun p hp => ?_, by have := h.2; simp [setQ]; omega⟩
  rcases List.mem_or_eq_of_mem_set (show p ∈ f.subs.l.set k q from hp) with h1 | h1
  · exact h.1 p h1
  · rw [h1]; exact hq
theorem okB_take {m : Nat} {f : Feed} (h : okB m f) (n : Int) : okB m (take f n).f := by
  unfold take
  split
  · exact okB_zero m
  split
  · exact okB_zero m
  · rename_i q hq
    have hqi := h.1 q (List.mem_of_getElem? hq)
    split
    · rename_i x r hr
      refine okB_setQ h _ ⟨fun y hy => hqi.1 y ?_, ?_⟩
      · rw [hr]; exact List.mem_cons_of_mem _ hy
      · have := hqi.2; rw [hr] at this; simp at this ⊢; omega
    · split
      · exact okB_setQ h _ ⟨hqi.1, hqi.2⟩
      · exact okB_zero m
theorem take_id32 {m : Nat} {f : Feed} (h : okB m f) (n : Int) : (take f n).id.length = 32 := by
  unfold take
  split
  · rfl
  split
  · rfl
  · rename_i q hq
    have hqi := h.1 q (List.mem_of_getElem? hq)
    split
    · rename_i x r hr
      exact hqi.1 x (by rw [hr]; simp)
    · split <;> rfl
theorem okB_end {m : Nat} {f : Feed} (h : okB m f) (n : Int) : okB m (endF f n).1 := by
  unfold endF
  split
  · exact okB_zero m
  split
  · exact okB_zero m
  · exact okB_setQ h _ ⟨fun x hx => (by cases hx), by simp [endQ]⟩
theorem okI_pub {m : Nat} {q : Queue} (h : okI m q) (cap ver : Int) {x : Id} (hx : x.length = 32) : okI (m + 1) (pubQ cap ver x q) := by
  unfold pubQ
  split
  · exact h.mono (by omega)
  split
  · exact h.mono (by omega)
  · refine ⟨fun y hy => ?_, by have := h.2; simp; omega⟩
    simp at hy
    rcases hy with hy | rfl
    · exact h.1 y hy
    · exact hx
theorem okI_pubs (cap : Int) : ∀ (ids : List Id) (ver : Int) (qs : List Queue) (m : Nat), (∀ x ∈ ids, x.length = 32) → (∀ q ∈ qs, okI m q) → ∀ q ∈ pubs cap ver qs ids, okI (m + ids.length) q
  | [], ver, qs, m, _, h => h
  | x :: r, ver, qs, m, hx, h => fun q hq => by
    have := okI_pubs cap r (ver + 1) (qs.map (pubQ cap ver x)) (m + 1) (fun y hy => hx y (List.mem_cons_of_mem _ hy)) (fun p hp => by
      obtain ⟨p', hp', rfl⟩ := List.mem_map.1 hp
      exact okI_pub (h p' hp') cap ver (hx x (by simp))) q hq
    exact this.mono (by simp; omega)
theorem okB_publish {m : Nat} {f : Feed} (h : okB m f) {ids : List Id} (hx : ∀ x ∈ ids, x.length = 32) : okB (m + ids.length) (publish f ids).1 := by
  unfold publish
  split
  · exact okB_zero _
  split
  · exact okB_zero _
  · cases hs : f.subs with
    | none => exact ⟨fun q hq => (by cases hq), Nat.zero_le _⟩
    | some qs =>
      have h1 : f.subs.l = qs := by rw [hs]; rfl
      have h2 := h.2
      rw [h1] at h2
      refine ⟨okI_pubs f.cap ids f.ver qs m hx (fun q hq => h.1 q (by rw [h1]; exact hq)), ?_⟩
      show (pubs f.cap f.ver qs ids).length ≤ _
      rw [pubs_len]; omega

theorem refTwin_ok (f : Feed) (hf : okF f) : PureC Try.prog G0 17 [encF f] (encF (twF f)) := by
  refine pure_of Try.checked.mixed G0_closed ?_
  refine refTwin_nest f hf (fun hs x y => ?_) (fun hne rest s vs N ho => ?_)
  · have : (twF f).subs = none := by unfold twF; rw [if_pos hs]
    exact rd_Fs (f := twF f) (by rw [this]; exact .same _ rfl)
  · have h1 : (twF f).subs = some (f.subs.l.map twQ) := by unfold twF; rw [if_neg hne]
    have hr := N.rd (L := []) rfl (fun q hq => by
      obtain ⟨p, hp, rfl⟩ := List.mem_map.1 hq
      exact (hf.1 p hp).1) f.subs.l.length (f.subs.l.length * 4) (by simp)
    rw [List.length_map, ← h1] at hr
    exact rd_Fs (f := twF f) hr
end Fd
end Go.CM

/-
  Ids, sorted by Go's library.
-/
import Derived.Test.YtacddnkgkogabaaDoorKi
namespace Go.CM
open Go Go.Proofs Go.Sort Go.Shelf
set_option linter.unusedVariables false
set_option linter.unusedSimpArgs false
set_option maxRecDepth 100000
open Sha

abbrev Idx := {l : List B // l.length = 32}
instance : Inhabited Idx := ⟨⟨List.replicate 32 0#8, by simp⟩⟩
def encX (x : Idx) : List CV := x.1.map e8
def cmpX (x y : Idx) : Int := cmpB x.1 y.1
theorem swo_X : SWO (ltOf cmpX) where
  irrefl x := swo_cmpB.irrefl x.1
  trans x y z := swo_cmpB.trans x.1 y.1 z.1
  ntrans x y z := swo_cmpB.ntrans x.1 y.1 z.1
theorem anti_X (x y : Idx) (h1 : ltOf cmpX x y = false) (h2 : ltOf cmpX y x = false) : x = y := Subtype.ext (anti_cmpB x.1 y.1 h1 h2)
theorem encX_len (x : Idx) : (encX x).length = 32 := by unfold encX; rw [List.length_map, x.2]
theorem encX_plain (x : Idx) : ∀ c ∈ encX x, plainC c = true := fun c hc => by obtain ⟨b, _, rfl⟩ := List.mem_map.1 hc; rfl
theorem sortL_ids {g : Nat} (eg : ∀ args w, (callFunc g args).run Tryd.prog w = .ok (.enter g args) w) : SortL Tryd.prog 59 g 32 (fun x => (encX x).map valOf) cmpX :=
  fun blk off cap d w hcmp hH hblk hsz =>
    AnyQ.slices_SortFunc Tryd.sortL 32 (by intro w; exact Tryd.isAgg24 w) (by intro w; exact Tryd.sizeOf24 w) _ (fun x => by rw [List.length_map, encX_len]) (fun x v hv => by obtain ⟨c, _, rfl⟩ := List.mem_map.1 hv; exact valOf_one c) cmpX swo_X g #[] blk off cap d w eg hcmp hH hblk hsz
end Go.CM

/-
  Sketches: compare, Of, walked.
-/
namespace Go.CM
open Go Go.Proofs Go.Sort Go.Shelf
set_option linter.unusedVariables false
set_option linter.unusedSimpArgs false
set_option maxRecDepth 100000
namespace Sk
open Sha

theorem enc8_flat : ∀ a : List B, (a.map enc8).flatten = a.map e8
  | [] => rfl
  | x :: a => by rw [List.map_cons, List.flatten_cons, enc8_flat a]; rfl
theorem own_arr {l : Hl} {j n : Nat} {a : List B} (ha : a.length = n) (hj : l[j]? = some (.cells n (a.map e8))) : OwnS 1 l (.sl 1 j 0 n n n) j (a.map enc8) := by
  refine .sl j n n n (a.map e8) _ hj (by simp [ha]) (by simp [ha]) (fun e he => ?_) (Nat.le_refl _) (by omega) ?_
  · obtain ⟨x, _, rfl⟩ := List.mem_map.1 he; rfl
  · rw [List.take_of_length_le (by simp [ha]), enc8_flat]
theorem skcmp_ok (a b : List B) (ha : a.length = 32) (hb : b.length = 32) : PureC Tryd.prog GS 60 [idC a, idC b] (.int .i64 (cmpB a b)) := by
  refine pure_of Tryd.checked.mixed GS_closed ?_
  apply call_intro c60_eq r60_eq
  unfold c60 r60
  have hs := slice_arr_all (n := 32) (b := 1) (by omega)
  have hs0 := slice_arr_all (n := 32) (b := 0) (by omega)
  simp [idC, ha, hb, hs, hs0]
  have hc := compare_ok (some a) (some b) (by simp [ha]) (by simp [ha, hb])
  refine pure_callB hc ?_ rfl ?_
  · exact .cons ((own_arr (j := 0) ha rfl).rdH_enc (fun _ => rfl) (some a) rfl rfl) (.cons ((own_arr (j := 1) hb rfl).rdH_enc (fun _ => rfl) (some b) rfl rfl) .nil)
  · simp
    exact rd_eq rfl rfl

/-! Of -/
def eId (i : List B) : List CV := i.map e8
abbrev Ids := Sv (List B)
def encIds (s : Ids) : CV := encS 32 eId s
def okIds (s : Ids) : Prop := ∀ i ∈ s.l, i.length = 32
theorem closed_eId (i : List B) : closedL (eId i) = true := closedL_map e8 (fun _ => rfl) _
theorem closed_ids (s : Ids) : (encIds s).closed = true := closed_encS closed_eId s
/-- Bounds of all counts. -/
def Bnd (m : Int) (l : List Cell) : Prop := ∀ c ∈ l, -m ≤ c.count ∧ c.count ≤ m
theorem putAt_some {N : Nat} {id : List B} {by_ : Int} {w : Q} (hid : id.length = 32) (hby : -1 ≤ by_ ∧ by_ ≤ 1) : ∀ (ps : List Nat) (l : List Cell) (m : Int), (∀ p ∈ ps, p < N) → l.length = N → (∀ c ∈ l, c.sum.length = 32) → Bnd m l → m + ps.length ≤ 1000000 →
    ∃ t, putAt id by_ w ps l = some t ∧ t.length = N ∧ (∀ c ∈ t, c.sum.length = 32) ∧ Bnd (m + ps.length) t
  | [], l, m, _, hl, ho, hb, _ => ⟨l, rfl, hl, ho, by simpa using hb⟩
  | p :: ps, l, m, hp, hl, ho, hb, hm => by
    have hpl : p < l.length := by rw [hl]; exact hp p (by simp)
    unfold putAt
    rw [List.getElem?_eq_getElem hpl]
    simp only
    have hc := hb l[p] (List.getElem_mem hpl)
    have hin : inR (stepC l[p] id by_ w) = true := by
      rw [inR_iff]; simp only [stepC]; simp only [List.length_cons] at hm; omega
    rw [hin]
    simp only
    obtain ⟨t, h1, h2, h3, h4⟩ := putAt_some (N := N) (w := w) hid hby ps (l.set p (stepC l[p] id by_ w)) (m + 1) (fun q hq => hp q (by simp [hq])) (by simpa using hl) (fun c hc => by
      rcases List.mem_or_eq_of_mem_set hc with h | h
      · exact ho c h
      · subst h; exact xorL_len (ho _ (List.getElem_mem hpl)) hid) (fun c hc => by
      rcases List.mem_or_eq_of_mem_set hc with h | h
      · have := hb c h; omega
      · subst h; simp only [stepC]; omega) (by simp only [List.length_cons] at hm; omega)
    refine ⟨t, h1, h2, h3, fun c hc => ?_⟩
    have := h4 c hc
    simp only [List.length_cons]
    omega
theorem changed_some {l : List Cell} {id : List B} {by_ m : Int} (hid : id.length = 32) (hby : -1 ≤ by_ ∧ by_ ≤ 1) (hsz : sizedB l.length = true) (ho : ∀ c ∈ l, c.sum.length = 32) (hb : Bnd m l) (hm : m + 3 ≤ 1000000) :
    ∃ t, changed l id by_ = some t ∧ t.length = l.length ∧ (∀ c ∈ t, c.sum.length = 32) ∧ Bnd (m + 3) t := by
  obtain ⟨N, hN, h3, h48, hmod⟩ := sized_nat hsz
  have hN' : l.length = N := by omega
  have := putAt_some (N := l.length) (w := word id) hid hby (placesL l.length id) l m (fun p hp => by
    simp only [placesL, List.mem_cons, List.not_mem_nil, or_false] at hp
    rcases hp with rfl | rfl | rfl <;> exact place_lt_n (by omega) (by omega) id (by omega)) rfl ho hb (by simpa [placesL] using hm)
  simpa [placesL, changed] using this
theorem chk_of {s : Sketch} (hsz : sizedB s.l.length = true) (hb : Bnd 1000000 s.l) : chk s = 0 := by
  unfold chk
  rw [if_pos ⟨hsz, List.all_eq_true.2 fun c hc => by rw [inR_iff]; exact hb c hc⟩]
theorem put_of {s : Sketch} {id : List B} {by_ : Int} {t : List Cell} (h0 : chk s = 0) (h : changed s.l id by_ = some t) : put s id by_ = (some t, 0) := by unfold put; rw [if_pos h0, h]
/-- A sketch, valid, with bounded counts. -/
structure Good (N : Nat) (m : Int) (l : List Cell) : Prop where
  len : l.length = N
  sum : ∀ c ∈ l, c.sum.length = 32
  bnd : Bnd m l
def addAll (l : List Cell) (ids : List (List B)) : List Cell := ids.foldl (fun l i => (changed l i 1).getD []) l
theorem addAll_snoc (l : List Cell) (ids : List (List B)) (i : List B) : addAll l (ids ++ [i]) = (changed (addAll l ids) i 1).getD [] := by unfold addAll; rw [List.foldl_append]; rfl
theorem Good.step {N : Nat} {m : Int} {l : List Cell} (g : Good N m l) (hN : sizedB N = true) {id : List B} (hid : id.length = 32) {by_ : Int} (hby : -1 ≤ by_ ∧ by_ ≤ 1) (hm : m + 3 ≤ 1000000) :
    ∃ t, changed l id by_ = some t ∧ Good N (m + 3) t := by
  obtain ⟨t, h1, h2, h3, h4⟩ := changed_some hid hby (by rw [g.len]; exact hN) g.sum g.bnd hm
  exact ⟨t, h1, ⟨by rw [h2, g.len], h3, h4⟩⟩
theorem Good.add {N : Nat} (hN : sizedB N = true) : ∀ (ids : List (List B)) (m : Int) (l : List Cell), Good N m l → (∀ i ∈ ids, i.length = 32) → m + 3 * ids.length ≤ 1000000 → Good N (m + 3 * ids.length) (addAll l ids)
  | [], m, l, g, _, _ => by simpa [addAll] using g
  | i :: ids, m, l, g, hi, hm => by
    simp only [List.length_cons] at hm
    obtain ⟨t, h1, h2⟩ := g.step hN (hi i (by simp)) (by_ := 1) (by omega) (by omega)
    have := Good.add hN ids (m + 3) t h2 (fun j hj => hi j (by simp [hj])) (by omega)
    have e : addAll l (i :: ids) = addAll t ids := by unfold addAll; rw [List.foldl_cons, h1]; rfl
    rw [e]
    have e2 : m + 3 * ((i :: ids).length : Int) = m + 3 + 3 * ids.length := by simp only [List.length_cons]; omega
    rw [e2]; exact this
theorem Good.zero (N : Nat) : Good N 0 (List.replicate N zeroCell) := ⟨by simp, fun c hc => by rw [(List.mem_replicate.1 hc).2]; rfl, fun c hc => by rw [(List.mem_replicate.1 hc).2]; simp [zeroCell]⟩
def ofS (n : Int) (ids : List (List B)) : Sketch × Int :=
  match sizedB n with
  | false => (none, 2)
  | true => if 60 < ids.length then (none, 4) else (some (addAll (List.replicate n.toNat zeroCell) ids), 0)
theorem of_ok (n : Int) (ids : Ids) (ho : okIds ids) (hl : ids.l.length ≤ 1000000000) : PureC Tryd.prog GS 27 [.int .i64 n, encIds ids] (.tu [encSk (ofS n ids.l).1, .int .i64 (ofS n ids.l).2]) := by
  refine pure_of Tryd.checked.mixed GS_closed ?_
  apply call_intro c27_eq r27_eq
  unfold c27 r27 ofS
  have hlen : lenM (.sl 32) (encIds ids) = some (.int .i64 ids.l.length) := len_encS _
  simp
  refine pure_call (new_ok n) rfl ?_
  unfold newS
  cases hsz : sizedB n with
  | false =>
    simp
    exact rd_put0 rfl
  | true =>
    simp [hlen]
    by_cases h60 : 60 < ids.l.length
    · have h60' : (60 : Int) < ids.l.length := by omega
      simp [h60, h60']
      exact rd_put0 rfl
    · have h60' : ¬ (60 : Int) < ids.l.length := by omega
      simp [h60, h60', hlen]
      obtain ⟨N, rfl, h3, h48, hmod⟩ := sized_nat hsz
      simp only [Int.toNat_natCast]
      rw [if_neg h60]
      refine loop_up ids.l.length (fun k σ l => σ 6 = encSk (some (addAll (List.replicate N zeroCell) (ids.l.take k))) ∧ σ 21 = encIds ids ∧ σ 22 = .int .i64 ids.l.length ∧ σ 23 = .int .i64 k) ?_ (by simp [addAll])
      rintro k σ l hk ⟨g6, g21, g22, g23⟩
      obtain ⟨σ, rfl⟩ := upds4 g6 g21 g22 g23
      clear g6 g21 g22 g23
      unfold l27_0
      by_cases h : k < ids.l.length
      · obtain ⟨x, hx, hxm⟩ := get_of h
        have hwk : IntKind.i64.wrap ((k : Int) + 1) = (k + 1 : Nat) := wrap_i64 (by omega) (by omega)
        have hia : iaC (.sl 32) (encIds ids) (.int .i64 k) = some (.rptr (eId x) 0) := by unfold encIds; rw [ia_encS]; simp [hx]
        have hxl := ho x hxm
        have gk := Good.add hsz (ids.l.take k) 0 _ (Good.zero N) (fun i hi => ho i (List.mem_of_mem_take hi)) (by simp; omega)
        obtain ⟨t, h1, h2⟩ := gk.step hsz hxl (by_ := 1) (by omega) (by simp; omega)
        obtain ⟨cur, hcur⟩ : ∃ cur, cur = addAll (List.replicate N zeroCell) (ids.l.take k) := ⟨_, rfl⟩
        rw [← hcur] at gk h1
        have hchk : chk (some cur) = 0 := chk_of (by rw [Sv.l_some, gk.len]; exact hsz) (fun c hc => by have := gk.bnd c hc; simp at this; omega)
        have hput := put_of (s := some cur) hchk h1
        have hadd := add_ok (some cur) x (fun c hc => gk.sum c hc) (by rw [Sv.l_some, gk.len]; omega) hxl
        rw [hput] at hadd
        have hnext : addAll (List.replicate N zeroCell) (ids.l.take (k + 1)) = t := by
          rw [List.take_add_one, hx]; simp only [Option.toList_some]; rw [addAll_snoc, ← hcur, h1]; rfl
        have hI : (x.map e8).length = 32 := by simp [hxl]
        have hIc : closedL (x.map e8) = true := closedL_map e8 (fun _ => rfl) _
        unfold idC at hadd
        have hsp : splice (rep 32 (CV.int IntKind.u8 0)) 0 (x.map e8) = x.map e8 := splice_full (by simp [hxl])
        simp [h, hia, eId, hI, hxl, List.take_of_length_le, hsp, ← hcur]
        refine pure_call hadd (by simp [closedL, CV.closed, closed_sk, hIc]) ?_
        simp [h, hwk, hnext]
      · have hk' : k = ids.l.length := by omega
        subst hk'
        simp
        exact rd_tu2 (.same _ (closed_sk _)) (.same _ rfl)
end Sk
end Go.CM

/-
  Sketches: Sub, walked.
-/
namespace Go.CM
open Go Go.Proofs Go.Sort Go.Shelf
set_option linter.unusedVariables false
set_option linter.unusedSimpArgs false
set_option maxRecDepth 100000
namespace Sk
open Sha

def subC (c d : Cell) : Cell := ⟨c.count - d.count, xorL c.sum d.sum, c.check ^^^ d.check⟩
def subL (a b : List Cell) : List Cell := List.zipWith subC a b
def subS (a b : Sketch) : Sketch × Int :=
  if chk a = 0 then (if chk b = 0 then (if a.l.length = b.l.length then (if (subL a.l b.l).all inR = true then (some (subL a.l b.l), 0) else (none, 16)) else (none, 2)) else (none, chk b)) else (none, chk a)
theorem subL_get {a b : List Cell} {k : Nat} {x y : Cell} (hx : a[k]? = some x) (hy : b[k]? = some y) : (subL a b)[k]? = some (subC x y) := by unfold subL; rw [List.getElem?_zipWith, hx, hy]
theorem subL_len {a b : List Cell} (h : a.length = b.length) : (subL a b).length = a.length := by unfold subL; simp; omega
/-- The first ones are changed. -/
def subK (a b : List Cell) (k : Nat) : List Cell := (subL a b).take k ++ a.drop k
theorem subK_get {a b : List Cell} (h : a.length = b.length) {k : Nat} (hk : k < a.length) : (subK a b k)[k]? = a[k]? := by
  unfold subK
  have hl : (List.take k (subL a b)).length = k := by rw [List.length_take, subL_len h]; omega
  rw [List.getElem?_append_right (by omega), hl, List.getElem?_drop]; simp
theorem subK_set {a b : List Cell} (h : a.length = b.length) {k : Nat} {x y : Cell} (hx : a[k]? = some x) (hy : b[k]? = some y) : (subK a b k).set k (subC x y) = subK a b (k + 1) := by
  have hk := (List.getElem?_eq_some_iff.1 hx).1
  unfold subK
  have hl : (List.take k (subL a b)).length = k := by rw [List.length_take, subL_len h]; omega
  rw [List.set_append_right _ _ (by omega), hl, Nat.sub_self, List.drop_eq_getElem_cons hk, List.set_cons_zero, List.take_add_one, subL_get hx hy]
  simp
theorem subK_end {a b : List Cell} (h : a.length = b.length) : subK a b a.length = subL a b := by
  unfold subK
  rw [List.take_of_length_le (by rw [subL_len h]; exact Nat.le_refl _), List.drop_length, List.append_nil]
theorem all_of {l : List Cell} (h : ∀ (k : Nat) (c : Cell), l[k]? = some c → inR c = true) : l.all inR = true := by
  rw [List.all_eq_true]; intro c hc; obtain ⟨j, hj⟩ := List.mem_iff_getElem?.1 hc; exact h j c hj
theorem all_not {l : List Cell} {k : Nat} {c : Cell} (h : l[k]? = some c) (hc : inR c = false) : ¬ l.all inR = true := by
  rw [List.all_eq_true]; intro h2; have := h2 c (List.mem_of_getElem? h); rw [hc] at this; cases this

set_option maxHeartbeats 16000000 in
theorem sub_ok (a b : Sketch) (ha : okSk a) (hb : okSk b) (hla : a.l.length ≤ 1000000) (hlb : b.l.length ≤ 1000000) :
    PureC Tryd.prog GS 29 [encSk a, encSk b] (.tu [encSk (subS a b).1, .int .i64 (subS a b).2]) := by
  refine pure_of Tryd.checked.mixed GS_closed ?_
  apply call_intro c29_eq r29_eq
  unfold c29 r29
  have h1 : lenM (.sl 34) (encSk a) = some (.int .i64 a.l.length) := len_encS _
  have h2 : lenM (.sl 34) (encSk b) = some (.int .i64 b.l.length) := len_encS _
  have hca : (encSk a).closed = true := closed_sk a
  have hcb : (encSk b).closed = true := closed_sk b
  have hea : (encSk a).cells = some [encSk a] := by unfold encSk encS; cases a <;> rfl
  have heb : (encSk b).cells = some [encSk b] := by unfold encSk encS; cases b <;> rfl
  have hs1 : splice [CV.nilS, CV.nilS] 0 [encSk a] = [encSk a, .nilS] := rfl
  have hs2 : splice [encSk a, CV.nilS] 1 [encSk b] = [encSk a, encSk b] := rfl
  simp [hea, heb, hs1, hs2]
  refine loop_up 2 (fun k σ l => σ 0 = encSk a ∧ σ 1 = encSk b ∧ σ 14 = .sl 1 0 0 2 2 2 ∧ σ 15 = .int .i64 2 ∧ σ 16 = .int .i64 k ∧ l = [.cells 2 [encSk a, encSk b]] ∧ (1 ≤ k → chk a = 0) ∧ (2 ≤ k → chk b = 0)) ?_ (by simp)
  rintro k σ l hk ⟨g0, g1, g14, g15, g16, rfl, hA, hB⟩
  obtain ⟨σ, rfl⟩ := upds5 g0 g1 g14 g15 g16
  clear g0 g1 g14 g15 g16
  unfold l29_0
  match k, hk with
  | 0, _ =>
    simp
    refine pure_call (check_ok a ha (by omega)) (by simp [closedL, hca]) ?_
    rcases chk_8 a with h0 | h0
    · simp [h0]; rfl
    · have : subS a b = (none, 8) := by unfold subS; rw [if_neg (by rw [h0]; simp), h0]
      simp [h0, this]
      exact rd_put0 rfl
  | 1, _ =>
    have hA := hA (Nat.le_refl _)
    simp
    refine pure_call (check_ok b hb (by omega)) (by simp [closedL, hcb]) ?_
    rcases chk_8 b with h0 | h0
    · simp [h0, hA]; rfl
    · have : subS a b = (none, 8) := by unfold subS; rw [if_pos hA, if_neg (by rw [h0]; simp), h0]
      simp [h0, this]
      exact rd_put0 rfl
  | 2, _ =>
    have hA := hA (by omega)
    have hB := hB (by omega)
    simp [h1, h2]
    by_cases hab : a.l.length = b.l.length
    · have hab' : ((a.l.length : Int) = b.l.length) := by omega
      simp [hab']
      obtain ⟨hsz, hin⟩ := chk_0 hA
      obtain ⟨_, hinb⟩ := chk_0 hB
      obtain ⟨N, hN, h3, h48, hmod⟩ := sized_nat hsz
      have hN' : a.l.length = N := by omega
      refine cloneS_own ha (by omega) fun v j l' hown hll hfr hj hnil => ?_
      have hsn : isNilS v = false := by
        rw [hnil]
        cases a with
        | none => simp at hN'; omega
        | some l => rfl
      obtain ⟨n, cap, sz, cs0, rfl, _, _, hn, _⟩ := hown.view hsn
      have hnN : n = N := by rw [List.length_map] at hn; omega
      subst hnN
      clear hfr hj hnil hsn hll
      simp [h2]
      refine loop_up b.l.length (fun k σ l => σ 9 = .sl 34 j 0 n cap sz ∧ σ 33 = encSk b ∧ σ 34 = .int .i64 b.l.length ∧ σ 35 = .int .i64 k ∧ OwnS 34 l (.sl 34 j 0 n cap sz) j ((subK a.l b.l k).map encCell) ∧ ∀ (i : Nat) (c : Cell), i < k → (subL a.l b.l)[i]? = some c → inR c = true) ?_ ⟨by simp, by simp, by simp, by simp, by simpa [subK] using hown, fun i c hi => by omega⟩
      clear hown
      rintro k σ l hk ⟨g9, g33, g34, g35, hown, hall⟩
      obtain ⟨σ, rfl⟩ := upds4 g9 g33 g34 g35
      clear g9 g33 g34 g35
      unfold l29_1
      by_cases hkl : k < b.l.length
      · have hwk : IntKind.i64.wrap ((k : Int) + 1) = (k + 1 : Nat) := wrap_i64 (by omega) (by omega)
        obtain ⟨c, hc, hcm⟩ := get_of (l := a.l) (k := k) (by omega)
        obtain ⟨d, hd, hdm⟩ := get_of (l := b.l) (k := k) hkl
        have hcl := ha c hcm
        have hdl := hb d hdm
        have hcr := (inR_iff c).1 (hin c hcm)
        have hdr := (inR_iff d).1 (hinb d hdm)
        have hkg := subK_get (b := b.l) (a := a.l) (by omega) (k := k) (by omega)
        rw [hc] at hkg
        have hkn : k < n := by omega
        obtain ⟨_, _, _, A, B, hv, _, hlj, hA1, hle, hcsl, hback⟩ := hown.split (i := k) (e := encCell c) (by rw [List.getElem?_map, hkg]; rfl)
        cases hv
        have hdC : iaC (.sl 34) (encSk b) (.int .i64 k) = some (.rptr (encCell d) 0) := by unfold encSk; rw [ia_encS]; simp [hd]
        obtain ⟨D, hD⟩ : ∃ D, D = encCell d := ⟨_, rfl⟩
        obtain ⟨p1, p2, p3, p4⟩ := row_parts d hdl D hD
        obtain ⟨T, hT⟩ : ∃ T, T = d.sum.map e8 := ⟨_, rfl⟩
        have hTl : T.length = 32 := by rw [hT, List.length_map, hdl]
        have hTc : closedL T = true := by rw [hT]; exact closedL_map e8 (fun _ => rfl) _
        rw [← hT, List.drop_one] at p3
        rw [← hD] at hdC
        have hs34 : splice (CV.int IntKind.i64 0 :: (rep 32 (CV.int IntKind.u8 0) ++ [CV.int IntKind.u64 0])) 0 D = D := splice_full (by rw [p1]; rfl)
        obtain ⟨_, q2⟩ := List.getElem?_eq_some_iff.1 p2
        obtain ⟨_, q4⟩ := List.getElem?_eq_some_iff.1 p4
        unfold encCell at hlj hcsl
        obtain ⟨S, hS⟩ : ∃ S, S = c.sum.map e8 := ⟨_, rfl⟩
        have hSl : S.length = 32 := by rw [hS, List.length_map, hcl]
        rw [← hS] at hlj hcsl
        obtain ⟨c', hc'⟩ : ∃ c', c' = subC c d := ⟨_, rfl⟩
        obtain ⟨S', hS'⟩ : ∃ S', S' = c'.sum.map e8 := ⟨_, rfl⟩
        have hsl' : c'.sum.length = 32 := by rw [hc']; exact xorL_len hcl hdl
        have hSl' : S'.length = 32 := by rw [hS', List.length_map, hsl']
        have hjl := get_lt hlj
        obtain ⟨b34, hb34⟩ : ∃ b, b = k * 34 := ⟨_, rfl⟩
        rw [← hb34] at hA1 hle
        obtain ⟨o1, o2, _⟩ := row_ops A S B (.int .i64 c.count) (e64 c.check) b34 hA1 hSl
        obtain ⟨_, _, o3, o4, _⟩ := row_ops A S B (.int .i64 c'.count) (e64 c.check) b34 hA1 hSl
        obtain ⟨_, _, _, _, o5, o6⟩ := row_ops A S' B (.int .i64 c'.count) (e64 c.check) b34 hA1 hSl'
        obtain ⟨o7, _⟩ := row_ops A S' B (.int .i64 c'.count) (e64 c'.check) b34 hA1 hSl'
        have o2 := o2 (.int .i64 c'.count)
        have o4 := o4 S' hSl'
        have o6 := o6 (e64 c'.check)
        have l1 : (A ++ ((CV.int .i64 c'.count :: (S ++ [e64 c.check])) ++ B)).length = sz := by rw [← hcsl]; simp
        have l2 : (A ++ ((CV.int .i64 c'.count :: (S' ++ [e64 c.check])) ++ B)).length = sz := by rw [← hcsl]; simp [hSl, hSl']
        have l3 : (A ++ ((CV.int .i64 c'.count :: (S' ++ [e64 c'.check])) ++ B)).length = sz := by rw [← hcsl]; simp [hSl, hSl']
        have hback := hback (encCell c')
        obtain ⟨C0, hC0⟩ : ∃ C, C = A ++ ((CV.int .i64 c.count :: (S ++ [e64 c.check])) ++ B) := ⟨_, rfl⟩
        obtain ⟨C1, hC1⟩ : ∃ C, C = A ++ ((CV.int .i64 c'.count :: (S ++ [e64 c.check])) ++ B) := ⟨_, rfl⟩
        obtain ⟨C2, hC2⟩ : ∃ C, C = A ++ ((CV.int .i64 c'.count :: (S' ++ [e64 c.check])) ++ B) := ⟨_, rfl⟩
        obtain ⟨C3, hC3⟩ : ∃ C, C = A ++ ((CV.int .i64 c'.count :: (S' ++ [e64 c'.check])) ++ B) := ⟨_, rfl⟩
        rw [← hC0] at o1 o2 hlj hcsl
        rw [← hC1] at o2 o3 o4 l1
        rw [← hC2] at o4 o5 o6 l2
        rw [← hC3] at o6 o7 l3
        have hset := subK_set (a := a.l) (b := b.l) (by omega) hc hd
        rw [← hc'] at hset
        have hback3 : ∀ l', l'[j]? = some (CB.cells sz C3) → OwnS 34 l' (.sl 34 j 0 n cap sz) j ((subK a.l b.l (k + 1)).map encCell) := fun l' hl' => by
          rw [← hset, List.map_set]
          refine hback l' (cell_len hsl') ?_
          rw [hl', hC3, hS']; rfl
        have hwc : IntKind.i64.wrap (c.count - d.count) = c'.count := by rw [wrap_i64 (by omega) (by omega), hc']; rfl
        have hx := xor_ok c.sum d.sum hcl hdl
        have hxe : xorL c.sum d.sum = c'.sum := by rw [hc']; rfl
        rw [hxe] at hx
        unfold idC at hx
        rw [← hS, ← hS', ← hT] at hx
        have hSc : closedL S = true := by rw [hS]; exact closedL_map e8 (fun _ => rfl) _
        have hcheck : c.check ^^^ d.check = c'.check := by rw [hc']; rfl
        have hrg := ranged_ok c'.count
        have hinr : rangedB c'.count = inR c' := rfl
        rw [hinr] at hrg
        have q1 : b34 + 1 ≤ sz := by omega
        have q5 : b34 + 1 + 32 ≤ sz := by omega
        have q3 : b34 + 33 + 1 ≤ sz := by omega
        obtain ⟨_, hlj'⟩ := List.getElem?_eq_some_iff.1 hlj
        obtain ⟨L0, hL0⟩ : ∃ L, L = l ++ [CB.cells 34 D] := ⟨_, rfl⟩
        obtain ⟨m, hm⟩ : ∃ m, m = l.length := ⟨_, rfl⟩
        have hjL : j < L0.length := by rw [hL0]; simp; omega
        have hmL : m < L0.length := by rw [hL0]; simp; omega
        have hjm : j ≠ m := by omega
        have happ : L0[j]? = some (.cells sz C0) := by rw [hL0, List.getElem?_append_left hjl]; exact hlj
        have hmD : L0[m]? = some (.cells 34 D) := by rw [hL0, hm]; simp
        obtain ⟨_, happ'⟩ := List.getElem?_eq_some_iff.1 happ
        obtain ⟨_, hmD'⟩ := List.getElem?_eq_some_iff.1 hmD
        have hset0 : ∀ X : CB, (L0.set j X)[m]? = some (CB.cells 34 D) := fun X => by rw [List.getElem?_set_ne hjm]; exact hmD
        have hD33 : D[33]? = some (e64 d.check) := p4
        have hDS : (D.drop 1).take 32 = T := by rw [List.drop_one]; exact p3
        simp [hkl, hdC, p1, hs34, hkn, ← hb34, List.take_of_length_le, ← hL0, ← hm, happ', hmD', hmL, o1, q2, hwc, q1, o2, hjL, l1, hset0, hjm, o3, p3, q5]
        refine pure_call hx (by simp [closedL, CV.closed, hSc, hTc]) ?_
        simp [hjL, hSl', o4, l1, l2, q1, q5, q3, o5, p4, hcheck, o6, o7, l3, hset0, hkn, ← hb34]
        refine pure_call hrg rfl ?_
        have hcg : (subL a.l b.l)[k]? = some c' := by rw [hc']; exact subL_get hc hd
        cases hcase : inR c' with
        | false =>
          have : subS a b = (none, 16) := by unfold subS; rw [if_pos hA, if_pos hB, if_pos hab, if_neg (all_not hcg hcase)]
          rw [this]
          simp
          exact rd_put0 rfl
        | true =>
          simp [hkl, hwk]
          refine ⟨hback3 _ (List.getElem?_set_self hjL), fun i e hi he => ?_⟩
          rcases Nat.lt_or_ge i k with h5 | h5
          · exact hall i e h5 he
          · have : i = k := by omega
            subst this
            rw [hcg] at he; cases he; exact hcase
      · have hk' : k = b.l.length := by omega
        subst hk'
        have hall2 : (subL a.l b.l).all inR = true := all_of fun i c hi => hall i c (by have := (List.getElem?_eq_some_iff.1 hi).1; rw [subL_len hab] at this; omega) hi
        have hres : subS a b = (some (subL a.l b.l), 0) := by unfold subS; rw [if_pos hA, if_pos hB, if_pos hab, if_pos hall2]
        rw [← hab, subK_end hab] at hown
        rw [hres]
        simp
        exact rd_tu2 (hown.q.rd_enc closed_cell (some _) rfl rfl) (.same _ rfl)
    · have hab' : ¬ ((a.l.length : Int) = b.l.length) := by omega
      have : subS a b = (none, 2) := by unfold subS; rw [if_pos hA, if_pos hB, if_neg hab]
      simp [hab', this]
      exact rd_put0 rfl
end Sk
end Go.CM

/-
  Sets of ids that are maps of one's own.
-/
namespace Go.CM
open Go Go.Proofs
set_option linter.unusedVariables false
set_option linter.unusedSimpArgs false
set_option maxRecDepth 100000
open Sha Sk

theorem beqL_refl : ∀ l : List B, beqL (l.map e8) (l.map e8) = true
  | [] => rfl
  | x :: l => by
    have h1 : CV.beq (e8 x) (e8 x) = true := by simp [e8, CV.beq]
    show (CV.beq (e8 x) (e8 x) && beqL (l.map e8) (l.map e8)) = true
    rw [h1, beqL_refl l]; rfl
theorem beq_id (x : List B) : CV.beq (idC x) (idC x) = true := beqL_refl x
theorem fits_id {x : List B} (h : x.length = 32) : keyFits Tryd.prog 24 (idC x) = true := by
  have h1 : keyTy Tryd.prog 8 24 = true := by kernel_rfl
  have h2 : aggT Tryd.prog 24 = some true := by kernel_rfl
  have h3 : sizeT Tryd.prog 24 = some 32 := by kernel_rfl
  have h4 : (x.map e8).all plain1 = true := by rw [List.all_eq_true]; intro c hc; obtain ⟨b, _, rfl⟩ := List.mem_map.1 hc; rfl
  show (keyTy Tryd.prog 8 24 && (match aggT Tryd.prog 24, sizeT Tryd.prog 24 with | some true, some m => Nat.beq (x.map e8).length m | _, _ => false) && (x.map e8).all plain1) = true
  rw [h1, h2, h3, h4, List.length_map, h]
  rfl
/-- The entries of a set. -/
inductive Ents : List (CV × CV × Nat) → List (List B) → Prop
  | nil : Ents [] []
  | cons {es : List (CV × CV × Nat)} {ks : List (List B)} {k : List B} (n : Nat) (hk : k.length = 32) (h : Ents es ks) : Ents ((idC k, .bool true, n) :: es) (k :: ks)
theorem Ents.len {es : List (CV × CV × Nat)} {ks : List (List B)} (h : Ents es ks) : es.length = ks.length := by induction h <;> simp_all
theorem Ents.snoc {es : List (CV × CV × Nat)} {ks : List (List B)} (h : Ents es ks) {k : List B} (hk : k.length = 32) (n : Nat) : Ents (es ++ [(idC k, .bool true, n)]) (ks ++ [k]) := by
  induction h with
  | nil => exact .cons n hk .nil
  | cons m hk' h ih => exact .cons m hk' ih
theorem find_id {x : List B} (hx : x.length = 32) {es : List (CV × CV × Nat)} {ks : List (List B)} (h : Ents es ks) : ∀ i, (x ∈ ks → ∃ j, findC Tryd.prog 24 (idC x) es i = some (some (j, .bool true))) ∧ (x ∉ ks → findC Tryd.prog 24 (idC x) es i = some none) := by
  induction h with
  | nil => intro i; exact ⟨fun h => by simp at h, fun _ => rfl⟩
  | @cons es ks k n hk h ih =>
    intro i
    unfold findC
    rw [fits_id hk]
    simp only
    rw [show eqT Tryd.prog 10000 24 (idC x) (idC k) = some (decide (x = k)) from eq_id hx hk (D := 9998)]
    by_cases he : x = k
    · subst he
      simp only [decide_true, beq_id]
      exact ⟨fun _ => ⟨i, rfl⟩, fun h => absurd (by simp) h⟩
    · simp only [he, decide_false]
      obtain ⟨h1, h2⟩ := ih (i + 1)
      exact ⟨fun h => h1 (by simpa [he] using h), fun h => h2 (fun h' => h (by simp [h']))⟩
/-- A set of one's own. -/
structure OwnM (l : Hl) (j : Nat) (ks : List (List B)) : Prop where
  e : ∃ es ck, l[j]? = some (.map es ck) ∧ Ents es ks
theorem OwnM.look {l : Hl} {j : Nat} {ks : List (List B)} (h : OwnM l j ks) {x : List B} (hx : x.length = 32) : lookupL Tryd.prog l 24 (.bool false) false (.mp j) (idC x) = some (.bool (decide (x ∈ ks))) := by
  obtain ⟨es, ck, h1, h2⟩ := h.e
  have h3 : mapOfL l (.mp j) = some es := by simp [mapOfL, h1]
  unfold lookupL
  rw [h3]
  simp only [fits_id hx]
  obtain ⟨f1, f2⟩ := find_id hx h2 0
  by_cases hm : x ∈ ks
  · obtain ⟨i, hi⟩ := f1 hm
    rw [hi]; simp [hm]
  · rw [f2 hm]; simp [hm]
theorem OwnM.put {l : Hl} {j : Nat} {ks : List (List B)} (h : OwnM l j ks) {x : List B} (hx : x.length = 32) (hn : x ∉ ks) : ∃ c, mapUpdL Tryd.prog l 24 (.mp j) (idC x) (.bool true) = some (l.set j c) ∧ (∀ l' : Hl, l'[j]? = some c → OwnM l' j (ks ++ [x])) := by
  obtain ⟨es, ck, h1, h2⟩ := h.e
  unfold mapUpdL
  simp only [h1, fits_id hx, (find_id hx h2 0).2 hn]
  exact ⟨_, rfl, fun l' hl' => ⟨_, _, hl', h2.snoc hx _⟩⟩
theorem OwnM.len {l : Hl} {j : Nat} {ks : List (List B)} (h : OwnM l j ks) : lenMapL l (.mp j) = some (.int .i64 ks.length) := by
  obtain ⟨es, ck, h1, h2⟩ := h.e
  unfold lenMapL
  simp only [h1, h2.len]
theorem OwnM.frame {l l' : Hl} {j : Nat} {ks : List (List B)} (h : OwnM l j ks) (hj : l'[j]? = l[j]?) : OwnM l' j ks := by
  obtain ⟨es, ck, h1, h2⟩ := h.e
  exact ⟨es, ck, by rw [hj, h1], h2⟩
theorem OwnM.lt {l : Hl} {j : Nat} {ks : List (List B)} (h : OwnM l j ks) : j < l.length := by
  obtain ⟨es, ck, h1, h2⟩ := h.e
  exact (List.getElem?_eq_some_iff.1 h1).1
end Go.CM

/-
  Sketches: the reference's Less, In, SameIDs, with, next, walked.
-/
namespace Go.CM
open Go Go.Proofs Go.Sort Go.Shelf
set_option linter.unusedVariables false
set_option linter.unusedSimpArgs false
set_option maxRecDepth 100000
namespace Sk
open Sha

set_option maxHeartbeats 2000000 in
theorem less_ok (a b : List B) (ha : a.length = 32) (hb : b.length = 32) : PureC Tryd.prog GS 63 [idC a, idC b] (.bool (ltB a b)) := by
  refine pure_of Tryd.checked.mixed GS_closed ?_
  apply call_intro c63_eq r63_eq
  unfold c63 r63
  simp [idC, ha, hb]
  refine loop_up 32 (fun k σ l => σ 2 = .ptr 0 0 32 ∧ σ 3 = .ptr 1 0 32 ∧ σ 5 = .int .i64 k ∧ l = [.cells 32 (a.map e8), .cells 32 (b.map e8)] ∧ ∀ j, j < k → a[j]? = b[j]?) ?_ (by simp)
  rintro k σ l hk ⟨g2, g3, g5, rfl, hs⟩
  obtain ⟨σ, rfl⟩ := upds3 g2 g3 g5
  clear g2 g3 g5
  unfold l63_0
  by_cases hk32 : (k : Int) < 32
  · have hkn : k < 32 := by omega
    have hk31 : k ≤ 31 := by omega
    have hwk : IntKind.i64.wrap ((k : Int) + 1) = (k + 1 : Nat) := wrap_i64 (by omega) (by omega)
    obtain ⟨x, hx, _⟩ := get_of (l := a) (k := k) (by omega)
    obtain ⟨y, hy, _⟩ := get_of (l := b) (k := k) (by omega)
    have hd := cmpB_drop (a := a) (b := b) k hs (by omega) (by omega)
    rw [List.drop_eq_getElem_cons (l := a) (i := k) (by omega), List.drop_eq_getElem_cons (l := b) (i := k) (by omega), (List.getElem?_eq_some_iff.1 hx).2, (List.getElem?_eq_some_iff.1 hy).2, cmpB_cons] at hd
    have hlt : ltB a b = decide (cmpB a b < 0) := rfl
    simp [hk32, hk31, hkn, hx, hy, e8, u]
    by_cases hxy : x = y
    · subst hxy
      simp [hk32, hwk]
      refine ⟨hkn, fun j hj => ?_⟩
      by_cases hjk : j = k
      · subst hjk; rw [hx, hy]
      · exact hs j (by omega)
    · have hne : x.toNat ≠ y.toNat := fun h => hxy (BitVec.eq_of_toNat_eq h)
      have hne' : ¬ ((x.toNat : Int) = y.toNat) := by omega
      by_cases h1 : x.toNat < y.toNat
      · rw [if_pos h1] at hd
        simp [hne', hne, hk32, hk31, hkn, hx, hy, e8, u, h1]
        exact rd_bool (by rw [hlt, ← hd]; rfl)
      · rw [if_neg h1, if_pos (by omega)] at hd
        simp [hne', hne, hk32, hk31, hkn, hx, hy, e8, u, h1]
        exact rd_bool (by rw [hlt, ← hd]; rfl)
  · have hk' : k = 32 := by omega
    subst hk'
    have hab : a = b := by
      apply List.ext_getElem?
      intro j
      by_cases hj : j < 32
      · exact hs j hj
      · rw [List.getElem?_eq_none (by omega), List.getElem?_eq_none (by omega)]
    simp
    exact rd_bool (by subst hab; unfold ltB ltOf; rw [cmpB_self]; rfl)

theorem in_ok (s : Ids) (x : List B) (ho : okIds s) (hl : s.l.length ≤ 1000000) (hx : x.length = 32) : PureC Tryd.prog GS 39 [encIds s, idC x] (.bool (decide (x ∈ s.l))) := by
  refine pure_of Tryd.checked.mixed GS_closed ?_
  apply call_intro c39_eq r39_eq
  unfold c39 r39
  have hlen : lenM (.sl 32) (encIds s) = some (.int .i64 s.l.length) := len_encS _
  simp [idC, hx]
  refine loop_up s.l.length (fun k σ l => σ 0 = encIds s ∧ σ 3 = .ptr 0 0 32 ∧ σ 5 = .int .i64 k ∧ l = [.cells 32 (x.map e8)] ∧ ∀ (j : Nat) (y : List B), j < k → s.l[j]? = some y → y ≠ x) ?_ (by simp)
  rintro k σ l hk ⟨g0, g3, g5, rfl, hs⟩
  obtain ⟨σ, rfl⟩ := upds3 g0 g3 g5
  clear g0 g3 g5
  unfold l39_0
  by_cases h : k < s.l.length
  · obtain ⟨y, hy, hym⟩ := get_of h
    have hyl := ho y hym
    have hwk : IntKind.i64.wrap ((k : Int) + 1) = (k + 1 : Nat) := wrap_i64 (by omega) (by omega)
    have hia : iaC (.sl 32) (encIds s) (.int .i64 k) = some (.rptr (eId y) 0) := by unfold encIds; rw [ia_encS]; simp [hy]
    have heq := id_eql hyl hx
    unfold idC at heq
    simp [hlen, h, hia, eId, hyl, hx, List.take_of_length_le, heq]
    by_cases he : y = x
    · subst he
      have : y ∈ s.l := hym
      simp [this]
      exact rd_eq rfl rfl
    · simp [he, h, hwk]
      intro j z hj hz
      by_cases hjk : j = k
      · subst hjk; rw [hy] at hz; cases hz; exact he
      · exact hs j z (by omega) hz
  · have : x ∉ s.l := fun hm => by
      obtain ⟨j, hj⟩ := List.mem_iff_getElem?.1 hm
      exact hs j x (by have := (List.getElem?_eq_some_iff.1 hj).1; omega) hj rfl
    simp [hlen, h, this]
    exact rd_eq rfl rfl

theorem sameIds_ok (a b : Ids) (ha : okIds a) (hb : okIds b) (hl : a.l.length ≤ 1000000) : PureC Tryd.prog GS 33 [encIds a, encIds b] (.bool (decide (a.l = b.l))) := by
  refine pure_of Tryd.checked.mixed GS_closed ?_
  apply call_intro c33_eq r33_eq
  unfold c33 r33
  have hla : lenM (.sl 32) (encIds a) = some (.int .i64 a.l.length) := len_encS _
  have hlb : lenM (.sl 32) (encIds b) = some (.int .i64 b.l.length) := len_encS _
  by_cases h1 : a.l.length = b.l.length
  · have h1' : ((a.l.length : Int) = b.l.length) := by omega
    simp [hla, hlb, h1']
    refine loop_up a.l.length (fun k σ l => σ 0 = encIds a ∧ σ 1 = encIds b ∧ σ 5 = .int .i64 k ∧ ∀ j, j < k → a.l[j]? = b.l[j]?) ?_ (by simp)
    rintro k σ l hk ⟨g0, g1, g5, hs⟩
    obtain ⟨σ, rfl⟩ := upds3 g0 g1 g5
    clear g0 g1 g5
    unfold l33_0
    by_cases h : k < a.l.length
    · obtain ⟨x, hx, hxm⟩ := get_of h
      obtain ⟨y, hy, hym⟩ := get_of (l := b.l) (k := k) (by omega)
      have hwk : IntKind.i64.wrap ((k : Int) + 1) = (k + 1 : Nat) := wrap_i64 (by omega) (by omega)
      have hix : iaC (.sl 32) (encIds a) (.int .i64 k) = some (.rptr (eId x) 0) := by unfold encIds; rw [ia_encS]; simp [hx]
      have hiy : iaC (.sl 32) (encIds b) (.int .i64 k) = some (.rptr (eId y) 0) := by unfold encIds; rw [ia_encS]; simp [hy]
      have hcx := ha x hxm
      have hcy := hb y hym
      have hne := id_neq hcx hcy
      unfold idC at hne
      simp [hla, h, hix, hiy, eId, hcx, hcy, List.take_of_length_le, hne]
      by_cases he : x = y
      · simp [he, hla, h, hwk]
        intro j hj
        by_cases hjk : j = k
        · subst hjk; rw [hx, hy, he]
        · exact hs j (by omega)
      · simp [he]
        refine rd_bool (decide_eq_false fun hab => he ?_).symm
        rw [hab, hy] at hx; exact (Option.some.inj hx).symm
    · simp [hla, h]
      have : k = a.l.length := by omega
      subst this
      refine rd_bool (decide_eq_true ?_).symm
      apply List.ext_getElem?
      intro j
      by_cases hj : j < a.l.length
      · exact hs j hj
      · rw [List.getElem?_eq_none (by omega), List.getElem?_eq_none (by omega)]
  · have h1' : ¬ ((a.l.length : Int) = b.l.length) := by omega
    simp [hla, hlb, h1']
    exact rd_bool (decide_eq_false fun hab => h1 (by rw [hab])).symm

/-- The next pure cell. -/
def wants (s : List Cell) (done : List (List B)) (i : Nat) : Bool := match s[i]? with | some c => pureB s.length c i && !decide (c.sum ∈ done) | none => false
def nextN (s : List Cell) (done : List (List B)) : Option Nat := (List.range s.length).find? (wants s done)
def optI : Option Nat → Int | some i => i | none => -1
theorem find_range {p : Nat → Bool} {n k : Nat} (hk : k < n) (hp : p k = true) (hno : ∀ j, j < k → p j = false) : (List.range n).find? p = some k := by
  rw [List.find?_eq_some_iff_getElem]
  refine ⟨hp, k, by simpa using hk, by simp, fun j hj => ?_⟩
  simp [hno j hj]
end Sk
end Go.CM

/-
  Sketches: peeling, as data; the program's Peel, walked.
-/
namespace Go.CM
open Go Go.Proofs Go.Sort Go.Shelf
set_option linter.unusedVariables false
set_option linter.unusedSimpArgs false
set_option maxRecDepth 100000
namespace Sk
open Sha

/-- What peeling gives: an error, or the left ones, the right ones (in the order in which they are taken), and the rest. -/
abbrev PR := Int ⊕ (List (List B) × List (List B) × List Cell)
def peelR : Nat → List Cell → List (List B) → List (List B) → List (List B) → PR
  | 0, _, _, _, _ => .inl 0
  | f + 1, now, l, r, done => match nextN now done with
    | none => .inr (l, r, now)
    | some i => match now[i]? with
      | none => .inl 0
      | some c => match Nat.beq done.length 60 with
        | true => .inl 4
        | false => match changed now c.sum (-c.count) with
          | none => .inl 16
          | some t => match decide (0 < c.count) with
            | true => peelR f t (l ++ [c.sum]) r (done ++ [c.sum])
            | false => peelR f t l (r ++ [c.sum]) (done ++ [c.sum])
def sortB (l : List (List B)) : List (List B) := l.mergeSort fun x y => !ltB y x
def svB (l : List (List B)) : Ids := match l with | [] => none | a :: r => some (sortB (a :: r))
def peelE (s : Sketch) : PR := if chk s = 0 then peelR 62 s.l [] [] [] else .inl (chk s)
def peelC : PR → CV
  | .inl e => .tu [.nilS, .nilS, .nilS, .int .i64 e]
  | .inr (l, r, now) => .tu [encIds (svB l), encIds (svB r), encSk (some now), .int .i64 0]
theorem clone_ok (s : Sketch) (ho : okSk s) (hl : s.l.length ≤ 1000000000) : PureC Tryd.prog GS 56 [encSk s] (encSk s) := by
  refine pure_of Tryd.checked.mixed GS_closed ?_
  exact cloneS_own ho hl fun v j l' hown _ _ _ hnil => hown.q.rd_enc closed_cell s hnil rfl
theorem nextN_some {now : List Cell} {done : List (List B)} {i : Nat} (h : nextN now done = some i) : i < now.length ∧ wants now done i = true ∧ ∀ j, j < i → wants now done j = false := by
  unfold nextN at h
  obtain ⟨h1, k, hk, h2, h3⟩ := List.find?_eq_some_iff_getElem.1 h
  simp at h2 hk
  subst h2
  exact ⟨hk, h1, fun j hj => by have := h3 j hj; simpa using this⟩
theorem wants_iff {now : List Cell} {done : List (List B)} {i : Nat} {c : Cell} (hc : now[i]? = some c) : wants now done i = (pureB now.length c i && !decide (c.sum ∈ done)) := by unfold wants; rw [hc]
theorem pure_count {n : Nat} {c : Cell} {i : Nat} (h : pureB n c i = true) : c.count = 1 ∨ c.count = -1 := by
  unfold pureB at h; simp at h; exact h.1.1
theorem changed_len {l : List Cell} {id : List B} {by_ : Int} {t : List Cell} (h : changed l id by_ = some t) : t.length = l.length := by
  have go : ∀ (ps : List Nat) (w : Q) (l : List Cell) t, putAt id by_ w ps l = some t → t.length = l.length := by
    intro ps w
    induction ps with
    | nil => intro l t ht; cases ht; rfl
    | cons p ps ih =>
      intro l t ht
      unfold putAt at ht
      split at ht
      · cases ht
      · split at ht
        · have := ih _ t ht; simpa using this
        · cases ht
  exact go _ _ _ _ h
theorem changed_ok2 {l : List Cell} {id : List B} {by_ : Int} {t : List Cell} (hid : id.length = 32) (h : changed l id by_ = some t) (ho : ∀ c ∈ l, inR c = true ∧ c.sum.length = 32) : ∀ c ∈ t, inR c = true ∧ c.sum.length = 32 := by
  have go : ∀ (ps : List Nat) (w : Q) (l : List Cell), (∀ c ∈ l, inR c = true ∧ c.sum.length = 32) → ∀ t, putAt id by_ w ps l = some t → ∀ c ∈ t, inR c = true ∧ c.sum.length = 32 := by
    intro ps w
    induction ps with
    | nil => intro l hl t ht; cases ht; exact hl
    | cons p ps ih =>
      intro l hl t ht
      unfold putAt at ht
      split at ht
      · cases ht
      · rename_i c hc
        split at ht
        · rename_i hin
          refine ih _ (fun x hx => ?_) t ht
          rcases List.mem_or_eq_of_mem_set hx with h | h
          · exact hl x h
          · subst h; exact ⟨hin, xorL_len (hl c (List.mem_of_getElem? hc)).2 hid⟩
        · cases ht
  exact go _ _ _ ho _ h
/-- What a sketch is while it is peeled. -/
structure Now (N : Nat) (now : List Cell) : Prop where
  len : now.length = N
  sz : sizedB N = true
  c : ∀ c ∈ now, inR c = true ∧ c.sum.length = 32
theorem Now.chk {N : Nat} {now : List Cell} (h : Now N now) : chk (some now) = 0 := by
  unfold Sk.chk
  rw [if_pos ⟨by rw [Sv.l_some, h.len]; exact h.sz, List.all_eq_true.2 fun c hc => (h.c c hc).1⟩]
theorem Now.step {N : Nat} {now t : List Cell} {id : List B} {by_ : Int} (h : Now N now) (hid : id.length = 32) (ht : changed now id by_ = some t) : Now N t := ⟨by rw [changed_len ht, h.len], h.sz, changed_ok2 hid ht h.c⟩
theorem Now.of {s : Sketch} (h : Sk.chk s = 0) (ho : okSk s) : Now s.l.length s.l := by
  obtain ⟨h1, h2⟩ := chk_0 h
  exact ⟨rfl, h1, fun c hc => ⟨h2 c hc, ho c hc⟩⟩
/-- What is known between two rounds. -/
structure PI (N : Nat) (R : PR) (now : List Cell) (l r done : List (List B)) : Prop where
  nw : Now N now
  hd : done.length = l.length + r.length
  h60 : done.length ≤ 60
  ids : ∀ i ∈ done, i.length = 32
  li : ∀ i ∈ l, i.length = 32
  ri : ∀ i ∈ r, i.length = 32
  res : peelR (62 - done.length) now l r done = R
theorem neg_wrap {n : Int} (h : n = 1 ∨ n = -1) : IntKind.i64.wrap (-n) = -n := by rcases h with h | h <;> subst h <;> rfl
theorem idx_of : ∀ {xs : List (List B)}, (∀ i ∈ xs, i.length = 32) → ∃ ys : List Idx, ys.map (·.1) = xs
  | [], _ => ⟨[], rfl⟩
  | x :: xs, h => by
    obtain ⟨ys, hy⟩ := idx_of (xs := xs) fun i hi => h i (by simp [hi])
    exact ⟨⟨x, h x (by simp)⟩ :: ys, by simp [hy]⟩
theorem sorted_map (ys : List Idx) : (sorted cmpX ys).map (·.1) = sortB (ys.map (·.1)) := by
  unfold sorted sortB
  rw [List.map_mergeSort]
  intro a _ b _
  rfl
theorem sort_nil : PureN Tryd.prog GS 59 [.nilS, .fn 60 [] []] (.tu []) :=
  pureN_runs Tryd.checked.mixed GS_closed (noO_ok _ _) tbl_ok (fuel := 100) (k := 10) (by kernel_rfl)
theorem sort_call {l : Hl} {v : CV} {j : Nat} {xs : List (List B)} (hx : ∀ i ∈ xs, i.length = 32) (hl : xs.length ≤ 1000000) (hn : isNilS v = xs.isEmpty) (h : OwnS 32 l v j (xs.map eId)) {K : CV → Hl → Prop}
    (hK : ∀ l', l'.length = l.length → (∀ b, v = .nilS ∨ b ≠ j → l'[b]? = l[b]?) → OwnQ 32 l' v j ((sortB xs).map eId) → K (.tu []) l') : CallP Tryd.prog GS 59 [v, .fn 60 [] []] l (c := ⟨K⟩) := by
  by_cases hnil : xs = []
  · subst hnil
    have hvn : v = .nilS := isNil_iff.1 (by rw [hn]; rfl)
    subst hvn
    exact pure_call sort_nil.toC rfl (hK l rfl (fun _ _ => rfl) (by simpa [sortB] using OwnQ.nil j))
  · obtain ⟨ys, hy⟩ := idx_of hx
    have he : ys.map encX = xs.map eId := by rw [← hy, List.map_map]; rfl
    have hs : (sorted cmpX ys).map encX = (sortB xs).map eId := by rw [← hy, ← sorted_map, List.map_map]; rfl
    have hyl : ys.length = xs.length := by rw [← hy]; simp
    have hvn : v ≠ .nilS := fun hv => by subst hv; rw [show isNilS .nilS = true from rfl] at hn; exact hnil (by simpa using hn.symm)
    rw [← he] at h
    exact sortQ cmpX (sortL_ids (by intro args w; exact enters_of Tryd.func60 (by kernel_rfl) rfl args w)) swo_X anti_X encX_len encX_plain (fun x y => skcmp_ok x.1 y.1 x.2 y.2) h.q (by omega) (fun hn0 => absurd (by rw [← hy, hn0]; rfl) hnil)
      (fun l' h1 h2 h3 => hK l' h1 (fun b hb => h2 b (hb.resolve_left hvn)) (by rw [← hs]; exact h3))

/-- One of two slices of one's own grows; a set stands beside them. -/
theorem two_app {l : Hl} {va vb x : CV} {ja jb : Nat} {ea eb : List (List CV)} {I : List CV} {done : List (List B)} (ha : OwnS 32 l va ja ea) (hb : OwnS 32 l vb jb eb) (d : va = .nilS ∨ vb = .nilS ∨ ja ≠ jb) (om : OwnM l 0 done) (da : va = .nilS ∨ ja ≠ 0)
    (hx : contentsL l 32 x = some (([I] : List (List CV)).flatten, ([I] : List (List CV)).length)) (hI : I.length = 32) (hr : (ea.length + 1) * 32 ≤ roomMax) :
    ∃ v' j' l', appM l 32 32 va x = some (v', l') ∧ OwnS 32 l' v' j' (ea ++ [I]) ∧ OwnS 32 l' vb jb eb ∧ (v' = .nilS ∨ vb = .nilS ∨ j' ≠ jb) ∧ (v' = .nilS ∨ j' ≠ 0) ∧ isNilS v' = false ∧ OwnM l' 0 done ∧ l.length ≤ l'.length ∧ (∀ b, b < l.length → va = .nilS ∨ b ≠ ja → l'[b]? = l[b]?) := by
  obtain ⟨v', j', l', a1, a2, a3, a4, a5, a6⟩ := appS (by_ := 32) ha hx (by simp [hI]) (by omega) (by omega) (by simpa using hr)
  have hv' : isNilS v' = false := by rw [a6]; simp
  have hvn : v' ≠ .nilS := fun h => by rw [h] at hv'; cases hv'
  have h0 := om.lt
  refine ⟨v', j', l', a1, a2, ?_, ?_, ?_, hv', om.frame (a4 0 h0 (by rcases da with h | h; exact .inl h; exact .inr (fun h' => h h'.symm))), a3, a4⟩
  · rcases d with h | h | h
    · exact hb.frame fun hj => a4 jb hj (.inl h)
    · subst h
      have := hb.q.nil_of
      rw [this]; exact .nil jb
    · exact hb.frame fun hj => a4 jb hj (.inr fun h' => h h'.symm)
  · rcases hb.lt with h | h
    · exact .inr (.inl h)
    · rcases a5 with h' | h' | h'
      · exact .inr (.inr (by omega))
      · rcases d with h2 | h2 | h2
        · exact absurd h2 h'.1
        · exact .inr (.inl h2)
        · exact .inr (.inr (by rw [h'.2]; exact h2))
      · exact absurd h' hvn
  · rcases a5 with h' | h' | h'
    · exact .inr (by omega)
    · exact .inr (by rw [h'.2]; exact da.resolve_left h'.1)
    · exact absurd h' hvn

/-- What the machine holds between two rounds of the program's Peel. -/
structure PW (N : Nat) (R : PR) (k : Nat) (σ : Sg) (l : Hl) (now : List Cell) (lf rt done : List (List B)) (v2 : CV) (j2 : Nat) (v3 : CV) (j3 i : Nat) : Prop where
  g2 : σ 2 = v2
  g3 : σ 3 = v3
  g4 : σ 4 = encSk (some now)
  g7 : σ 7 = .mp 0
  g8 : σ 8 = .int .i64 i
  pi : PI N R now lf rt done
  om : OwnM l 0 done
  o2 : OwnS 32 l v2 j2 (lf.map eId)
  o3 : OwnS 32 l v3 j3 (rt.map eId)
  n2 : isNilS v2 = lf.isEmpty
  n3 : isNilS v3 = rt.isEmpty
  d2 : v2 = .nilS ∨ j2 ≠ 0
  d3 : v3 = .nilS ∨ j3 ≠ 0
  d23 : v2 = .nilS ∨ v3 = .nilS ∨ j2 ≠ j3
  hi : i ≤ N
  no : ∀ j, j < i → wants now done j = false
  hk : k ≤ done.length * 50 + i
theorem ldA_of {C : List CV} {c : Cell} (hc : c.sum.length = 32) (hC : C = encCell c) : C.length = 34 ∧ C[0]? = some (.int .i64 c.count) ∧ C.tail.take 32 = c.sum.map e8 ∧ C[33]? = some (e64 c.check) := by
  have := row_parts c hc C hC
  rw [List.drop_one] at this
  exact this
set_option maxHeartbeats 16000000 in
theorem peel_ok (s : Sketch) (ho : okSk s) (hl : s.l.length ≤ 1000000) : PureC Tryd.prog GS 31 [encSk s] (peelC (peelE s)) := by
  refine pure_of Tryd.checked.mixed GS_closed ?_
  apply call_intro c31_eq r31_eq
  unfold c31 r31
  have hcs := closed_sk s
  simp
  refine pure_call (check_ok s ho (by omega)) (by simp [closedL, hcs]) ?_
  rcases chk_8 s with h0 | h0
  · have hpe : peelE s = peelR 62 s.l [] [] [] := by unfold peelE; rw [if_pos h0]
    obtain ⟨R, hR⟩ : ∃ R, R = peelE s := ⟨_, rfl⟩
    rw [← hR] at hpe ⊢
    simp [h0]
    refine pure_call (clone_ok s ho (by omega)) (by simp [closedL, hcs]) ?_
    have hnow := Now.of h0 ho
    have hsn : s = some s.l := by
      cases s with
      | none => have := sized_nat hnow.sz; obtain ⟨N, hN, h3, _⟩ := this; simp at hN; omega
      | some l => rfl
    obtain ⟨N, hN, h3, h48, hmod⟩ := sized_nat hnow.sz
    simp
    refine loop_up 4000 (fun k σ l => ∃ now lf rt done v2 j2 v3 j3 i, PW s.l.length R k σ l now lf rt done v2 j2 v3 j3 i) ?_ ?_
    · rintro k σ l hk ⟨now, lf, rt, done, v2, j2, v3, j3, i, g2, g3, g4, g7, g8, pi, om, o2, o3, n2, n3, d2, d3, d23, hi, no, hkk⟩
      obtain ⟨σ, rfl⟩ := upds5 g2 g3 g4 g7 g8
      clear g2 g3 g4 g7 g8
      unfold l31_0
      have hlen : lenM (.sl 34) (encSk (some now)) = some (.int .i64 now.length) := len_encS _
      have hnl := pi.nw.len
      have h60 := pi.h60
      by_cases hin : i < now.length
      · have hwi : IntKind.i64.wrap ((i : Int) + 1) = (i + 1 : Nat) := wrap_i64 (by omega) (by omega)
        obtain ⟨c, hc, hcm⟩ := get_of hin
        obtain ⟨hcr, hcl⟩ := pi.nw.c c hcm
        have hia : iaC (.sl 34) (encSk (some now)) (.int .i64 i) = some (.rptr (encCell c) 0) := by unfold encSk; rw [ia_encS]; simp [hc]
        obtain ⟨C, hC⟩ : ∃ C, C = encCell c := ⟨_, rfl⟩
        obtain ⟨p1, p2, p3, p4⟩ := ldA_of hcl hC
        rw [← hC] at hia
        have hs34 : splice (CV.int IntKind.i64 0 :: (rep 32 (CV.int IntKind.u8 0) ++ [CV.int IntKind.u64 0])) 0 C = C := splice_full (by rw [p1]; rfl)
        obtain ⟨_, q2⟩ := List.getElem?_eq_some_iff.1 p2
        obtain ⟨L, hL⟩ : ∃ L, L = l ++ [CB.cells 34 C] := ⟨_, rfl⟩
        obtain ⟨m, hm⟩ : ∃ m, m = l.length := ⟨_, rfl⟩
        have hmL : L[m]? = some (CB.cells 34 C) := by rw [hL, hm]; simp
        have hLl : L.length = m + 1 := by rw [hL, hm]; simp
        have hom : OwnM L 0 done := om.frame (by rw [hL, List.getElem?_append_left om.lt])
        have ho2 : OwnS 32 L v2 j2 (lf.map eId) := by rw [hL]; exact o2.more _
        have ho3 : OwnS 32 L v3 j3 (rt.map eId) := by rw [hL]; exact o3.more _
        obtain ⟨I, hI⟩ : ∃ I, I = c.sum.map e8 := ⟨_, rfl⟩
        have hIl : I.length = 32 := by rw [hI, List.length_map, hcl]
        have hIc : closedL I = true := by rw [hI]; exact closedL_map e8 (fun _ => rfl) _
        rw [← hI] at p3
        have hlk := hom.look hcl
        unfold idC at hlk
        rw [← hI] at hlk
        simp [hlen, hin, hia, p1, hs34, List.take_of_length_le, ← hL, ← hm, hmL, p3, hlk]
        have hskip : wants now done i = false → k < 4000 ∧ ∃ now' lf' rt' done' v2' j2' v3' j3' i', PI s.l.length R now' lf' rt' done' ∧ now' = now ∧ lf' = lf ∧ rt' = rt ∧ done' = done ∧ v2' = v2 ∧ j2' = j2 ∧ v3' = v3 ∧ j3' = j3 ∧ i' = i + 1 := fun _ => ⟨by omega, _, _, _, _, _, _, _, _, _, pi, rfl, rfl, rfl, rfl, rfl, rfl, rfl, rfl, rfl⟩
        have hno1 : wants now done i = false → ∀ j, j < i + 1 → wants now done j = false := fun h j hj => by
          by_cases hji : j = i
          · subst hji; exact h
          · exact no j (by omega)
        have hw := wants_iff (done := done) hc
        by_cases hmem : c.sum ∈ done
        · have hw0 : wants now done i = false := by rw [hw]; simp [hmem]
          simp [hmem, hwi]
          exact ⟨by omega, now, lf, rt, done, v2, j2, v3, j3, i + 1, by simp, by simp, by simp, by simp, by simp, pi, hom, ho2, ho3, n2, n3, d2, d3, d23, by omega, hno1 hw0, by omega⟩
        · simp [hmem]
          have hpu := sketchPure_ok (some now) i (fun c hc => (pi.nw.c c hc).2) (by rw [Sv.l_some]; omega)
          rw [pureS_some pi.nw.chk hc] at hpu
          refine pure_call hpu (by simp [closedL, CV.closed, closed_sk]) ?_
          cases hpb : pureB now.length c i with
          | false =>
            have hw0 : wants now done i = false := by rw [hw, hpb]; rfl
            simp [hpb, hwi]
            exact ⟨by omega, now, lf, rt, done, v2, j2, v3, j3, i + 1, by simp, by simp, by simp, by simp, by simp, pi, hom, ho2, ho3, n2, n3, d2, d3, d23, by omega, hno1 hw0, by omega⟩
          | true =>
            have hw1 : wants now done i = true := by rw [hw, hpb]; simp [hmem]
            have hnx : nextN now done = some i := find_range hin hw1 no
            have hres := pi.res
            have hcnt := pure_count hpb
            have hlm := hom.len
            obtain ⟨f, hf⟩ : ∃ f, 62 - done.length = f + 1 := ⟨61 - done.length, by omega⟩
            rw [hf] at hres
            unfold peelR at hres
            rw [hnx] at hres
            simp only [hc] at hres
            by_cases h6 : done.length = 60
            · have h6' : ((done.length : Int) = 60) := by omega
              rw [nbeq_true h6] at hres
              simp only at hres
              rw [← hres]
              simp [hpb, hlm, h6', peelC]
              exact .same _ rfl
            · have h6' : ¬ ((done.length : Int) = 60) := by omega
              rw [nbeq_false h6] at hres
              simp only at hres
              have hput : PureC Tryd.prog GS 46 _ _ := put_ok (some now) c.sum (-c.count) (fun c hc => (pi.nw.c c hc).2) (by rw [Sv.l_some]; omega) hcl (by rcases hcnt with h | h <;> omega)
              have hput2 : put (some now) c.sum (-c.count) = match changed now c.sum (-c.count) with | some t => (some t, 0) | none => (none, 16) := by unfold put; rw [if_pos pi.nw.chk]; try rfl
              rw [hput2] at hput
              unfold idC at hput
              rw [← hI] at hput
              have hneg := neg_wrap hcnt
              simp [hpb, hlm, h6', hmL, p3, q2, p1, hIl, hneg]
              refine pure_call hput (by simp [closedL, CV.closed, closed_sk, hIc]) ?_
              cases hch : changed now c.sum (-c.count) with
              | none =>
                rw [hch] at hres
                rw [← hres]
                simp [peelC]
                exact .same _ rfl
              | some t =>
                rw [hch] at hres
                simp only at hres
                have hnt := pi.nw.step hcl hch
                have hr0 : roomMax = 140737488355328 := rfl
                obtain ⟨L1, hL1⟩ : ∃ L1, L1 = L ++ [CB.cells 32 I] := ⟨_, rfl⟩
                have hom1 : OwnM L1 0 done := hom.frame (by rw [hL1, List.getElem?_append_left hom.lt])
                have h21 : OwnS 32 L1 v2 j2 (lf.map eId) := by rw [hL1]; exact ho2.more _
                have h31 : OwnS 32 L1 v3 j3 (rt.map eId) := by rw [hL1]; exact ho3.more _
                have hm1 : L1[m]? = some (CB.cells 34 C) := by rw [hL1, List.getElem?_append_left (by omega)]; exact hmL
                have hL1l : L1.length = m + 2 := by rw [hL1]; simp [hLl]
                have hcI : contentsL L1 32 (.sl 32 L.length 0 1 1 32) = some (([I] : List (List CV)).flatten, ([I] : List (List CV)).length) := by
                  have : L1[L.length]? = some (CB.cells 32 I) := by rw [hL1]; simp
                  simp [contentsL, this, hIl, List.take_of_length_le]
                have hlt2 : v2 = .nilS ∨ m ≠ j2 := by rcases o2.lt with h | h; exact .inl h; exact .inr (by omega)
                have hlt3 : v3 = .nilS ∨ m ≠ j3 := by rcases o3.lt with h | h; exact .inl h; exact .inr (by omega)
                have hll := pi.hd
                have hPI2 : ∀ lf' rt', lf'.length + rt'.length = done.length + 1 → (∀ i ∈ lf', i.length = 32) → (∀ i ∈ rt', i.length = 32) → peelR f t lf' rt' (done ++ [c.sum]) = R → PI s.l.length R t lf' rt' (done ++ [c.sum]) := fun lf' rt' e1 e2 e3 e4 =>
                  ⟨hnt, by simp; omega, by simp; omega, fun i hi => (by rcases List.mem_append.1 hi with h | h; exact pi.ids i h; simp at h; subst h; exact hcl), e2, e3, by rw [show 62 - (done ++ [c.sum]).length = f by simp; omega]; exact e4⟩
                have hsnoc : ∀ xs : List (List B), (∀ i ∈ xs, i.length = 32) → ∀ i ∈ xs ++ [c.sum], i.length = 32 := fun xs hx i hi => by
                  rcases List.mem_append.1 hi with h | h
                  · exact hx i h
                  · simp at h; subst h; exact hcl
                have hmapI : ∀ xs : List (List B), (xs ++ [c.sum]).map eId = xs.map eId ++ [I] := fun xs => by rw [hI]; simp [eId]
                have hw0 : IntKind.i64.wrap (-1 + 1) = 0 := rfl
                have hk60 : done.length < 60 := by omega
                have hsp32 : splice (rep 32 (CV.int .u8 0)) 0 I = I := splice_full (by simp [hIl])
                rcases hcnt with h1 | h1
                · rw [h1] at hres
                  simp [hmL, p3, q2, p1, hIl, h1, hsp32, ← hL1]
                  obtain ⟨v', j', l', b1, b2, b3, b4, b5, b6, b7, b8, b9⟩ := two_app h21 h31 d23 hom1 d2 hcI hIl (by simp; omega)
                  simp [b1]
                  refine AppK.keep ?_
                  have fm : l'[m]? = some (CB.cells 34 C) := by rw [b9 m (by omega) hlt2]; exact hm1
                  obtain ⟨X, x1, x2⟩ := b7.put hcl hmem
                  unfold idC at x1
                  rw [← hI] at x1
                  have hset : ∀ b, b ≠ 0 → (l'.set 0 X)[b]? = l'[b]? := fun b hb => List.getElem?_set_ne (fun h => hb h.symm)
                  have h0l : 0 < l'.length := b7.lt
                  have hfr : ∀ {v : CV} {j : Nat} {es : List (List CV)}, OwnS 32 l' v j es → (v = .nilS ∨ j ≠ 0) → OwnS 32 (l'.set 0 X) v j es := fun ho hd => by
                    rcases hd with h | h
                    · subst h
                      have := ho.q.nil_of
                      rw [this]; exact .nil _
                    · exact ho.frame fun _ => hset _ h
                  simp [fm, p3, p1, x1, hw0]
                  refine ⟨by omega, t, lf ++ [c.sum], rt, done ++ [c.sum], v', j', v3, j3, 0, by simp, by simp, by simp, by simp, by simp; rfl, hPI2 _ _ (by simp; omega) (hsnoc _ pi.li) pi.ri hres, x2 _ (List.getElem?_set_self h0l), by rw [hmapI]; exact hfr b2 b5, hfr b3 d3, by rw [b6]; simp, n3, b5, d3, b4, by omega, fun j hj => by omega, by simp; omega⟩
                · rw [h1] at hres
                  simp [hmL, p3, q2, p1, hIl, h1, hsp32, ← hL1]
                  obtain ⟨v', j', l', b1, b2, b3, b4, b5, b6, b7, b8, b9⟩ := two_app h31 h21 (by rcases d23 with h | h | h; exact .inr (.inl h); exact .inl h; exact .inr (.inr fun h' => h h'.symm)) hom1 d3 hcI hIl (by simp; omega)
                  simp [b1]
                  refine AppK.keep ?_
                  have fm : l'[m]? = some (CB.cells 34 C) := by rw [b9 m (by omega) hlt3]; exact hm1
                  obtain ⟨X, x1, x2⟩ := b7.put hcl hmem
                  unfold idC at x1
                  rw [← hI] at x1
                  have hset : ∀ b, b ≠ 0 → (l'.set 0 X)[b]? = l'[b]? := fun b hb => List.getElem?_set_ne (fun h => hb h.symm)
                  have h0l : 0 < l'.length := b7.lt
                  have hfr : ∀ {v : CV} {j : Nat} {es : List (List CV)}, OwnS 32 l' v j es → (v = .nilS ∨ j ≠ 0) → OwnS 32 (l'.set 0 X) v j es := fun ho hd => by
                    rcases hd with h | h
                    · subst h
                      have := ho.q.nil_of
                      rw [this]; exact .nil _
                    · exact ho.frame fun _ => hset _ h
                  simp [fm, p3, p1, x1, hw0]
                  refine ⟨by omega, t, lf, rt ++ [c.sum], done ++ [c.sum], v2, j2, v', j', 0, by simp, by simp, by simp, by simp, by simp; rfl, hPI2 _ _ (by simp; omega) pi.li (hsnoc _ pi.ri) hres, x2 _ (List.getElem?_set_self h0l), hfr b3 d2, by rw [hmapI]; exact hfr b2 b5, n2, by rw [b6]; simp, d2, b5, (by rcases b4 with h | h | h; exact .inr (.inl h); exact .inl h; exact .inr (.inr fun h' => h h'.symm)), by omega, fun j hj => by omega, by simp; omega⟩
      · have hi' : i = now.length := by omega
        subst hi'
        have hnx : nextN now done = none := by
          unfold nextN
          rw [List.find?_eq_none]
          intro j hj
          rw [no j (by simpa using hj)]; simp
        have hres := pi.res
        obtain ⟨f, hf⟩ : ∃ f, 62 - done.length = f + 1 := ⟨61 - done.length, by omega⟩
        rw [hf] at hres
        unfold peelR at hres
        rw [hnx] at hres
        simp only at hres
        simp [hlen]
        have hll : lf.length ≤ 60 := by have := pi.hd; omega
        have hrl : rt.length ≤ 60 := by have := pi.hd; omega
        have hg : ∀ (xs : List (List B)) (l : Hl) (v : CV) (j : Nat), isNilS v = xs.isEmpty → OwnQ 32 l v j ((sortB xs).map eId) → Rd l v (encIds (svB xs)) := fun xs l v j hn ho => by
          cases xs with
          | nil =>
            have : v = .nilS := isNil_iff.1 (by rw [hn]; rfl)
            subst this
            exact .same _ rfl
          | cons x xs => exact ho.rd_enc closed_eId (some (sortB (x :: xs))) (by rw [hn]; rfl) rfl
        refine sort_call pi.li (by omega) n2 o2 fun l1 c1 c2 c3 => ?_
        simp
        have o3' : OwnS 32 l1 v3 j3 (rt.map eId) := by
          rcases d23 with h | h | h
          · exact o3.frame fun _ => c2 j3 (.inl h)
          · subst h
            have := o3.q.nil_of
            rw [this]; exact .nil j3
          · exact o3.frame fun _ => c2 j3 (.inr fun h' => h h'.symm)
        refine sort_call pi.ri (by omega) n3 o3' fun l2 e1 e2 e3 => ?_
        simp
        have c3' : OwnQ 32 l2 v2 j2 ((sortB lf).map eId) := by
          refine c3.frame2 ?_
          rcases d23 with h | h | h
          · exact .inl h
          · exact .inr (e2 j2 (.inl h))
          · exact .inr (e2 j2 (.inr h))
        rw [← hres]
        exact .tu _ _ rfl fun j c c' hj hj' => by
          match j with
          | 0 => simp at hj hj'; subst hj hj'; exact hg lf l2 v2 j2 n2 c3'
          | 1 => simp at hj hj'; subst hj hj'; exact hg rt l2 v3 j3 n3 e3
          | 2 => simp at hj hj'; subst hj hj'; exact .same _ (closed_sk _)
          | 3 => simp at hj hj'; subst hj hj'; exact .same _ rfl
          | j + 4 => simp at hj
    · refine ⟨s.l, [], [], [], .nilS, 1, .nilS, 1, 0, by simp, by simp, by simp [← hsn], by simp, by simp, ⟨hnow, rfl, by simp, by simp, by simp, by simp, hpe.symm⟩, ⟨[], 0, by simp, .nil⟩, .nil 1, .nil 1, rfl, rfl, .inl rfl, .inl rfl, .inl rfl, by omega, fun j hj => by omega, by omega⟩
  · have hpe : peelE s = .inl 8 := by unfold peelE; rw [if_neg (by rw [h0]; simp), h0]
    rw [hpe]
    simp [h0, peelC]
    exact .same _ rfl
end Sk
end Go.CM

/-
  Sketches: sorted lists of ids; the reference's Peel, walked.
-/
namespace Go.CM
open Go Go.Proofs Go.Sort Go.Shelf
set_option linter.unusedVariables false
set_option linter.unusedSimpArgs false
set_option maxRecDepth 100000
namespace Sk
open Sha

def leB (x y : List B) : Bool := !ltB y x
theorem leB_trans (a b c : List B) (h1 : leB a b = true) (h2 : leB b c = true) : leB a c = true := by
  unfold leB ltB at *
  simp only [Bool.not_eq_true'] at *
  exact swo_cmpB.ntrans c b a h2 h1
theorem leB_total (a b : List B) : (leB a b || leB b a) = true := by
  unfold leB ltB ltOf
  have := cmpB_swap a b
  by_cases h : cmpB a b < 0
  · simp; omega
  · simp; omega
theorem leB_anti (a b : List B) (h1 : leB a b = true) (h2 : leB b a = true) : a = b := by
  unfold leB ltB at *
  simp only [Bool.not_eq_true'] at *
  exact anti_cmpB a b h2 h1
theorem not_lt_le {a b : List B} (h : ltB a b = false) : leB b a = true := by unfold leB; rw [h]; rfl
theorem sortB_pw (l : List (List B)) : (sortB l).Pairwise fun a b => leB a b = true := List.pairwise_mergeSort (le := leB) leB_trans leB_total l
theorem sortB_perm (l : List (List B)) : (sortB l).Perm l := List.mergeSort_perm l _
theorem svB_l (l : List (List B)) : (svB l).l = sortB l := by
  cases l with
  | nil => simp [svB, sortB]
  | cons a r => rfl
/-- What the machine holds between two rounds of the reference's Peel. -/
structure QW (N : Nat) (R : PR) (k : Nat) (σ : Sg) (l : Hl) (now : List Cell) (lf rt done : List (List B)) (vd : CV) (jd : Nat) : Prop where
  g7 : σ 7 = encIds (svB lf)
  g8 : σ 8 = encIds (svB rt)
  g9 : σ 9 = vd
  g10 : σ 10 = encSk (some now)
  g11 : σ 11 = .int .i64 (optI (nextN now done))
  pi : PI N R now lf rt done
  od : OwnS 32 l vd jd (done.map eId)
  nd : isNilS vd = done.isEmpty
  hk : k = done.length
theorem okSv {l : List (List B)} (h : ∀ i ∈ l, i.length = 32) : okIds (svB l) := fun i hi => by rw [svB_l] at hi; exact h i ((sortB_perm l).mem_iff.1 hi)
theorem lenSv (l : List (List B)) : (svB l).l.length = l.length := by rw [svB_l]; exact (sortB_perm l).length_eq
end Sk
end Go.CM

/-
  Sketches: SketchPeels, walked.
-/
namespace Go.CM
open Go Go.Proofs Go.Sort Go.Shelf
set_option linter.unusedVariables false
set_option linter.unusedSimpArgs false
set_option maxRecDepth 100000
namespace Sk
open Sha

theorem tyA_ids {ts : List TypeId} {cs : List CV} (h : TyA Tryd.prog (50 :: ts) cs) : ∃ (s : Ids) (cs' : List CV), cs = encIds s :: cs' ∧ okIds s ∧ TyA Tryd.prog ts cs' := by
  obtain ⟨c, cs', rfl, h1, h2⟩ := tyA_cons h
  obtain ⟨s, cs1, hs, hl, hi, h3⟩ := ty_sl (e := 24) (z := 32) (enc := eId) (Q := fun x => x.length = 32) (by kernel_rfl) (by kernel_rfl) ty_id (tyV_one (by kernel_rfl) h1)
  cases hs
  exact ⟨s, cs', rfl, hi, h2⟩
def pL : PR → Ids | .inl _ => none | .inr (l, _, _) => svB l
def pR : PR → Ids | .inl _ => none | .inr (_, r, _) => svB r
def pN : PR → Sketch | .inl _ => none | .inr (_, _, n) => some n
def pE : PR → Int | .inl e => e | .inr _ => 0
theorem peelC_eq (R : PR) : peelC R = .tu [encIds (pL R), encIds (pR R), encSk (pN R), .int .i64 (pE R)] := by
  cases R with
  | inl e => rfl
  | inr x => rfl
end Sk
end Go.CM

/-
  Sketches, plain: a sketch is a sum over its ids, cell by cell.
-/
namespace Go.CM
open Go Go.Proofs Go.Sort Go.Shelf
set_option linter.unusedVariables false
set_option linter.unusedSimpArgs false
set_option maxRecDepth 100000
namespace Sk
open Sha

/-! ### Exclusive or, cells -/
theorem xorL_comm (a b : List B) : xorL a b = xorL b a := by
  unfold xorL
  rw [List.zipWith_comm]
  congr 1
  funext x y
  exact BitVec.xor_comm y x
theorem xorL_assoc : ∀ a b c : List B, xorL (xorL a b) c = xorL a (xorL b c)
  | [], b, c => by simp [xorL]
  | a :: x, [], c => by simp [xorL]
  | a :: x, b :: y, [] => by simp [xorL]
  | a :: x, b :: y, c :: z => by
    have := xorL_assoc x y z
    simp only [xorL, List.zipWith_cons_cons] at this ⊢
    rw [this, BitVec.xor_assoc]
theorem xorL_self : ∀ a : List B, xorL a a = List.replicate a.length 0#8
  | [] => rfl
  | a :: x => by
    have := xorL_self x
    simp only [xorL, List.zipWith_cons_cons, List.length_cons, List.replicate_succ] at this ⊢
    rw [this, BitVec.xor_self]
theorem xorL_zero : ∀ a : List B, xorL a (List.replicate a.length 0#8) = a
  | [] => rfl
  | a :: x => by
    have := xorL_zero x
    simp only [xorL, List.length_cons, List.replicate_succ, List.zipWith_cons_cons] at this ⊢
    rw [this, BitVec.xor_zero]
def addC (c d : Cell) : Cell := ⟨c.count + d.count, xorL c.sum d.sum, c.check ^^^ d.check⟩
theorem addC_comm (a b : Cell) : addC a b = addC b a := by unfold addC; rw [Int.add_comm, xorL_comm, BitVec.xor_comm]
theorem addC_assoc (a b c : Cell) : addC (addC a b) c = addC a (addC b c) := by unfold addC; simp only [Int.add_assoc, xorL_assoc, BitVec.xor_assoc]
theorem addC_right (a b c : Cell) : addC (addC a b) c = addC (addC a c) b := by rw [addC_assoc, addC_comm b c, addC_assoc]
theorem addC_zero {a : Cell} (h : a.sum.length = 32) : addC a zeroCell = a := by
  have h1 : xorL a.sum (List.replicate 32 0#8) = a.sum := by rw [← h]; exact xorL_zero _
  unfold addC
  show (⟨a.count + 0, xorL a.sum (List.replicate 32 0#8), a.check ^^^ 0#64⟩ : Cell) = a
  rw [h1, BitVec.xor_zero, Int.add_zero]
def negC (c : Cell) : Cell := ⟨-c.count, c.sum, c.check⟩
theorem addC_neg {a : Cell} (h : a.sum.length = 32) : addC a (negC a) = zeroCell := by
  unfold addC negC
  simp only [xorL_self, h, BitVec.xor_self]
  rw [Int.add_right_neg]; rfl
theorem subC_add (a b : Cell) : subC a b = addC a (negC b) := rfl
theorem addC_len {a b : Cell} (ha : a.sum.length = 32) (hb : b.sum.length = 32) : (addC a b).sum.length = 32 := xorL_len ha hb
/-- What an id puts into a cell. -/
def one (n : Nat) (x : List B) (by_ : Int) (i : Nat) : Cell := if i ∈ placesL n x then ⟨by_, x, word x⟩ else zeroCell
theorem one_len {n : Nat} {x : List B} (h : x.length = 32) (by_ : Int) (i : Nat) : (one n x by_ i).sum.length = 32 := by unfold one; split; exact h; rfl
theorem one_neg (n : Nat) (x : List B) (by_ : Int) (i : Nat) : negC (one n x by_ i) = one n x (-by_) i := by unfold one; split <;> rfl
/-- A list of cells is got from a function of the place. -/
def tab (n : Nat) (f : Nat → Cell) : List Cell := (List.range n).map f
theorem tab_len (n : Nat) (f : Nat → Cell) : (tab n f).length = n := by simp [tab]
theorem tab_get {n : Nat} {f : Nat → Cell} {i : Nat} (h : i < n) : (tab n f)[i]? = some (f i) := by unfold tab; rw [List.getElem?_map, List.getElem?_range h]; rfl
theorem tab_ext {n : Nat} {f g : Nat → Cell} (h : ∀ i, i < n → f i = g i) : tab n f = tab n g := by
  unfold tab; exact List.map_congr_left fun i hi => h i (by simpa using hi)
theorem tab_of (l : List Cell) : l = tab l.length fun i => l.getD i zeroCell := by
  apply List.ext_getElem?
  intro i
  by_cases h : i < l.length
  · rw [tab_get h, List.getD_eq_getElem?_getD, List.getElem?_eq_getElem h]; rfl
  · rw [List.getElem?_eq_none (by omega), List.getElem?_eq_none (by rw [tab_len]; omega)]
theorem tab_mem {n : Nat} {f : Nat → Cell} {c : Cell} (h : c ∈ tab n f) : ∃ i, i < n ∧ c = f i := by
  unfold tab at h
  obtain ⟨i, hi, rfl⟩ := List.mem_map.1 h
  exact ⟨i, by simpa using hi, rfl⟩
theorem tab_sub {n : Nat} (f g : Nat → Cell) : subL (tab n f) (tab n g) = tab n fun i => subC (f i) (g i) := by
  unfold subL tab
  rw [List.zipWith_map, List.zipWith_self]
theorem tab_zero (n : Nat) : List.replicate n zeroCell = tab n fun _ => zeroCell := by
  unfold tab; rw [List.map_const']; simp

/-- The three places are different. -/
theorem places_ne {n : Nat} (h3 : 3 ≤ n) (x : List B) : place n x 0 ≠ place n x 1 ∧ place n x 0 ≠ place n x 2 ∧ place n x 1 ≠ place n x 2 := by
  have h0 := place_lt h3 x (r := 0)
  have h1 := place_lt h3 x (r := 1)
  have h2 := place_lt h3 x (r := 2)
  refine ⟨?_, ?_, ?_⟩ <;> omega
theorem putAt_tab {N : Nat} {x : List B} {by_ : Int} {w : Q} (hx : x.length = 32) (hby : -1 ≤ by_ ∧ by_ ≤ 1) : ∀ (ps : List Nat) (f : Nat → Cell), ps.Nodup → (∀ p ∈ ps, p < N) → (∀ i, i < N → -999999 ≤ (f i).count ∧ (f i).count ≤ 999999) → (∀ i, i < N → (f i).sum.length = 32) →
    putAt x by_ w ps (tab N f) = some (tab N fun i => if i ∈ ps then addC (f i) ⟨by_, x, w⟩ else f i)
  | [], f, _, _, _, _ => by simp [putAt]
  | p :: ps, f, hnd, hp, hb, ho => by
    have hpN := hp p (by simp)
    obtain ⟨h1, h2⟩ := List.nodup_cons.1 hnd
    unfold putAt
    rw [tab_get hpN]
    simp only
    have hbp := hb p hpN
    have hin : inR (stepC (f p) x by_ w) = true := by rw [inR_iff]; simp only [stepC]; omega
    rw [hin]
    simp only
    have hset : (tab N f).set p (stepC (f p) x by_ w) = tab N (fun i => if i = p then stepC (f p) x by_ w else f i) := by
      apply List.ext_getElem?
      intro i
      rw [List.getElem?_set]
      by_cases hip : p = i
      · subst hip
        rw [if_pos rfl, tab_len, if_pos hpN, tab_get hpN, if_pos rfl]
      · rw [if_neg hip]
        by_cases hiN : i < N
        · rw [tab_get hiN, tab_get hiN, if_neg (fun h => hip h.symm)]
        · rw [List.getElem?_eq_none (by rw [tab_len]; omega), List.getElem?_eq_none (by rw [tab_len]; omega)]
    have go : ∀ (qs : List Nat) (g h : Nat → Cell), (∀ q ∈ qs, g q = h q ∧ q < N) → qs.Nodup → (∀ q ∈ qs, -999999 ≤ (g q).count ∧ (g q).count ≤ 999999) → putAt x by_ w qs (tab N h) = some (tab N fun i => if i ∈ qs then addC (g i) ⟨by_, x, w⟩ else h i) := by
      intro qs
      induction qs with
      | nil => intro g h _ _ _; simp [putAt]
      | cons q qs ih =>
        intro g h hg hnd hb
        obtain ⟨n1, n2⟩ := List.nodup_cons.1 hnd
        obtain ⟨e1, e2⟩ := hg q (by simp)
        have hbq := hb q (by simp)
        unfold putAt
        rw [tab_get e2]
        simp only
        have hin : inR (stepC (h q) x by_ w) = true := by rw [inR_iff, ← e1]; simp only [stepC]; omega
        rw [hin]
        simp only
        have hset : (tab N h).set q (stepC (h q) x by_ w) = tab N (fun i => if i = q then stepC (h q) x by_ w else h i) := by
          apply List.ext_getElem?
          intro i
          rw [List.getElem?_set]
          by_cases hip : q = i
          · subst hip
            rw [if_pos rfl, tab_len, if_pos e2, tab_get e2, if_pos rfl]
          · rw [if_neg hip]
            by_cases hiN : i < N
            · rw [tab_get hiN, tab_get hiN, if_neg (fun h => hip h.symm)]
            · rw [List.getElem?_eq_none (by rw [tab_len]; omega), List.getElem?_eq_none (by rw [tab_len]; omega)]
        rw [hset, ih g _ (fun r hr => ⟨by rw [(hg r (by simp [hr])).1, if_neg (fun h => n1 (by rw [← h]; exact hr))], (hg r (by simp [hr])).2⟩) n2 (fun r hr => hb r (by simp [hr]))]
        congr 1
        refine tab_ext fun i hi => ?_
        by_cases hiq : i = q
        · subst hiq
          rw [if_neg n1, if_pos rfl, if_pos (by simp), e1]
          rfl
        · by_cases hiqs : i ∈ qs
          · rw [if_pos hiqs, if_pos (by simp [hiqs])]
          · rw [if_neg hiqs, if_neg hiq, if_neg (by simp [hiq, hiqs])]
    rw [hset, go ps f _ (fun q hq => ⟨by rw [if_neg (fun h => h1 (by rw [← h]; exact hq))], hp q (by simp [hq])⟩) h2 (fun q hq => hb q (hp q (by simp [hq])))]
    congr 1
    refine tab_ext fun i hi => ?_
    by_cases hip : i = p
    · subst hip
      rw [if_neg h1, if_pos rfl, if_pos (by simp)]
      rfl
    · by_cases hiqs : i ∈ ps
      · rw [if_pos hiqs, if_pos (by simp [hiqs])]
      · rw [if_neg hiqs, if_neg hip, if_neg (by simp [hip, hiqs])]
/-- Adding or removing an id, as a sum. -/
theorem changed_tab {N : Nat} (hN : sizedB N = true) {x : List B} {by_ : Int} (hx : x.length = 32) (hby : -1 ≤ by_ ∧ by_ ≤ 1) (f : Nat → Cell) (hb : ∀ i, i < N → -999999 ≤ (f i).count ∧ (f i).count ≤ 999999) (ho : ∀ i, i < N → (f i).sum.length = 32) :
    changed (tab N f) x by_ = some (tab N fun i => addC (f i) (one N x by_ i)) := by
  obtain ⟨M, hM, h3, h48, hmod⟩ := sized_nat hN
  have hM' : N = M := by omega
  subst hM'
  obtain ⟨d1, d2, d3⟩ := places_ne h3 x
  unfold changed
  rw [tab_len, putAt_tab hx hby (placesL N x) f (by simp [placesL, d1, d2, d3]) (fun p hp => by
    simp only [placesL, List.mem_cons, List.not_mem_nil, or_false] at hp
    rcases hp with rfl | rfl | rfl <;> exact place_lt_n h3 hmod x (by omega)) hb ho]
  congr 1
  refine tab_ext fun i hi => ?_
  unfold one
  split
  · rfl
  · rw [addC_zero (ho i hi)]
end Sk
end Go.CM

/-
  Sketches: calls without unknowns, carried out.
-/
namespace Go.CM
open Go Go.Proofs
set_option linter.unusedVariables false
set_option linter.unusedSimpArgs false
set_option maxRecDepth 1000000
namespace Sk
open Sha

def xorF : List CV → Option CV
  | [a, b] => match idOf a, idOf b with
    | some a, some b => some (idC (xorL a b))
    | _, _ => none
  | _ => none
abbrev xorO : FuncId × Bool × (List CV → Option CV) := (57, false, xorF)
theorem xorO_ok : OrcP Tryd.prog GS xorO := by
  intro args r h
  refine ⟨?_, fun h => by cases h⟩
  simp only [xorF] at h
  split at h
  · split at h
    · rename_i a b ha hb
      cases h
      obtain ⟨rfl, h1⟩ := idOf_ok ha
      obtain ⟨rfl, h2⟩ := idOf_ok hb
      exact xor_ok _ _ h1 h2
    · cases h
  · cases h
def wordF : List CV → Option CV
  | [a] => match idOf a with
    | some a => some (.tu [e64 (word a), .int .i64 0])
    | none => none
  | _ => none
abbrev wordO : FuncId × Bool × (List CV → Option CV) := (15, false, wordF)
theorem wordO_ok : OrcP Tryd.prog GS wordO := by
  intro args r h
  refine ⟨?_, fun h => by cases h⟩
  simp only [wordF] at h
  split at h
  · split at h
    · rename_i a ha
      cases h
      obtain ⟨rfl, h1⟩ := idOf_ok ha
      exact word_ok _ h1
    · cases h
  · cases h
def placesF : List CV → Option CV
  | [.int .i64 n, a] => match idOf a with
    | some a => some (match sizedB n with | true => .tu [placesC n.toNat a, .int .i64 0] | false => .tu [.ag [.int .i64 0, .int .i64 0, .int .i64 0], .int .i64 2])
    | none => none
  | _ => none
abbrev placesO : FuncId × Bool × (List CV → Option CV) := (13, false, placesF)
theorem placesO_ok : OrcP Tryd.prog GS placesO := by
  intro args r h
  refine ⟨?_, fun h => by cases h⟩
  simp only [placesF] at h
  split at h
  · split at h
    · rename_i a ha
      cases h
      obtain ⟨rfl, h1⟩ := idOf_ok ha
      exact places_ok _ _ h1
    · cases h
  · cases h
end Sk
end Go.CM

/-
  Sketches: SketchNames, carried out in parts (printed by program).
-/
namespace Go.CM
open Go Go.Proofs
set_option linter.unusedVariables false
set_option maxRecDepth 1000000

-- (some braid/sketch.Of): 29323
abbrev kSketchNamesA1 : List CV := [.rsl 34 [[ji (0)] ++ rep 32 (.int .u8 0) ++ [.int .u64 (0)], [ji (1)] ++ jb [0, 0, 0, 5, 0, 0, 0, 6, 0, 0, 0, 7, 0, 0, 0, 0, 0, 0, 0, 0, 0, 0, 0, 0, 0, 0, 0, 0, 0, 0, 0, 0] ++ [.int .u64 (5119487410153467689)], [ji (0)] ++ rep 32 (.int .u8 0) ++ [.int .u64 (0)], [ji (0)] ++ rep 32 (.int .u8 0) ++ [.int .u64 (0)], [ji (0)] ++ rep 32 (.int .u8 0) ++ [.int .u64 (0)], [ji (0)] ++ rep 32 (.int .u8 0) ++ [.int .u64 (0)], [ji (1)] ++ jb [0, 0, 0, 5, 0, 0, 0, 6, 0, 0, 0, 7, 0, 0, 0, 0, 0, 0, 0, 0, 0, 0, 0, 0, 0, 0, 0, 0, 0, 0, 0, 0] ++ [.int .u64 (5119487410153467689)], [ji (0)] ++ rep 32 (.int .u8 0) ++ [.int .u64 (0)], [ji (0)] ++ rep 32 (.int .u8 0) ++ [.int .u64 (0)], [ji (0)] ++ rep 32 (.int .u8 0) ++ [.int .u64 (0)], [ji (0)] ++ rep 32 (.int .u8 0) ++ [.int .u64 (0)], [ji (1)] ++ jb [0, 0, 0, 5, 0, 0, 0, 6, 0, 0, 0, 7, 0, 0, 0, 0, 0, 0, 0, 0, 0, 0, 0, 0, 0, 0, 0, 0, 0, 0, 0, 0] ++ [.int .u64 (5119487410153467689)]]]
abbrev kSketchNamesR1 : CV := .tu ([.rsl 32 [jb [0, 0, 0, 5, 0, 0, 0, 6, 0, 0, 0, 7, 0, 0, 0, 0, 0, 0, 0, 0, 0, 0, 0, 0, 0, 0, 0, 0, 0, 0, 0, 0]]] ++ [.nilS] ++ [.rsl 34 [[ji (0)] ++ rep 32 (.int .u8 0) ++ [.int .u64 (0)], [ji (0)] ++ rep 32 (.int .u8 0) ++ [.int .u64 (0)], [ji (0)] ++ rep 32 (.int .u8 0) ++ [.int .u64 (0)], [ji (0)] ++ rep 32 (.int .u8 0) ++ [.int .u64 (0)], [ji (0)] ++ rep 32 (.int .u8 0) ++ [.int .u64 (0)], [ji (0)] ++ rep 32 (.int .u8 0) ++ [.int .u64 (0)], [ji (0)] ++ rep 32 (.int .u8 0) ++ [.int .u64 (0)], [ji (0)] ++ rep 32 (.int .u8 0) ++ [.int .u64 (0)], [ji (0)] ++ rep 32 (.int .u8 0) ++ [.int .u64 (0)], [ji (0)] ++ rep 32 (.int .u8 0) ++ [.int .u64 (0)], [ji (0)] ++ rep 32 (.int .u8 0) ++ [.int .u64 (0)], [ji (0)] ++ rep 32 (.int .u8 0) ++ [.int .u64 (0)]]] ++ [ji (0)])
theorem kSketchNames1 : PureN Tryd.prog GS 31 kSketchNamesA1 kSketchNamesR1 :=
  pureN_runs Tryd.checked.mixed GS_closed (orcOf_ok (AllO.mem (allO_cons Sk.xorO_ok (allO_cons Sk.wordO_ok (allO_cons Sk.placesO_ok (allO_nil)))))) tbl_ok (orc := orcOf [Sk.xorO, Sk.wordO, Sk.placesO]) (fuel := 100000) (k := 60) (by kernel_rfl)
-- (some braid/sketch.Peel): 7021
abbrev kSketchNamesA2 : List CV := [.rsl 34 [[ji (0)] ++ rep 32 (.int .u8 0) ++ [.int .u64 (0)], [ji (-1)] ++ jb [0, 0, 0, 5, 0, 0, 0, 6, 0, 0, 0, 7, 0, 0, 0, 0, 0, 0, 0, 0, 0, 0, 0, 0, 0, 0, 0, 0, 0, 0, 0, 0] ++ [.int .u64 (5119487410153467689)], [ji (0)] ++ rep 32 (.int .u8 0) ++ [.int .u64 (0)], [ji (0)] ++ rep 32 (.int .u8 0) ++ [.int .u64 (0)], [ji (0)] ++ rep 32 (.int .u8 0) ++ [.int .u64 (0)], [ji (0)] ++ rep 32 (.int .u8 0) ++ [.int .u64 (0)], [ji (-1)] ++ jb [0, 0, 0, 5, 0, 0, 0, 6, 0, 0, 0, 7, 0, 0, 0, 0, 0, 0, 0, 0, 0, 0, 0, 0, 0, 0, 0, 0, 0, 0, 0, 0] ++ [.int .u64 (5119487410153467689)], [ji (0)] ++ rep 32 (.int .u8 0) ++ [.int .u64 (0)], [ji (0)] ++ rep 32 (.int .u8 0) ++ [.int .u64 (0)], [ji (0)] ++ rep 32 (.int .u8 0) ++ [.int .u64 (0)], [ji (0)] ++ rep 32 (.int .u8 0) ++ [.int .u64 (0)], [ji (-1)] ++ jb [0, 0, 0, 5, 0, 0, 0, 6, 0, 0, 0, 7, 0, 0, 0, 0, 0, 0, 0, 0, 0, 0, 0, 0, 0, 0, 0, 0, 0, 0, 0, 0] ++ [.int .u64 (5119487410153467689)]]]
abbrev kSketchNamesR2 : CV := .tu ([.nilS] ++ [.rsl 32 [jb [0, 0, 0, 5, 0, 0, 0, 6, 0, 0, 0, 7, 0, 0, 0, 0, 0, 0, 0, 0, 0, 0, 0, 0, 0, 0, 0, 0, 0, 0, 0, 0]]] ++ [.rsl 34 [[ji (0)] ++ rep 32 (.int .u8 0) ++ [.int .u64 (0)], [ji (0)] ++ rep 32 (.int .u8 0) ++ [.int .u64 (0)], [ji (0)] ++ rep 32 (.int .u8 0) ++ [.int .u64 (0)], [ji (0)] ++ rep 32 (.int .u8 0) ++ [.int .u64 (0)], [ji (0)] ++ rep 32 (.int .u8 0) ++ [.int .u64 (0)], [ji (0)] ++ rep 32 (.int .u8 0) ++ [.int .u64 (0)], [ji (0)] ++ rep 32 (.int .u8 0) ++ [.int .u64 (0)], [ji (0)] ++ rep 32 (.int .u8 0) ++ [.int .u64 (0)], [ji (0)] ++ rep 32 (.int .u8 0) ++ [.int .u64 (0)], [ji (0)] ++ rep 32 (.int .u8 0) ++ [.int .u64 (0)], [ji (0)] ++ rep 32 (.int .u8 0) ++ [.int .u64 (0)], [ji (0)] ++ rep 32 (.int .u8 0) ++ [.int .u64 (0)]]] ++ [ji (0)])
theorem kSketchNames2 : PureN Tryd.prog GS 31 kSketchNamesA2 kSketchNamesR2 :=
  pureN_runs Tryd.checked.mixed GS_closed (orcOf_ok (AllO.mem (allO_cons Sk.xorO_ok (allO_cons Sk.wordO_ok (allO_cons Sk.placesO_ok (allO_nil)))))) tbl_ok (orc := orcOf [Sk.xorO, Sk.wordO, Sk.placesO]) (fuel := 100000) (k := 60) (by kernel_rfl)
-- (some braid/sketch.Peel): 5362
abbrev kSketchNamesA3 : List CV := [.rsl 34 [[ji (0)] ++ rep 32 (.int .u8 0) ++ [.int .u64 (0)], [ji (2)] ++ jb [0, 0, 0, 12, 0, 0, 0, 0, 0, 0, 0, 0, 0, 0, 0, 0, 0, 0, 0, 0, 0, 0, 0, 0, 0, 0, 0, 0, 0, 0, 0, 0] ++ [.int .u64 (742507902314508248)], [ji (0)] ++ rep 32 (.int .u8 0) ++ [.int .u64 (0)], [ji (0)] ++ rep 32 (.int .u8 0) ++ [.int .u64 (0)], [ji (0)] ++ rep 32 (.int .u8 0) ++ [.int .u64 (0)], [ji (0)] ++ rep 32 (.int .u8 0) ++ [.int .u64 (0)], [ji (2)] ++ jb [0, 0, 0, 12, 0, 0, 0, 0, 0, 0, 0, 0, 0, 0, 0, 0, 0, 0, 0, 0, 0, 0, 0, 0, 0, 0, 0, 0, 0, 0, 0, 0] ++ [.int .u64 (742507902314508248)], [ji (0)] ++ rep 32 (.int .u8 0) ++ [.int .u64 (0)], [ji (0)] ++ rep 32 (.int .u8 0) ++ [.int .u64 (0)], [ji (0)] ++ rep 32 (.int .u8 0) ++ [.int .u64 (0)], [ji (0)] ++ rep 32 (.int .u8 0) ++ [.int .u64 (0)], [ji (2)] ++ jb [0, 0, 0, 12, 0, 0, 0, 0, 0, 0, 0, 0, 0, 0, 0, 0, 0, 0, 0, 0, 0, 0, 0, 0, 0, 0, 0, 0, 0, 0, 0, 0] ++ [.int .u64 (742507902314508248)]]]
abbrev kSketchNamesR3 : CV := .tu ([.nilS] ++ [.nilS] ++ [.rsl 34 [[ji (0)] ++ rep 32 (.int .u8 0) ++ [.int .u64 (0)], [ji (2)] ++ jb [0, 0, 0, 12, 0, 0, 0, 0, 0, 0, 0, 0, 0, 0, 0, 0, 0, 0, 0, 0, 0, 0, 0, 0, 0, 0, 0, 0, 0, 0, 0, 0] ++ [.int .u64 (742507902314508248)], [ji (0)] ++ rep 32 (.int .u8 0) ++ [.int .u64 (0)], [ji (0)] ++ rep 32 (.int .u8 0) ++ [.int .u64 (0)], [ji (0)] ++ rep 32 (.int .u8 0) ++ [.int .u64 (0)], [ji (0)] ++ rep 32 (.int .u8 0) ++ [.int .u64 (0)], [ji (2)] ++ jb [0, 0, 0, 12, 0, 0, 0, 0, 0, 0, 0, 0, 0, 0, 0, 0, 0, 0, 0, 0, 0, 0, 0, 0, 0, 0, 0, 0, 0, 0, 0, 0] ++ [.int .u64 (742507902314508248)], [ji (0)] ++ rep 32 (.int .u8 0) ++ [.int .u64 (0)], [ji (0)] ++ rep 32 (.int .u8 0) ++ [.int .u64 (0)], [ji (0)] ++ rep 32 (.int .u8 0) ++ [.int .u64 (0)], [ji (0)] ++ rep 32 (.int .u8 0) ++ [.int .u64 (0)], [ji (2)] ++ jb [0, 0, 0, 12, 0, 0, 0, 0, 0, 0, 0, 0, 0, 0, 0, 0, 0, 0, 0, 0, 0, 0, 0, 0, 0, 0, 0, 0, 0, 0, 0, 0] ++ [.int .u64 (742507902314508248)]]] ++ [ji (0)])
theorem kSketchNames3 : PureN Tryd.prog GS 31 kSketchNamesA3 kSketchNamesR3 :=
  pureN_runs Tryd.checked.mixed GS_closed (orcOf_ok (AllO.mem (allO_nil))) tbl_ok (orc := orcOf []) (fuel := 100000) (k := 60) (by kernel_rfl)
-- (some braid/braidlaw39.alive): 9375
abbrev kSketchNamesA4 : List CV := []
abbrev kSketchNamesR4 : CV := .bool true
theorem kSketchNames4 : PureN Tryd.prog GS 34 kSketchNamesA4 kSketchNamesR4 :=
  pureN_runs Tryd.checked.mixed GS_closed (orcOf_ok (AllO.mem (allO_cons Sk.xorO_ok (allO_cons Sk.wordO_ok (allO_cons Sk.placesO_ok (allO_cons (pickO_ok (allK_cons kSketchNames1 (allK_cons kSketchNames2 (allK_cons kSketchNames3 (allK_nil))))) (allO_nil))))))) tbl_ok (orc := orcOf [Sk.xorO, Sk.wordO, Sk.placesO, (31, true, pickA [(kSketchNamesA1, kSketchNamesR1), (kSketchNamesA2, kSketchNamesR2), (kSketchNamesA3, kSketchNamesR3)])]) (fuel := 100000) (k := 60) (by kernel_rfl)
end Go.CM

/-
  Sketches: SketchOrder, walked.
-/
namespace Go.CM
open Go Go.Proofs Go.Sort Go.Shelf
set_option linter.unusedVariables false
set_option linter.unusedSimpArgs false
set_option maxRecDepth 100000
namespace Sk
open Sha

theorem alive_ok : PureC Tryd.prog GS 34 [] (.bool true) := kSketchNames4.toC
def smallB (s : Sketch) : Bool := (s.l.all fun c => decide (-900000 ≤ c.count ∧ c.count ≤ 900000)) && decide (chk s = 0)
/-! ### Sums -/
def acc (N : Nat) (c : Cell) (ids : List (List B)) (i : Nat) : Cell := ids.foldl (fun c x => addC c (one N x 1 i)) c
theorem acc_len {N : Nat} {i : Nat} : ∀ {ids : List (List B)} {c : Cell}, (∀ x ∈ ids, x.length = 32) → c.sum.length = 32 → (acc N c ids i).sum.length = 32
  | [], c, _, h => h
  | x :: ids, c, hi, h => acc_len (ids := ids) (fun y hy => hi y (by simp [hy])) (addC_len h (one_len (hi x (by simp)) _ _))
theorem one_bnd (N : Nat) (x : List B) (i : Nat) : 0 ≤ (one N x 1 i).count ∧ (one N x 1 i).count ≤ 1 := by unfold one; split <;> simp [zeroCell]
theorem acc_bnd {N : Nat} {i : Nat} : ∀ {ids : List (List B)} {c : Cell} {m : Int}, -m ≤ c.count ∧ c.count ≤ m → -(m + ids.length) ≤ (acc N c ids i).count ∧ (acc N c ids i).count ≤ m + ids.length
  | [], c, m, h => by simpa [acc] using h
  | x :: ids, c, m, h => by
    have h1 := one_bnd N x i
    have := acc_bnd (N := N) (i := i) (ids := ids) (c := addC c (one N x 1 i)) (m := m + 1) (by simp only [addC]; omega)
    simp only [List.length_cons]
    have e : acc N c (x :: ids) i = acc N (addC c (one N x 1 i)) ids i := rfl
    rw [e]; omega
theorem addAll_tab {N : Nat} (hN : sizedB N = true) : ∀ (ids : List (List B)) (f : Nat → Cell) (m : Int), (∀ x ∈ ids, x.length = 32) → (∀ i, i < N → -m ≤ (f i).count ∧ (f i).count ≤ m) → (∀ i, i < N → (f i).sum.length = 32) → m + ids.length ≤ 999999 →
    addAll (tab N f) ids = tab N fun i => acc N (f i) ids i
  | [], f, m, _, _, _, _ => rfl
  | x :: ids, f, m, hi, hb, ho, hm => by
    simp only [List.length_cons] at hm
    have hx := hi x (by simp)
    have e : addAll (tab N f) (x :: ids) = addAll ((changed (tab N f) x 1).getD []) ids := rfl
    rw [e, changed_tab hN hx (by omega) f (fun i h => by have := hb i h; omega) ho]
    simp only [Option.getD_some]
    rw [addAll_tab hN ids _ (m + 1) (fun y hy => hi y (by simp [hy])) (fun i h => by have := hb i h; have := one_bnd N x i; simp only [addC]; omega) (fun i h => addC_len (ho i h) (one_len hx _ _)) (by omega)]
    rfl
/-- A valid sketch with bounded counts, as a table. -/
structure Tb (N : Nat) (m : Int) (f : Nat → Cell) : Prop where
  sz : sizedB N = true
  b : ∀ i, i < N → -m ≤ (f i).count ∧ (f i).count ≤ m
  o : ∀ i, i < N → (f i).sum.length = 32
theorem Tb.chk {N : Nat} {m : Int} {f : Nat → Cell} (h : Tb N m f) (hm : m ≤ 1000000) : chk (some (tab N f)) = 0 := by
  refine chk_of (by rw [Sv.l_some, tab_len]; exact h.sz) fun c hc => ?_
  obtain ⟨i, hi, rfl⟩ := tab_mem hc
  have := h.b i hi
  omega
theorem Tb.ok {N : Nat} {m : Int} {f : Nat → Cell} (h : Tb N m f) : okSk (some (tab N f)) := fun c hc => by
  obtain ⟨i, hi, rfl⟩ := tab_mem hc
  exact h.o i hi
theorem one_bnd2 (N : Nat) (x : List B) (by_ : Int) (i : Nat) (h : -1 ≤ by_ ∧ by_ ≤ 1) : -1 ≤ (one N x by_ i).count ∧ (one N x by_ i).count ≤ 1 := by unfold one; split <;> simp [zeroCell]; omega
theorem Tb.put {N : Nat} {m : Int} {f : Nat → Cell} (h : Tb N m f) (hm : m ≤ 999999) {x : List B} (hx : x.length = 32) {by_ : Int} (hby : -1 ≤ by_ ∧ by_ ≤ 1) :
    put (some (tab N f)) x by_ = (some (tab N fun i => addC (f i) (one N x by_ i)), 0) ∧ Tb N (m + 1) fun i => addC (f i) (one N x by_ i) := by
  refine ⟨put_of (h.chk (by omega)) (changed_tab h.sz hx hby f (fun i hi => by have := h.b i hi; omega) h.o), h.sz, fun i hi => ?_, fun i hi => addC_len (h.o i hi) (one_len hx _ _)⟩
  have := h.b i hi
  have := one_bnd2 N x by_ i hby
  simp only [addC]; omega
theorem Tb.size {N : Nat} {m : Int} {f : Nat → Cell} (h : Tb N m f) : 3 ≤ N ∧ N ≤ 48 := by
  obtain ⟨M, hM, h3, h48, _⟩ := sized_nat h.sz
  omega
theorem Tb.of {s : Sketch} (h : smallB s = true) (ho : okSk s) : ∃ f, s = some (tab s.l.length f) ∧ Tb s.l.length 900000 f := by
  unfold smallB at h
  simp only [Bool.and_eq_true, decide_eq_true_eq] at h
  obtain ⟨h1, h2⟩ := h
  obtain ⟨h3, h4⟩ := chk_0 h2
  rw [List.all_eq_true] at h1
  have hs : s = some s.l := by
    cases s with
    | none => obtain ⟨M, hM, k3, _⟩ := sized_nat h3; simp at hM; omega
    | some l => rfl
  have hg : ∀ i, i < s.l.length → s.l.getD i zeroCell ∈ s.l := fun i hi => by rw [List.getD_eq_getElem?_getD, List.getElem?_eq_getElem hi]; exact List.getElem_mem hi
  refine ⟨fun i => s.l.getD i zeroCell, ?_, h3, fun i hi => by simpa using h1 _ (hg i hi), fun i hi => ho _ (hg i hi)⟩
  rw [← tab_of]; exact hs
theorem ofS_tab {N : Nat} (hN : sizedB N = true) {ids : List (List B)} (hi : ∀ x ∈ ids, x.length = 32) (hl : ids.length ≤ 60) : ofS N ids = (some (tab N fun i => acc N zeroCell ids i), 0) ∧ Tb N 60 fun i => acc N zeroCell ids i := by
  constructor
  · unfold ofS
    rw [hN]
    simp only
    rw [if_neg (by omega), Int.toNat_natCast, tab_zero, addAll_tab hN ids (fun _ => zeroCell) 0 hi (fun i h => by simp [zeroCell]) (fun i h => rfl) (by omega)]
  · refine ⟨hN, fun i h => ?_, fun i h => acc_len hi rfl⟩
    have := acc_bnd (N := N) (i := i) (ids := ids) (c := zeroCell) (m := 0) (by simp [zeroCell])
    omega
theorem Tb.sub {N : Nat} {m m' : Int} {f g : Nat → Cell} (hf : Tb N m f) (hg : Tb N m' g) (hm : m ≤ 1000000) (hm' : m' ≤ 1000000) (hd : ∀ i, i < N → -1000000 ≤ (subC (f i) (g i)).count ∧ (subC (f i) (g i)).count ≤ 1000000) :
    subS (some (tab N f)) (some (tab N g)) = (some (tab N fun i => subC (f i) (g i)), 0) := by
  unfold subS
  rw [if_pos (hf.chk hm), if_pos (hg.chk hm'), if_pos (by rw [Sv.l_some, Sv.l_some, tab_len, tab_len]), Sv.l_some, Sv.l_some, tab_sub, if_pos]
  rw [List.all_eq_true]
  intro c hc
  obtain ⟨i, hi, rfl⟩ := tab_mem hc
  rw [inR_iff]; exact hd i hi
end Sk
end Go.CM

/-
  Sketches, plain: what peeling keeps.
-/
namespace Go.CM
open Go Go.Proofs Go.Sort Go.Shelf
set_option linter.unusedVariables false
set_option linter.unusedSimpArgs false
set_option maxRecDepth 100000
namespace Sk
open Sha

/-- Ids taken away. -/
def rem (N : Nat) (c : Cell) (ids : List (List B)) (i : Nat) : Cell := ids.foldl (fun c x => addC c (one N x (-1) i)) c
theorem rem_one (N : Nat) (i : Nat) (d : Cell) : ∀ (ids : List (List B)) (c : Cell), rem N (addC c d) ids i = addC (rem N c ids i) d
  | [], c => rfl
  | x :: ids, c => by
    show rem N (addC (addC c d) (one N x (-1) i)) ids i = addC (rem N (addC c (one N x (-1) i)) ids i) d
    rw [addC_right, rem_one N i d ids]
theorem acc_snoc (N : Nat) (c : Cell) (ids : List (List B)) (x : List B) (i : Nat) : acc N c (ids ++ [x]) i = addC (acc N c ids i) (one N x 1 i) := by unfold acc; rw [List.foldl_append]; rfl
theorem rem_snoc (N : Nat) (c : Cell) (ids : List (List B)) (x : List B) (i : Nat) : rem N c (ids ++ [x]) i = addC (rem N c ids i) (one N x (-1) i) := by unfold rem; rw [List.foldl_append]; rfl
theorem rem_len {N : Nat} {i : Nat} : ∀ {ids : List (List B)} {c : Cell}, (∀ x ∈ ids, x.length = 32) → c.sum.length = 32 → (rem N c ids i).sum.length = 32
  | [], c, _, h => h
  | x :: ids, c, hi, h => rem_len (ids := ids) (fun y hy => hi y (by simp [hy])) (addC_len h (one_len (hi x (by simp)) _ _))
theorem acc_perm {N : Nat} {i : Nat} {c : Cell} {l l' : List (List B)} (h : l.Perm l') : acc N c l i = acc N c l' i := by
  unfold acc
  exact h.foldl_eq' (fun x _ y _ z => addC_right _ _ _) c
theorem rem_perm {N : Nat} {i : Nat} {c : Cell} {l l' : List (List B)} (h : l.Perm l') : rem N c l i = rem N c l' i := by
  unfold rem
  exact h.foldl_eq' (fun x _ y _ z => addC_right _ _ _) c
/-- Both. -/
def both (N : Nat) (c : Cell) (l r : List (List B)) (i : Nat) : Cell := rem N (acc N c l i) r i
end Sk
end Go.CM

/-
  Sketches: Increasing, SketchBack, walked.
-/
namespace Go.CM
open Go Go.Proofs Go.Sort Go.Shelf
set_option linter.unusedVariables false
set_option linter.unusedSimpArgs false
set_option maxRecDepth 100000
namespace Sk
open Sha

def Inc (l : List (List B)) : Prop := ∀ (j : Nat) (x y : List B), l[j]? = some x → l[j + 1]? = some y → ltB x y = true
def incB : List (List B) → Bool
  | [] => true
  | a :: r => (match r with | [] => true | b :: _ => ltB a b) && incB r
theorem incB_iff : ∀ l : List (List B), incB l = true ↔ Inc l
  | [] => ⟨fun _ j x y h => by simp at h, fun _ => rfl⟩
  | [a] => ⟨fun _ j x y h h2 => by simp at h2, fun _ => rfl⟩
  | a :: b :: r => by
    have ih := incB_iff (b :: r)
    constructor
    · intro h
      have h' : ltB a b = true ∧ incB (b :: r) = true := by
        have : incB (a :: b :: r) = (ltB a b && incB (b :: r)) := rfl
        rw [this] at h; simpa using h
      intro j x y hx hy
      cases j with
      | zero => simp at hx hy; subst hx hy; exact h'.1
      | succ j => exact ih.1 h'.2 j x y (by simpa using hx) (by simpa using hy)
    · intro h
      have : incB (a :: b :: r) = (ltB a b && incB (b :: r)) := rfl
      rw [this, h 0 a b rfl rfl, ih.2 fun j x y hx hy => h (j + 1) x y (by simpa using hx) (by simpa using hy)]
      rfl
theorem inc_ok (s : Ids) (ho : okIds s) (hl : s.l.length ≤ 1000000) : PureC Tryd.prog GS 36 [encIds s] (.bool (incB s.l)) := by
  refine pure_of Tryd.checked.mixed GS_closed ?_
  apply call_intro c36_eq r36_eq
  unfold c36 r36
  have hlen : lenM (.sl 32) (encIds s) = some (.int .i64 s.l.length) := len_encS _
  simp
  refine loop_up s.l.length (fun k σ l => σ 0 = encIds s ∧ σ 3 = .int .i64 ((k + 1 : Nat) : Int) ∧ ∀ (j : Nat) (x y : List B), j < k → s.l[j]? = some x → s.l[j + 1]? = some y → ltB x y = true) ?_ (by simp)
  rintro k σ l hk ⟨g0, g3, hs⟩
  obtain ⟨σ, rfl⟩ := upds2 g0 g3
  clear g0 g3
  unfold l36_0
  obtain ⟨k1, hk1⟩ : ∃ k1, k1 = k + 1 := ⟨_, rfl⟩
  rw [← hk1]
  by_cases h : k1 < s.l.length
  · obtain ⟨x, hx, hxm⟩ := get_of (l := s.l) (k := k) (by omega)
    obtain ⟨y, hy, hym⟩ := get_of (l := s.l) (k := k1) h
    have hwk : IntKind.i64.wrap ((k1 : Int) + 1) = (k1 + 1 : Nat) := wrap_i64 (by omega) (by omega)
    have hwm : IntKind.i64.wrap ((k1 : Int) - 1) = (k : Nat) := by rw [wrap_i64 (by omega) (by omega)]; omega
    have hxl := ho x hxm
    have hyl := ho y hym
    have hix : iaC (.sl 32) (encIds s) (.int .i64 k) = some (.rptr (eId x) 0) := by unfold encIds; rw [ia_encS]; simp [hx]
    have hiy : iaC (.sl 32) (encIds s) (.int .i64 k1) = some (.rptr (eId y) 0) := by unfold encIds; rw [ia_encS]; simp [hy]
    have hle := less_ok x y hxl hyl
    unfold idC at hle
    have c1 : closedL (x.map e8) = true := closedL_map e8 (fun _ => rfl) _
    have c2 : closedL (y.map e8) = true := closedL_map e8 (fun _ => rfl) _
    simp [hlen, h, hwm, hix, hiy, eId, hxl, hyl, List.take_of_length_le]
    refine pure_call hle (by simp [closedL, CV.closed, c1, c2]) ?_
    cases hlt : ltB x y with
    | true =>
      simp [hwk]
      refine ⟨by omega, fun j a b hj ha hb => ?_⟩
      by_cases hjk : j = k
      · subst hjk; rw [hx] at ha; rw [← hk1, hy] at hb; cases ha; cases hb; exact hlt
      · exact hs j a b (by omega) ha hb
    | false =>
      have : incB s.l = false := by
        cases hi : incB s.l with
        | false => rfl
        | true => have := (incB_iff _).1 hi k x y hx (by rw [← hk1]; exact hy); rw [hlt] at this; cases this
      simp [this]
      exact rd_eq rfl rfl
  · have : incB s.l = true := (incB_iff _).2 fun j x y hx hy => hs j x y (by have := (List.getElem?_eq_some_iff.1 hy).1; omega) hx hy
    simp [hlen, h, this]
    exact rd_eq rfl rfl
theorem inc_sort {l : List (List B)} (h : l.Nodup) : incB (sortB l) = true := by
  rw [incB_iff]
  intro j x y hx hy
  have hp := sortB_pw l
  have hn : (sortB l).Nodup := (sortB_perm l).nodup_iff.2 h
  obtain ⟨h1, rfl⟩ := List.getElem?_eq_some_iff.1 hx
  obtain ⟨h2, rfl⟩ := List.getElem?_eq_some_iff.1 hy
  have h3 := List.pairwise_iff_getElem.1 hp j (j + 1) h1 h2 (by omega)
  have h4 := List.pairwise_iff_getElem.1 hn j (j + 1) h1 h2 (by omega)
  cases hlt : ltB (sortB l)[j] (sortB l)[j + 1] with
  | true => rfl
  | false => exact absurd (leB_anti _ _ h3 (not_lt_le hlt)) h4
end Sk
end Go.CM

/-
  Sketches: Without, at, walked.
-/
namespace Go.CM
open Go Go.Proofs Go.Sort Go.Shelf
set_option linter.unusedVariables false
set_option linter.unusedSimpArgs false
set_option maxRecDepth 100000
namespace Sk
open Sha

def without (a b : List (List B)) : List (List B) := a.filter fun x => !decide (x ∈ b)
def svO (l : List (List B)) : Ids := match l with | [] => none | a :: r => some (a :: r)
def atN (n : Nat) (l : List (List B)) (i : Nat) : Nat := (l.filter fun x => decide (i ∈ placesL n x)).length
end Sk
end Go.CM

/-
  Sketches: Honest, walked.
-/
namespace Go.CM
open Go Go.Proofs Go.Sort Go.Shelf
set_option linter.unusedVariables false
set_option linter.unusedSimpArgs false
set_option maxRecDepth 100000
namespace Sk
open Sha

/-- Whether the next one is not as it is told. -/
def lied (N : Nat) (left right : List (List B)) (c : Cell) (i : Nat) : Bool :=
  (decide (-c.count < 0) && !decide (c.sum ∈ left)) || (decide (0 < -c.count) && !decide (c.sum ∈ right)) || !Nat.beq (atN N left i + atN N right i) 1
def honR (N : Nat) : Nat → List Cell → List (List B) → List (List B) → List (List B) → Bool
  | 0, _, _, _, _ => false
  | f + 1, now, left, right, done => match nextN now done with
    | none => Nat.beq (left.length + right.length) 0
    | some i => match now[i]? with
      | none => false
      | some c => match lied N left right c i with
        | true => false
        | false => honR N f ((changed now c.sum (-c.count)).getD []) (without left [c.sum]) (without right [c.sum]) (done ++ [c.sum])
theorem without_lt {a : List (List B)} {x : List B} (h : x ∈ a) : (without a [x]).length < a.length := by
  unfold without
  have := (List.length_filter_lt_length_iff_exists (l := a) (p := fun y => !decide (y ∈ [x]))).2 ⟨x, h, by simp⟩
  exact this
theorem without_mem {a b : List (List B)} (h : ∀ i ∈ a, i.length = 32) : ∀ i ∈ without a b, i.length = 32 := fun i hi => h i (List.mem_filter.1 hi).1
structure HI (N : Nat) (R : Bool) (g : Nat → Cell) (left right done : List (List B)) : Prop where
  T : Tb N (100 + done.length) g
  h50 : done.length + left.length + right.length ≤ 50
  li : ∀ i ∈ left, i.length = 32
  ri : ∀ i ∈ right, i.length = 32
  di : ∀ i ∈ done, i.length = 32
  res : honR N (60 - done.length) (tab N g) left right done = R
structure HW (N : Nat) (R : Bool) (k : Nat) (σ : Sg) (l : Hl) (g : Nat → Cell) (left right done : List (List B)) (vd : CV) (jd : Nat) : Prop where
  g0 : σ 0 = .int .i64 N
  g11 : σ 11 = encSk (some (tab N g))
  g13 : σ 13 = encIds (svO left)
  g14 : σ 14 = encIds (svO right)
  g15 : σ 15 = vd
  g16 : σ 16 = .int .i64 (optI (nextN (tab N g) done))
  hi : HI N R g left right done
  od : OwnS 32 l vd jd (done.map eId)
  nd : isNilS vd = done.isEmpty
  hk : k = done.length
theorem Tb.now {N : Nat} {m : Int} {g : Nat → Cell} (T : Tb N m g) (hm : m ≤ 1000000) : Now N (tab N g) := ⟨tab_len _ _, T.sz, fun c hc => by
  obtain ⟨i, hi, rfl⟩ := tab_mem hc
  have := T.b i hi
  exact ⟨by rw [inR_iff]; omega, T.o i hi⟩⟩
end Sk
end Go.CM

/-
  Sketches, plain: what is peeled of an honest difference.
-/
namespace Go.CM
open Go Go.Proofs Go.Sort Go.Shelf
set_option linter.unusedVariables false
set_option linter.unusedSimpArgs false
set_option maxRecDepth 100000
namespace Sk
open Sha

theorem negC_add (a b : Cell) : negC (addC a b) = addC (negC a) (negC b) := by unfold negC addC; simp only; rw [Int.neg_add]
theorem without_perm {l : List (List B)} (h : l.Nodup) {x : List B} (hx : x ∈ l) : l.Perm (without l [x] ++ [x]) := by
  have h1 : without l [x] = l.erase x := by
    rw [h.erase_eq_filter]
    unfold without
    refine List.filter_congr fun y _ => ?_
    by_cases hy : y = x <;> simp [hy]
  rw [h1]
  exact (List.perm_cons_erase hx).trans (List.perm_append_comm (l₁ := [x]))
theorem without_same {l : List (List B)} {x : List B} (hx : x ∉ l) : without l [x] = l := by
  unfold without
  rw [List.filter_eq_self]
  intro y hy
  have : y ≠ x := fun h => hx (h ▸ hy)
  simp [this]
theorem without_nodup {l b : List (List B)} (h : l.Nodup) : (without l b).Nodup := h.filter _
theorem hon_peel {N : Nat} : ∀ (fh f : Nat) (m : Int) (g : Nat → Cell) (left right done l r : List (List B)), honR N fh (tab N g) left right done = true → Tb N m g → m + fh ≤ 999999 → (∀ i, i < N → g i = both N zeroCell left right i) → left.Nodup → right.Nodup → (∀ x ∈ left, x ∉ right) →
    (∀ x ∈ left, x.length = 32) → (∀ x ∈ right, x.length = 32) → done.length + left.length + right.length ≤ 50 → fh ≤ f →
    ∃ l' r', peelR f (tab N g) l r done = .inr (l ++ l', r ++ r', tab N fun _ => zeroCell) ∧ l'.Perm left ∧ r'.Perm right
  | 0, f, m, g, left, right, done, l, r, h, _, _, _, _, _, _, _, _, _, _ => by cases h
  | fh + 1, f, m, g, left, right, done, l, r, h, T, hm, hg, nl, nr, hd, ll, lr, h50, hf => by
    obtain ⟨f', rfl⟩ : ∃ f', f = f' + 1 := ⟨f - 1, by omega⟩
    have hz : zeroCell.sum.length = 32 := rfl
    unfold honR at h
    unfold peelR
    cases hnx : nextN (tab N g) done with
    | none =>
      rw [hnx] at h
      simp only at h
      have h0 := Nat.eq_of_beq_eq_true h
      have e1 : left = [] := List.eq_nil_of_length_eq_zero (by omega)
      have e2 : right = [] := List.eq_nil_of_length_eq_zero (by omega)
      subst e1 e2
      refine ⟨[], [], ?_, .refl _, .refl _⟩
      simp only [List.append_nil]
      rw [tab_ext fun i hi => hg i hi]
      rfl
    | some i =>
      rw [hnx] at h
      obtain ⟨hi, hw, _⟩ := nextN_some hnx
      rw [tab_len] at hi
      have hc := tab_get (f := g) hi
      rw [wants_iff hc] at hw
      simp only [Bool.and_eq_true, Bool.not_eq_true', decide_eq_false_iff_not] at hw
      have hcnt := pure_count hw.1
      have hx := T.o i hi
      obtain ⟨x, hxe⟩ : ∃ x, x = (g i).sum := ⟨_, rfl⟩
      simp only [hc] at h ⊢
      rw [← hxe] at h hx ⊢
      cases hli : lied N left right (g i) i with
      | true => rw [hli] at h; cases h
      | false =>
        rw [hli] at h
        simp only at h
        rw [nbeq_false (by omega)]
        simp only
        have hby : -1 ≤ -(g i).count ∧ -(g i).count ≤ 1 := by rcases hcnt with h | h <;> omega
        rw [changed_tab T.sz hx hby g (fun j hj => by have := T.b j hj; omega) T.o] at h ⊢
        simp only [Option.getD_some] at h ⊢
        have T' : Tb N (m + 1) fun j => addC (g j) (one N x (-(g i).count) j) := (T.put (by omega) hx hby).2
        unfold lied at hli
        rw [← hxe] at hli
        rcases hcnt with h1 | h1
        · have hdd : decide (0 < (g i).count) = true := by rw [h1]; rfl
          rw [hdd]
          simp only
          rw [h1] at h hli T'
          have hmem : x ∈ left := by
            cases hdm : decide (x ∈ left) with
            | true => exact of_decide_eq_true hdm
            | false => rw [hdm] at hli; simp at hli
          have hnr := hd x hmem
          have hp := without_perm nl hmem
          have hws := without_same hnr
          have hlt := without_lt hmem
          rw [h1]
          obtain ⟨l', r', a1, a2, a3⟩ := hon_peel fh f' (m + 1) _ (without left [x]) (without right [x]) (done ++ [x]) (l ++ [x]) r h T' (by omega) (fun j hj => by
            show addC (g j) (one N x (-1) j) = _
            rw [hg j hj, hws]
            unfold both
            rw [acc_perm hp, acc_snoc, rem_one, addC_assoc, ← one_neg, addC_neg (one_len hx _ _), addC_zero (rem_len lr (acc_len (without_mem ll) hz))])
            (without_nodup nl) (without_nodup nr) (fun y hy hy' => hd y (List.mem_filter.1 hy).1 (List.mem_filter.1 hy').1) (without_mem ll) (without_mem lr) (by rw [hws]; simp; omega) (by omega)
          refine ⟨x :: l', r', by rw [a1]; simp, ?_, by rw [hws] at a3; exact a3⟩
          exact (List.Perm.cons x a2).trans ((List.perm_append_comm (l₁ := [x])).trans hp.symm)
        · have hdd : decide (0 < (g i).count) = false := by rw [h1]; rfl
          rw [hdd]
          simp only
          rw [h1] at h hli T'
          have hmem : x ∈ right := by
            cases hdm : decide (x ∈ right) with
            | true => exact of_decide_eq_true hdm
            | false => rw [hdm] at hli; simp at hli
          have hnl : x ∉ left := fun h' => hd x h' hmem
          have hp := without_perm nr hmem
          have hws := without_same hnl
          have hlt := without_lt hmem
          rw [h1]
          obtain ⟨l', r', a1, a2, a3⟩ := hon_peel fh f' (m + 1) _ (without left [x]) (without right [x]) (done ++ [x]) l (r ++ [x]) h T' (by omega) (fun j hj => by
            show addC (g j) (one N x (- -1) j) = _
            rw [hg j hj, hws]
            unfold both
            rw [rem_perm hp, rem_snoc, addC_assoc]
            have e : one N x (- -1) j = negC (one N x (-1) j) := by rw [one_neg]
            rw [e, addC_neg (one_len hx _ _), addC_zero (rem_len (without_mem lr) (acc_len ll hz))])
            (without_nodup nl) (without_nodup nr) (fun y hy hy' => hd y (List.mem_filter.1 hy).1 (List.mem_filter.1 hy').1) (without_mem ll) (without_mem lr) (by rw [hws]; simp; omega) (by omega)
          refine ⟨l', x :: r', by rw [a1]; simp, by rw [hws] at a2; exact a2, ?_⟩
          exact (List.Perm.cons x a3).trans ((List.perm_append_comm (l₁ := [x])).trans hp.symm)
end Sk
end Go.CM

/-
  Sketches: SketchDiffers, the law.
-/
namespace Go.CM
open Go Go.Proofs Go.Sort Go.Shelf
set_option linter.unusedVariables false
set_option linter.unusedSimpArgs false
set_option maxRecDepth 100000
namespace Sk
open Sha

theorem rdH_new {l : Hl} {j n : Nat} {zero : List CV} (hzero : zero = encCell zeroCell) (h : l[j]? = some (.cells (n * 34) (repeatC zero n))) : RdH (HL l) (.sl 34 j 0 n n (n * 34)) (encSk (some (List.replicate n zeroCell))) := by
  refine OwnQ.rdH_enc (j := j) (xs := List.replicate n zeroCell) ?_ closed_cell (some _) rfl rfl
  rw [hzero] at h
  have hz : (encCell zeroCell).length = 34 := rfl
  refine .sl j 0 n n _ _ _ h (by rw [repeatC_len', hz]) (by simp) (fun e he => ?_) (Nat.le_refl _) (by omega) ?_
  · obtain ⟨c, hc, rfl⟩ := List.mem_map.1 he
    rw [(List.mem_replicate.1 hc).2]; rfl
  · rw [List.drop_zero, repeatC_flat, List.map_replicate, List.take_of_length_le]
    rw [← repeatC_flat, repeatC_len', hz]; exact Nat.le_refl _
end Sk
end Go.CM

/-
  Sketches, plain: differences of one id and of two.
-/
namespace Go.CM
open Go Go.Proofs Go.Sort Go.Shelf
set_option linter.unusedVariables false
set_option linter.unusedSimpArgs false
set_option maxRecDepth 100000
namespace Sk
open Sha

theorem next_of {N : Nat} {g : Nat → Cell} {done : List (List B)} {i : Nat} (hi : i < N) (hw : wants (tab N g) done i = true) : ∃ k, nextN (tab N g) done = some k := by
  cases h : nextN (tab N g) done with
  | some k => exact ⟨k, rfl⟩
  | none =>
    unfold nextN at h
    rw [List.find?_eq_none] at h
    exact absurd hw (h i (by rw [tab_len]; simpa using hi))
theorem pureB_one {N : Nat} {x : List B} {s : Int} {i : Nat} (hi : i ∈ placesL N x) (hs : s = 1 ∨ s = -1) : pureB N ⟨s, x, word x⟩ i = true := by
  unfold pureB
  simp [hi, hs]
theorem hon_zero {N : Nat} (f : Nat) {g : Nat → Cell} (hg : ∀ i, i < N → g i = zeroCell) (done : List (List B)) : honR N (f + 1) (tab N g) [] [] done = true := by
  have : nextN (tab N g) done = none := by
    unfold nextN
    rw [List.find?_eq_none]
    intro j hj
    rw [tab_len] at hj
    have hj : j < N := by simpa using hj
    rw [wants_iff (tab_get hj), hg j hj]
    unfold pureB
    simp [zeroCell]
  unfold honR
  rw [this]
  rfl
/-- What two lists of ids amount to, cell by cell. -/
theorem hon_one {N : Nat} (hN : sizedB N = true) (f : Nat) {x : List B} (hx : x.length = 32) {s : Int} (hs : s = 1 ∨ s = -1) {g : Nat → Cell} (hg : ∀ i, i < N → g i = one N x s i) {done : List (List B)} (hd : x ∉ done) {left right : List (List B)}
    (hlr : (s = 1 ∧ left = [x] ∧ right = []) ∨ (s = -1 ∧ left = [] ∧ right = [x])) : honR N (f + 2) (tab N g) left right done = true := by
  obtain ⟨M, hM, h3, h48, hmod⟩ := sized_nat hN
  have hM' : N = M := by omega
  subst hM'
  have hp0 : place N x 0 < N := place_lt_n h3 hmod x (by omega)
  have hm0 : place N x 0 ∈ placesL N x := by simp [placesL]
  have hw0 : wants (tab N g) done (place N x 0) = true := by
    rw [wants_iff (tab_get hp0), hg _ hp0, tab_len]
    unfold one
    rw [if_pos hm0, pureB_one hm0 hs]
    simp [hd]
  obtain ⟨k, hk⟩ := next_of hp0 hw0
  obtain ⟨hkN, hkw, _⟩ := nextN_some hk
  rw [tab_len] at hkN
  have hc := tab_get (f := g) hkN
  have hmem : k ∈ placesL N x := by
    rw [wants_iff hc, hg k hkN] at hkw
    simp only [Bool.and_eq_true] at hkw
    have hcnt := pure_count hkw.1
    unfold one at hcnt
    split at hcnt
    · assumption
    · simp [zeroCell] at hcnt
  have hgk : g k = ⟨s, x, word x⟩ := by rw [hg k hkN]; unfold one; rw [if_pos hmem]
  unfold honR
  rw [hk]
  simp only [hc, hgk]
  have hat : atN N [x] k = 1 := by unfold atN; simp [hmem]
  have hat0 : atN N [] k = 0 := rfl
  have hs1 : -1 ≤ -s ∧ -s ≤ 1 := by rcases hs with h | h <;> omega
  have hch := changed_tab hN hx hs1 g (fun j hj => by rw [hg j hj]; have := one_bnd2 N x s j (by rcases hs with h | h <;> omega); omega) (fun j hj => by rw [hg j hj]; exact one_len hx _ _)
  have hrest : ∀ done', honR N (f + 1) (tab N fun i => addC (g i) (one N x (-s) i)) [] [] done' = true := fun done' => hon_zero f (fun i hi => by rw [hg i hi, ← one_neg, addC_neg (one_len hx _ _)]) done'
  rcases hlr with ⟨rfl, rfl, rfl⟩ | ⟨rfl, rfl, rfl⟩
  · have hl : lied N [x] [] ⟨1, x, word x⟩ k = false := by unfold lied; rw [hat, hat0]; simp
    rw [hl]
    simp only
    rw [hch]
    have e1 : without [x] [x] = [] := by simp [without]
    have e2 : without [] [x] = [] := rfl
    rw [e1, e2]
    exact hrest _
  · have hl : lied N [] [x] ⟨-1, x, word x⟩ k = false := by unfold lied; rw [hat, hat0]; simp
    rw [hl]
    simp only
    rw [hch]
    have e1 : without [x] [x] = [] := by simp [without]
    have e2 : without [] [x] = [] := rfl
    rw [e1, e2]
    exact hrest _
/-- Places of different rows never meet. -/
theorem place_row {N : Nat} (h3 : 3 ≤ N) (x y : List B) {r r' : Nat} (hr : r < 3) (hr' : r' < 3) (h : place N x r = place N y r') : r = r' := by
  have h1 := place_lt h3 x (r := r)
  have h2 := place_lt h3 y (r := r')
  have h4 : 0 < N / 3 := by omega
  rcases Nat.lt_trichotomy r r' with h' | h' | h'
  · have : (r + 1) * (N / 3) ≤ r' * (N / 3) := Nat.mul_le_mul_right _ h'
    omega
  · exact h'
  · have : (r' + 1) * (N / 3) ≤ r * (N / 3) := Nat.mul_le_mul_right _ h'
    omega
theorem mem_places {N : Nat} {x : List B} {i : Nat} : i ∈ placesL N x ↔ ∃ r, r < 3 ∧ i = place N x r := by
  unfold placesL
  constructor
  · intro h
    simp only [List.mem_cons, List.not_mem_nil, or_false] at h
    rcases h with h | h | h
    · exact ⟨0, by omega, h⟩
    · exact ⟨1, by omega, h⟩
    · exact ⟨2, by omega, h⟩
  · rintro ⟨r, hr, rfl⟩
    match r, hr with
    | 0, _ => simp
    | 1, _ => simp
    | 2, _ => simp
theorem place_apart {N : Nat} (h3 : 3 ≤ N) {x y : List B} (h : placesL N x ≠ placesL N y) : ∃ i, i ∈ placesL N x ∧ i ∉ placesL N y := by
  have : ∃ r, r < 3 ∧ place N x r ≠ place N y r := by
    apply Decidable.byContradiction
    intro hn
    have hall : ∀ r, r < 3 → place N x r = place N y r := fun r hr => Decidable.byContradiction fun h' => hn ⟨r, hr, h'⟩
    apply h
    unfold placesL
    rw [hall 0 (by omega), hall 1 (by omega), hall 2 (by omega)]
  obtain ⟨r, hr, hne⟩ := this
  refine ⟨place N x r, mem_places.2 ⟨r, hr, rfl⟩, fun hm => ?_⟩
  obtain ⟨r', hr', he⟩ := mem_places.1 hm
  have := place_row h3 x y hr hr' he
  subst this
  exact hne he
theorem hon_two {N : Nat} (hN : sizedB N = true) {x y : List B} (hx : x.length = 32) (hy : y.length = 32) (hxy : x ≠ y) (hp : placesL N x ≠ placesL N y) {s : Int} (hs : s = 1 ∨ s = -1) {g : Nat → Cell} (hg : ∀ i, i < N → g i = addC (one N x 1 i) (one N y s i)) {left right : List (List B)}
    (hlr : (s = 1 ∧ left = [x, y] ∧ right = []) ∨ (s = -1 ∧ left = [x] ∧ right = [y])) : honR N 60 (tab N g) left right [] = true := by
  obtain ⟨M, hM, h3, h48, hmod⟩ := sized_nat hN
  have hM' : N = M := by omega
  subst hM'
  have hz : zeroCell.sum.length = 32 := rfl
  have hs1 : -1 ≤ s ∧ s ≤ 1 := by rcases hs with h | h <;> omega
  obtain ⟨i0, hi0, hi0'⟩ := place_apart h3 hp
  have hi0N : i0 < N := by
    obtain ⟨r, hr, rfl⟩ := mem_places.1 hi0
    exact place_lt_n h3 hmod x hr
  have hgx : ∀ i, i < N → i ∈ placesL N x → i ∉ placesL N y → g i = ⟨1, x, word x⟩ := fun i hi h1 h2 => by
    rw [hg i hi]; unfold one; rw [if_pos h1, if_neg h2, addC_zero hx]
  have hgy : ∀ i, i < N → i ∉ placesL N x → i ∈ placesL N y → g i = ⟨s, y, word y⟩ := fun i hi h1 h2 => by
    rw [hg i hi]; unfold one; rw [if_neg h1, if_pos h2, addC_comm, addC_zero hy]
  have hw0 : wants (tab N g) [] i0 = true := by
    rw [wants_iff (tab_get hi0N), hgx i0 hi0N hi0 hi0', tab_len, pureB_one hi0 (.inl rfl)]
    rfl
  obtain ⟨k, hk⟩ := next_of hi0N hw0
  obtain ⟨hkN, hkw, _⟩ := nextN_some hk
  rw [tab_len] at hkN
  have hc := tab_get (f := g) hkN
  rw [wants_iff hc] at hkw
  simp only [Bool.and_eq_true] at hkw
  have hcnt := pure_count hkw.1
  have hb : ∀ j, j < N → -999999 ≤ (g j).count ∧ (g j).count ≤ 999999 := fun j hj => by
    rw [hg j hj]
    have := one_bnd2 N x 1 j (by omega)
    have := one_bnd2 N y s j hs1
    simp only [addC]; omega
  have ho : ∀ j, j < N → (g j).sum.length = 32 := fun j hj => by rw [hg j hj]; exact addC_len (one_len hx _ _) (one_len hy _ _)
  have hcase : (k ∈ placesL N x ∧ k ∉ placesL N y) ∨ (k ∉ placesL N x ∧ k ∈ placesL N y) := by
    by_cases h1 : k ∈ placesL N x
    · by_cases h2 : k ∈ placesL N y
      · exfalso
        rw [hg k hkN] at hcnt
        unfold one at hcnt
        rw [if_pos h1, if_pos h2] at hcnt
        simp only [addC] at hcnt
        rcases hs with h | h <;> omega
      · exact .inl ⟨h1, h2⟩
    · by_cases h2 : k ∈ placesL N y
      · exact .inr ⟨h1, h2⟩
      · exfalso
        rw [hg k hkN] at hcnt
        unfold one at hcnt
        rw [if_neg h1, if_neg h2] at hcnt
        simp [addC, zeroCell] at hcnt
  unfold honR
  rw [hk]
  simp only [hc]
  rcases hcase with ⟨h1, h2⟩ | ⟨h1, h2⟩
  · rw [hgx k hkN h1 h2]
    have hch := changed_tab hN hx (by_ := -1) (by omega) g hb ho
    have hrest : ∀ i, i < N → addC (g i) (one N x (-1) i) = one N y s i := fun i hi => by
      rw [hg i hi, addC_right, ← one_neg, addC_neg (one_len hx _ _), addC_comm, addC_zero (one_len hy _ _)]
    have hxd : y ∉ ([] ++ [x] : List (List B)) := by simp; exact fun h => hxy h.symm
    rcases hlr with ⟨rfl, rfl, rfl⟩ | ⟨rfl, rfl, rfl⟩
    · have hl : lied N [x, y] [] ⟨1, x, word x⟩ k = false := by unfold lied atN; simp [h1, h2]
      rw [hl]
      simp only
      rw [hch]
      have e1 : without [x, y] [x] = [y] := by simp [without, Ne.symm hxy]; try exact fun h => hxy h.symm
      rw [e1]
      exact hon_one hN 57 hy (.inl rfl) hrest hxd (.inl ⟨rfl, rfl, rfl⟩)
    · have hl : lied N [x] [y] ⟨1, x, word x⟩ k = false := by unfold lied atN; simp [h1, h2]
      rw [hl]
      simp only
      rw [hch]
      have e1 : without [x] [x] = [] := by simp [without]
      have e2 : without [y] [x] = [y] := by simp [without, Ne.symm hxy]; try exact fun h => hxy h.symm
      rw [e1, e2]
      exact hon_one hN 57 hy (.inr rfl) hrest hxd (.inr ⟨rfl, rfl, rfl⟩)
  · rw [hgy k hkN h1 h2]
    have hch := changed_tab hN hy (by_ := -s) (by rcases hs with h | h <;> omega) g hb ho
    have hrest : ∀ i, i < N → addC (g i) (one N y (-s) i) = one N x 1 i := fun i hi => by
      rw [hg i hi, addC_assoc, ← one_neg, addC_neg (one_len hy _ _), addC_zero (one_len hx _ _)]
    have hxd : x ∉ ([] ++ [y] : List (List B)) := by simp; exact hxy
    rcases hlr with ⟨rfl, rfl, rfl⟩ | ⟨rfl, rfl, rfl⟩
    · have hl : lied N [x, y] [] ⟨1, y, word y⟩ k = false := by unfold lied atN; simp [h1, h2]
      rw [hl]
      simp only
      rw [hch]
      have e1 : without [x, y] [y] = [x] := by simp [without, hxy]
      rw [e1]
      exact hon_one hN 57 hx (.inl rfl) hrest hxd (.inl ⟨rfl, rfl, rfl⟩)
    · have hl : lied N [x] [y] ⟨-1, y, word y⟩ k = false := by unfold lied atN; simp [h1, h2]
      rw [hl]
      simp only
      rw [hch]
      have e1 : without [x] [y] = [x] := by simp [without, hxy]
      have e2 : without [y] [y] = [] := by simp [without]
      rw [e1, e2]
      exact hon_one hN 57 hx (.inl rfl) hrest hxd (.inl ⟨rfl, rfl, rfl⟩)
end Sk
end Go.CM

/-
  Sketches: SketchTwo, the law.
-/
namespace Go.CM
open Go Go.Proofs Go.Sort Go.Shelf
set_option linter.unusedVariables false
set_option linter.unusedSimpArgs false
set_option maxRecDepth 100000
namespace Sk
open Sha

def plInts (N : Nat) (x : List B) : List Int := (placesL N x).map fun p : Nat => (p : Int)
theorem placesC_ints (N : Nat) (x : List B) : placesC N x = .ag ((plInts N x).map (CV.int .i64)) := rfl
theorem plInts_iff (N : Nat) (x y : List B) : plInts N x = plInts N y ↔ placesL N x = placesL N y := by
  unfold plInts
  refine ⟨fun h => ?_, fun h => by rw [h]⟩
  exact (List.map_inj_right (fun a b h => by have h' : (a : Int) = b := h; omega)).1 h
theorem hon_peelE {N : Nat} {g : Nat → Cell} (T : Tb N 100 g) {left right : List (List B)} (h : honR N 60 (tab N g) left right [] = true) (hg : ∀ i, i < N → g i = both N zeroCell left right i) (nl : left.Nodup) (nr : right.Nodup) (hd : ∀ x ∈ left, x ∉ right)
    (ll : ∀ x ∈ left, x.length = 32) (lr : ∀ x ∈ right, x.length = 32) (h50 : left.length + right.length ≤ 50) : ∃ l' r', peelE (some (tab N g)) = .inr (l', r', List.replicate N zeroCell) ∧ l'.Perm left ∧ r'.Perm right := by
  obtain ⟨l', r', e1, p1, p2⟩ := hon_peel 60 62 100 g left right [] [] [] h T (by omega) hg nl nr hd ll lr (by simpa using h50) (by omega)
  refine ⟨l', r', ?_, p1, p2⟩
  unfold peelE
  rw [if_pos (T.chk (by omega)), tab_zero]
  simpa using e1
theorem svB_one {l' : List (List B)} {x : List B} (h : l'.Perm [x]) : svB l' = some [x] := by
  have := List.perm_singleton.1 h
  subst this
  simp [svB, sortB]
theorem svB_none {l' : List (List B)} (h : l'.Perm []) : svB l' = none := by
  have := List.perm_nil.1 h
  subst this
  rfl
theorem zero_add {u : Cell} (h : u.sum.length = 32) : addC zeroCell u = u := by rw [addC_comm, addC_zero h]
theorem sub_self_add {c u : Cell} (hc : c.sum.length = 32) (hu : u.sum.length = 32) : subC (addC c u) c = u := by rw [subC_add, addC_right, addC_neg hc, zero_add hu]
theorem sub_two {c u v : Cell} (hc : c.sum.length = 32) (hu : u.sum.length = 32) (hv : v.sum.length = 32) : subC (addC c u) (addC c v) = addC u (negC v) := by
  rw [subC_add, negC_add, ← addC_assoc, addC_right c u, addC_neg hc, zero_add hu]
set_option maxHeartbeats 16000000 in
theorem two_call (n : Int) (s : Ids) (x y : List B) (apart : Bool) (hs : okIds s) (hx : x.length = 32) (hy : y.length = 32) : CallP Tryd.prog GS 6 [.int .i64 n, encIds s, idC x, idC y, .bool apart] [] (c := ⟨fun r _ => r = .bool true⟩) := by
  apply call_intro c6_eq r6_eq
  unfold c6 r6
  have hcs := closed_ids s
  have hlen : lenM (.sl 32) (encIds s) = some (.int .i64 s.l.length) := len_encS _
  obtain ⟨X, hX⟩ : ∃ X, X = x.map e8 := ⟨_, rfl⟩
  obtain ⟨Y, hY⟩ : ∃ Y, Y = y.map e8 := ⟨_, rfl⟩
  have hXl : X.length = 32 := by rw [hX, List.length_map, hx]
  have hYl : Y.length = 32 := by rw [hY, List.length_map, hy]
  have hXc : closedL X = true := by rw [hX]; exact closedL_map e8 (fun _ => rfl) _
  have hYc : closedL Y = true := by rw [hY]; exact closedL_map e8 (fun _ => rfl) _
  have t1 : X.take 32 = X := List.take_of_length_le (by omega)
  have t2 : Y.take 32 = Y := List.take_of_length_le (by omega)
  unfold idC
  rw [← hX, ← hY]
  simp [hXl, hYl]
  refine pure_call alive_ok rfl ?_
  simp [hlen]
  by_cases h20 : 20 < s.l.length
  · have h' : (20 : Int) < s.l.length := by omega
    simp [h']
  · have h20' : ¬ (20 : Int) < s.l.length := by omega
    simp [h20']
    refine pure_call (refSize_ok n) rfl ?_
    cases hsz : sizedB n with
    | false => simp [h20']
    | true =>
      obtain ⟨N, rfl, h3, h48, hmod⟩ := sized_nat hsz
      have i1 := in_ok s x hs (by omega) hx
      have i2 := in_ok s y hs (by omega) hy
      unfold idC at i1 i2
      rw [← hX] at i1
      rw [← hY] at i2
      simp [h20', hXl, t1]
      refine pure_call i1 (by simp [closedL, CV.closed, hcs, hXc]) ?_
      by_cases hmx : x ∈ s.l
      · simp [hmx]
      · simp [hmx, hYl, t2]
        refine pure_call i2 (by simp [closedL, CV.closed, hcs, hYc]) ?_
        by_cases hmy : y ∈ s.l
        · simp [hmy]
        · have hxy := id_eql hx hy
          unfold idC at hxy
          rw [← hX, ← hY] at hxy
          simp [hmy, hXl, hYl, t1, t2, hxy]
          by_cases he : x = y
          · simp [he]
          · have px := places_ok (N : Int) x hx
            have py := places_ok (N : Int) y hy
            rw [hsz] at px py
            simp only [Int.toNat_natCast] at px py
            unfold idC at px py
            rw [← hX] at px
            rw [← hY] at py
            have hPx : ∃ Px : List CV, placesC N x = .ag Px ∧ Px.length = 3 ∧ Px = (plInts N x).map (CV.int .i64) := ⟨_, placesC_ints N x, rfl, rfl⟩
            have hPy : ∃ Py : List CV, placesC N y = .ag Py ∧ Py.length = 3 ∧ Py = (plInts N y).map (CV.int .i64) := ⟨_, placesC_ints N y, rfl, rfl⟩
            obtain ⟨Px, hPx, hPxl, hPxe⟩ := hPx
            obtain ⟨Py, hPy, hPyl, hPye⟩ := hPy
            have hspx : splice [CV.int IntKind.i64 0, CV.int IntKind.i64 0, CV.int IntKind.i64 0] 0 Px = Px := splice_full (by rw [hPxl]; rfl)
            have hspy : splice [CV.int IntKind.i64 0, CV.int IntKind.i64 0, CV.int IntKind.i64 0] 0 Py = Py := splice_full (by rw [hPyl]; rfl)
            rw [hPx] at px
            rw [hPy] at py
            have hsp32 : splice (rep 32 (CV.int .u8 0)) 0 X = X := splice_full (by simp [hXl])
            have hr0 : roomMax = 140737488355328 := rfl
            obtain ⟨L, hL⟩ : ∃ L, L = [CB.cells 32 X, CB.cells 32 Y, CB.cells 3 Px, CB.cells 3 Py, CB.cells 0 [], CB.cells 32 X] := ⟨_, rfl⟩
            have hLl : L.length = 6 := by rw [hL]; rfl
            have o0 : OwnS 32 L (.sl 32 4 0 0 0 0) 4 [] := .sl 4 0 0 0 [] [] (by rw [hL]; rfl) rfl rfl (by simp) (Nat.le_refl _) (by omega) rfl
            have hrow : ∀ l : List (List B), (∀ i ∈ l, i.length = 32) → ∀ e ∈ l.map eId, e.length = 32 := fun l hl e he => by obtain ⟨x, hx, rfl⟩ := List.mem_map.1 he; simp [eId, hl x hx]
            obtain ⟨v1, j1, l1, a1, a2, a3, a4, a5, a6⟩ := app_law (by_ := 32) o0 (x := encIds s) (xs := s.l.map eId) (by unfold encIds; rw [contents_encS]; simp) (hrow _ hs) (by omega) (by omega) (by simp; omega)
            have f0 : l1[0]? = some (CB.cells 32 X) := by rw [a4 0 (by omega) (by omega), hL]; rfl
            have f1 : l1[1]? = some (CB.cells 32 Y) := by rw [a4 1 (by omega) (by omega), hL]; rfl
            have f2 : l1[2]? = some (CB.cells 3 Px) := by rw [a4 2 (by omega) (by omega), hL]; rfl
            have f3 : l1[3]? = some (CB.cells 3 Py) := by rw [a4 3 (by omega) (by omega), hL]; rfl
            have f5 : l1[5]? = some (CB.cells 32 X) := by rw [a4 5 (by omega) (by omega), hL]; rfl
            have g5 : L[5]? = some (CB.cells 32 X) := by rw [hL]; rfl
            simp only [List.nil_append] at a2
            obtain ⟨v2, j2, l2, b1, b2, b3, b4, b5, b6⟩ := app_law (by_ := 32) a2 (x := .sl 32 5 0 1 1 32) (xs := [X]) (by simp [contentsL, f5, hXl, List.take_of_length_le]) (by simp [hXl]) (by omega) (by omega) (by simp; omega)
            simp [he, hXl, t1]
            refine pure_call px (by simp [closedL, CV.closed, hXc]) ?_
            simp [hPxl, hspx, hYl, t2]
            refine pure_call py (by simp [closedL, CV.closed, hYc]) ?_
            simp [hPyl, hspy, hXl, t1, hsp32]
            rw [← hL]
            simp [a1]
            refine AppK.keep ?_
            have hg5' : L[5] = CB.cells 32 X := (List.getElem?_eq_some_iff.1 g5).2
            have g0 : L[0]? = some (CB.cells 32 X) := by rw [hL]; rfl
            have hj1 : j1 = 4 ∨ 6 ≤ j1 := by omega
            have hj2 : j2 ≠ 0 ∧ j2 ≠ 1 ∧ j2 ≠ 2 ∧ j2 ≠ 3 := by omega
            obtain ⟨H, hH⟩ : ∃ H, H = l2.set j2 .dead := ⟨_, rfl⟩
            have H0 : H[0]? = some (CB.cells 32 X) := by rw [hH, List.getElem?_set_ne hj2.1, b4 0 (by omega) (by omega)]; exact f0
            have H1 : H[1]? = some (CB.cells 32 Y) := by rw [hH, List.getElem?_set_ne hj2.2.1, b4 1 (by omega) (by omega)]; exact f1
            have H2 : H[2]? = some (CB.cells 3 Px) := by rw [hH, List.getElem?_set_ne hj2.2.2.1, b4 2 (by omega) (by omega)]; exact f2
            have H3 : H[3]? = some (CB.cells 3 Py) := by rw [hH, List.getElem?_set_ne hj2.2.2.2, b4 3 (by omega) (by omega)]; exact f3
            have hnil2 : isNilS v2 = false := by rw [isNil_app b6]; simp
            have hes : s.l.map eId ++ [X] = (s.l ++ [x]).map eId := by rw [hX]; simp [eId]
            rw [hes] at b2
            simp [hLl, f0, f5, g5, hXl, t1, hg5', g0]
            simp [b1]
            refine AppK.frzS b2 hnil2 ?_
            rw [← hH, show CV.rsl 32 ((s.l ++ [x]).map eId) = encIds (some (s.l ++ [x])) from rfl]
            -- the plain part
            have hs' : ∀ z ∈ s.l, z.length = 32 := hs
            have hsx : ∀ z ∈ s.l ++ [x], z.length = 32 := fun z hz => by
              rcases List.mem_append.1 hz with h | h
              · exact hs' z h
              · simp at h; subst h; exact hx
            obtain ⟨u1, U1⟩ := ofS_tab hsz (ids := s.l ++ [x]) hsx (by simp; omega)
            obtain ⟨u2, U2⟩ := ofS_tab hsz (ids := s.l) hs' (by omega)
            have hA : (fun i => acc N zeroCell (s.l ++ [x]) i) = fun i => addC (acc N zeroCell s.l i) (one N x 1 i) := by funext i; exact acc_snoc _ _ _ _ _
            rw [hA] at u1 U1
            have hux := fun i => one_len (n := N) hx 1 i
            have huy := fun i => one_len (n := N) hy 1 i
            have b1x := fun i => one_bnd2 N x 1 i (by omega)
            have b1y := fun i => one_bnd2 N y 1 i (by omega)
            have b1y' := fun i => one_bnd2 N y (-1) i (by omega)
            have hlt : ∀ g : Nat → Cell, (Sv.l (some (tab N g))).length ≤ 1000000 := fun g => by rw [Sv.l_some, tab_len]; omega
            have q1 : ∀ i, i < N → subC (addC (acc N zeroCell s.l i) (one N x 1 i)) (acc N zeroCell s.l i) = one N x 1 i := fun i hi => sub_self_add (U2.o i hi) (hux i)
            have e1 := U1.sub U2 (by omega) (by omega) (fun i hi => by rw [q1 i hi]; have := b1x i; omega)
            rw [tab_ext q1] at e1
            have T1 : Tb N 100 fun i => one N x 1 i := ⟨hsz, fun i _ => by have := b1x i; omega, fun i _ => hux i⟩
            have ho1 := hon_one hsz 58 hx (.inl rfl) (g := fun i => one N x 1 i) (fun i _ => rfl) (done := []) (by simp) (.inl ⟨rfl, rfl, rfl⟩)
            obtain ⟨l1', r1', k1, k2, k3⟩ := hon_peelE T1 ho1 (fun i hi => by show one N x 1 i = addC zeroCell (one N x 1 i); rw [zero_add (hux i)]) (by simp) (by simp) (by simp) (by simp [hx]) (by simp) (by simp)
            have d1 := of_ok (N : Int) (some (s.l ++ [x])) hsx (by simp; omega)
            have d2 := of_ok (N : Int) s hs (by omega)
            rw [Sv.l_some, u1] at d1
            rw [u2] at d2
            have d3 := sub_ok _ _ U1.ok U2.ok (hlt _) (hlt _)
            rw [e1] at d3
            have d4 := peel_ok (some (tab N fun i => one N x 1 i)) T1.ok (hlt _)
            rw [k1, peelC_eq] at d4
            have hs1 := sameIds_ok (some [x]) (some [x]) (fun z hz => by simp at hz; subst hz; exact hx) (fun z hz => by simp at hz; subst hz; exact hx) (by simp)
            simp only [decide_true] at hs1
            have hz2 : lenM (.sl 32) (encIds none) = some (.int .i64 0) := rfl
            have heq3 : binC Tryd.prog .eql 31 (.ag Px) (.ag Py) = some (.bool (decide (plInts N x = plInts N y))) := by rw [hPxe, hPye]; exact eq_three rfl rfl
            have oneX : ∀ (l : Hl) (b : Nat), l[b]? = some (CB.cells 32 X) → OwnS 32 l (.sl 32 b 0 1 1 32) b (([x] : List (List B)).map eId) := fun l b hb =>
              .sl b 1 1 32 X _ hb hXl rfl (fun e he => by simp at he; subst he; simp [eId, hx]) (Nat.le_refl _) (by omega) (by rw [List.take_of_length_le (by omega), hX]; simp [eId])
            have oneY : ∀ (l : Hl) (b : Nat), l[b]? = some (CB.cells 32 Y) → OwnS 32 l (.sl 32 b 0 1 1 32) b (([y] : List (List B)).map eId) := fun l b hb =>
              .sl b 1 1 32 Y _ hb hYl rfl (fun e he => by simp at he; subst he; simp [eId, hy]) (Nat.le_refl _) (by omega) (by rw [List.take_of_length_le (by omega), hY]; simp [eId])
            simp
            refine pure_call d1 (by simp [closedL, CV.closed, closed_ids]) ?_
            simp
            refine pure_call d2 (by simp [closedL, CV.closed, hcs]) ?_
            simp
            refine pure_call d3 (by simp [closedL, CV.closed, closed_sk]) ?_
            simp
            refine pure_call d4 (by simp [closedL, CV.closed, closed_sk]) ?_
            simp [pL, pR, pN, pE, svB_one k2, svB_none k3, H0, hXl, t1, hsp32]
            refine pure_callB hs1 (.cons (.same _ (closed_ids _)) (.cons ((oneX _ _ (by simp)).rdH_enc closed_eId (some [x]) rfl rfl) .nil)) rfl ?_
            obtain ⟨H', hH'⟩ : ∃ H', H' = H ++ [CB.cells 32 X] := ⟨_, rfl⟩
            have hHl : 3 < H.length := (List.getElem?_eq_some_iff.1 H3).1
            have G0 : H'[0]? = some (CB.cells 32 X) := by rw [hH', List.getElem?_append_left (by omega)]; exact H0
            have G1 : H'[1]? = some (CB.cells 32 Y) := by rw [hH', List.getElem?_append_left (by omega)]; exact H1
            have G2 : H'[2]? = some (CB.cells 3 Px) := by rw [hH', List.getElem?_append_left (by omega)]; exact H2
            have G3 : H'[3]? = some (CB.cells 3 Py) := by rw [hH', List.getElem?_append_left (by omega)]; exact H3
            have hH'l : 3 < H'.length := (List.getElem?_eq_some_iff.1 G3).1
            have G0X : ∀ Z : Hl, (H' ++ Z)[0]? = some (CB.cells 32 X) := fun Z => by rw [List.getElem?_append_left (by omega)]; exact G0
            have G1X : ∀ Z : Hl, (H' ++ Z)[1]? = some (CB.cells 32 Y) := fun Z => by rw [List.getElem?_append_left (by omega)]; exact G1
            have tp1 : Px.take 3 = Px := List.take_of_length_le (by omega)
            have tp2 : Py.take 3 = Py := List.take_of_length_le (by omega)
            rw [← hH']
            have hspY : splice (rep 32 (CV.int .u8 0)) 0 Y = Y := splice_full (by simp [hYl])
            simp [hz2, G2, G3, hPxl, hPyl, tp1, tp2, heq3]
            by_cases hpp : plInts N x = plInts N y
            · simp [hpp]
            · have hpl : placesL N x ≠ placesL N y := fun h => hpp ((plInts_iff N x y).2 h)
              simp [hpp]
              cases apart with
              | true =>
                obtain ⟨a1', A1⟩ := U2.put (by omega) hy (by_ := 1) (by omega)
                have c1 := add_ok _ y U2.ok (by have := hlt (fun i => acc N zeroCell s.l i); omega) hy
                rw [a1'] at c1
                unfold idC at c1
                rw [← hY] at c1
                have q2 : ∀ i, i < N → subC (addC (acc N zeroCell s.l i) (one N x 1 i)) (addC (acc N zeroCell s.l i) (one N y 1 i)) = addC (one N x 1 i) (one N y (-1) i) := fun i hi => by rw [sub_two (U2.o i hi) (hux i) (huy i), one_neg]
                have e2 := U1.sub A1 (by omega) (by omega) (fun i hi => by rw [q2 i hi]; have := b1x i; have := b1y' i; simp only [addC]; omega)
                rw [tab_ext q2] at e2
                have c2 := sub_ok _ _ U1.ok A1.ok (hlt _) (hlt _)
                rw [e2] at c2
                have T2 : Tb N 100 fun i => addC (one N x 1 i) (one N y (-1) i) := ⟨hsz, fun i _ => by have := b1x i; have := b1y' i; simp only [addC]; omega, fun i _ => addC_len (hux i) (one_len hy _ _)⟩
                have ho2 := hon_two hsz hx hy he hpl (.inr rfl) (g := fun i => addC (one N x 1 i) (one N y (-1) i)) (fun i _ => rfl) (.inr ⟨rfl, rfl, rfl⟩)
                obtain ⟨l2', r2', m1, m2, m3⟩ := hon_peelE T2 ho2 (fun i hi => by show _ = addC (addC zeroCell (one N x 1 i)) (one N y (-1) i); rw [zero_add (hux i)]) (by simp) (by simp) (by simp; exact he) (by simp [hx]) (by simp [hy]) (by simp)
                have c3 := peel_ok (some (tab N fun i => addC (one N x 1 i) (one N y (-1) i))) T2.ok (hlt _)
                rw [m1, peelC_eq] at c3
                have hz0 : okSk (some (List.replicate N zeroCell)) := fun c hc => by rw [Sv.l_some] at hc; rw [(List.mem_replicate.1 hc).2]; rfl
                have s3 := same_ok (some (List.replicate N zeroCell)) (some (List.replicate N zeroCell)) hz0 hz0 (by simp; omega)
                have hs2 := sameIds_ok (some [y]) (some [y]) (fun z hz => by simp at hz; subst hz; exact hy) (fun z hz => by simp at hz; subst hz; exact hy) (by simp)
                simp only [decide_true] at s3 hs2
                have hmk := fun z l => mks_nat (z := 34) (by_ := 48) (n := N) (k := .i64) (k' := .i64) (zero := z) (l := l) (by omega) (by rw [hr0]; omega)
                simp [G1, hYl, t2]
                refine pure_call c1 (by simp [closedL, CV.closed, closed_sk, hYc]) ?_
                simp
                refine pure_call c2 (by simp [closedL, CV.closed, closed_sk]) ?_
                simp
                refine pure_call c3 (by simp [closedL, CV.closed, closed_sk]) ?_
                simp [pL, pR, pN, pE, svB_one m2, svB_one m3, hmk]
                refine pure_callB s3 (.cons (.same _ (closed_sk _)) (.cons (rdH_new rfl (by simp; rfl)) .nil)) rfl ?_
                obtain ⟨H2, hH2⟩ : ∃ H2, H2 = H' ++ [CB.cells (N * 34) (repeatC (CV.int IntKind.i64 0 :: (rep 32 (CV.int IntKind.u8 0) ++ [CV.int IntKind.u64 0])) N)] := ⟨_, rfl⟩
                have J0 : H2[0]? = some (CB.cells 32 X) := by rw [hH2]; exact G0X _
                have J1 : H2[1]? = some (CB.cells 32 Y) := by rw [hH2]; exact G1X _
                have hH2l : 1 < H2.length := (List.getElem?_eq_some_iff.1 J1).1
                have J1X : ∀ Z : Hl, (H2 ++ Z)[1]? = some (CB.cells 32 Y) := fun Z => by rw [List.getElem?_append_left hH2l]; exact J1
                rw [← hH2]
                simp [J0, J1, hXl, hYl, t1, t2, hsp32, hspY]
                refine pure_callB hs1 (.cons (.same _ (closed_ids _)) (.cons ((oneX (H2 ++ [CB.cells 32 X]) H2.length (by simp)).rdH_enc closed_eId (some [x]) rfl rfl) .nil)) rfl ?_
                simp [J1X, hXl, hYl, t1, t2, hsp32, hspY]
                refine pure_callB hs2 (.cons (.same _ (closed_ids _)) (.cons ((oneY (H2 ++ [CB.cells 32 X, CB.cells 32 Y]) (H2.length + 1) (by simp)).rdH_enc closed_eId (some [y]) rfl rfl) .nil)) rfl ?_
                simp
              | false =>
                obtain ⟨a1', A1⟩ := U1.put (by omega) hy (by_ := 1) (by omega)
                have c1 := add_ok _ y U1.ok (by have := hlt (fun i => addC (acc N zeroCell s.l i) (one N x 1 i)); omega) hy
                rw [a1'] at c1
                unfold idC at c1
                rw [← hY] at c1
                have q2 : ∀ i, i < N → subC (addC (addC (acc N zeroCell s.l i) (one N x 1 i)) (one N y 1 i)) (acc N zeroCell s.l i) = addC (one N x 1 i) (one N y 1 i) := fun i hi => by rw [addC_assoc, sub_self_add (U2.o i hi) (addC_len (hux i) (huy i))]
                have e2 := A1.sub U2 (by omega) (by omega) (fun i hi => by rw [q2 i hi]; have := b1x i; have := b1y i; simp only [addC]; omega)
                rw [tab_ext q2] at e2
                have c2 := sub_ok _ _ A1.ok U2.ok (hlt _) (hlt _)
                rw [e2] at c2
                have T2 : Tb N 100 fun i => addC (one N x 1 i) (one N y 1 i) := ⟨hsz, fun i _ => by have := b1x i; have := b1y i; simp only [addC]; omega, fun i _ => addC_len (hux i) (huy i)⟩
                have ho2 := hon_two hsz hx hy he hpl (.inl rfl) (g := fun i => addC (one N x 1 i) (one N y 1 i)) (fun i _ => rfl) (.inl ⟨rfl, rfl, rfl⟩)
                obtain ⟨l2', r2', m1, m2, m3⟩ := hon_peelE T2 ho2 (fun i hi => by show _ = addC (addC zeroCell (one N x 1 i)) (one N y 1 i); rw [zero_add (hux i)]) (by simp [he]) (by simp) (by simp) (by simp [hx, hy]) (by simp) (by simp)
                have c3 := peel_ok (some (tab N fun i => addC (one N x 1 i) (one N y 1 i))) T2.ok (hlt _)
                rw [m1, peelC_eq] at c3
                have hz0 : okSk (some (List.replicate N zeroCell)) := fun c hc => by rw [Sv.l_some] at hc; rw [(List.mem_replicate.1 hc).2]; rfl
                have s3 := same_ok (some (List.replicate N zeroCell)) (some (List.replicate N zeroCell)) hz0 hz0 (by simp; omega)
                simp only [decide_true] at s3
                have hmk := fun z l => mks_nat (z := 34) (by_ := 48) (n := N) (k := .i64) (k' := .i64) (zero := z) (l := l) (by omega) (by rw [hr0]; omega)
                have hl2 : ∀ z ∈ l2', z.length = 32 := fun z hz => by have := m2.mem_iff.1 hz; simp at this; rcases this with rfl | rfl <;> assumption
                have hl2l := m2.length_eq
                have hlen2 : lenM (.sl 32) (encIds (svB l2')) = some (.int .i64 2) := by
                  have : lenM (.sl 32) (encIds (svB l2')) = some (.int .i64 (svB l2').l.length) := len_encS _
                  rw [this, lenSv, hl2l]; rfl
                have inx := in_ok (svB l2') x (okSv hl2) (by rw [lenSv, hl2l]; simp) hx
                have iny := in_ok (svB l2') y (okSv hl2) (by rw [lenSv, hl2l]; simp) hy
                have mx : x ∈ sortB l2' := (sortB_perm l2').mem_iff.2 (m2.mem_iff.2 (by simp))
                have my : y ∈ sortB l2' := (sortB_perm l2').mem_iff.2 (m2.mem_iff.2 (by simp))
                rw [svB_l] at inx iny
                simp only [mx, my, decide_true] at inx iny
                unfold idC at inx iny
                rw [← hX] at inx
                rw [← hY] at iny
                have hinc := inc_ok (svB l2') (okSv hl2) (by rw [lenSv, hl2l]; simp)
                rw [svB_l, inc_sort (m2.nodup_iff.2 (by simp [he]))] at hinc
                simp [G1, hYl, t2]
                refine pure_call c1 (by simp [closedL, CV.closed, closed_sk, hYc]) ?_
                simp
                refine pure_call c2 (by simp [closedL, CV.closed, closed_sk]) ?_
                simp
                refine pure_call c3 (by simp [closedL, CV.closed, closed_sk]) ?_
                simp [pL, pR, pN, pE, svB_none m3, hmk]
                refine pure_callB s3 (.cons (.same _ (closed_sk _)) (.cons (rdH_new rfl (by simp; rfl)) .nil)) rfl ?_
                obtain ⟨H2, hH2⟩ : ∃ H2, H2 = H' ++ [CB.cells (N * 34) (repeatC (CV.int IntKind.i64 0 :: (rep 32 (CV.int IntKind.u8 0) ++ [CV.int IntKind.u64 0])) N)] := ⟨_, rfl⟩
                have J0 : H2[0]? = some (CB.cells 32 X) := by rw [hH2]; exact G0X _
                have J1 : H2[1]? = some (CB.cells 32 Y) := by rw [hH2]; exact G1X _
                have hH2l : 1 < H2.length := (List.getElem?_eq_some_iff.1 J1).1
                have J1X : ∀ Z : Hl, (H2 ++ Z)[1]? = some (CB.cells 32 Y) := fun Z => by rw [List.getElem?_append_left hH2l]; exact J1
                rw [← hH2]
                simp [hlen2, hz2, J0, hXl, hYl, t1, t2]
                refine pure_call inx (by simp [closedL, CV.closed, closed_ids, hXc]) ?_
                simp [J1, hYl, t2]
                refine pure_call iny (by simp [closedL, CV.closed, closed_ids, hYc]) ?_
                simp
                refine pure_call hinc (by simp [closedL, closed_ids]) ?_
                simp
end Sk
end Go.CM

/-
  Ids looked up in a list, walked.
-/
import Derived.Test.YtdjbnhgdhambnaaGreatDoorDi
import Derived.RangeFuncNested
import Derived.RangeFuncBound
import Derived.RangeFuncCalls
import Derived.RangeFuncLeaves
import Derived.OwnWalkIn
import Derived.LoopNIn
import Derived.Shelf.Abstract
set_option linter.unusedVariables false
set_option linter.unusedSimpArgs false
set_option linter.unnecessarySimpa false
namespace Go.CM
open Go Go.Proofs
set_option maxRecDepth 100000
namespace Op
open Sha
def ixOf {α : Type} [DecidableEq α] (x : α) : List α → Nat → Int
 | [], _ => -1
 | y :: r, k => if y = x then (k : Int) else ixOf x r (k + 1)
theorem ixOf_neg {α : Type} [DecidableEq α] (x : α) : ∀ (l : List α) (k : Nat), (0 ≤ ixOf x l k) ↔ x ∈ l
 | [], k => by simp [ixOf]
 | y :: r, k => by
  unfold ixOf
  by_cases h : y = x
  ·simp [h]
  ·rw [if_neg h, ixOf_neg x r (k + 1)]
   simp [Ne.symm h]
theorem ixOf_at {α : Type} [DecidableEq α] {x : α} : ∀ {l : List α} {k n : Nat} {y : α}, l[k]? = some y → (∀ (j : Nat) (z : α), j < k → l[j]? = some z → z ≠ x) → y = x → ixOf x l n = ((n + k : Nat) : Int)
 | [], k, n, y, h, _, _ => by simp at h
 | w :: r, 0, n, y, h, _, hy => by
  simp at h; subst h
  unfold ixOf
  rw [if_pos hy]; simp
 | w :: r, k + 1, n, y, h, hl, hy => by
  unfold ixOf
  rw [if_neg (hl 0 w (by omega) (by simp)), ixOf_at (k := k) (n := n + 1) (by simpa using h) (fun j z hj hz => hl (j + 1) z (by omega) (by simpa using hz)) hy]
  congr 1; omega
theorem ixOf_no {α : Type} [DecidableEq α] {x : α} : ∀ {l : List α} {n : Nat}, (∀ (j : Nat) (z : α), l[j]? = some z → z ≠ x) → ixOf x l n = -1
 | [], n, _ => rfl
 | w :: r, n, hl => by
  unfold ixOf
  rw [if_neg (hl 0 w (by simp)), ixOf_no fun j z hz => hl (j + 1) z (by simpa using hz)]
theorem wIndexI_ok (s : Ids) (ho : okIds s) (hl : s.l.length ≤ 1000000) (x : List B) (hx : x.length = 32) : PureC Tryz.prog GS 119 [encIds s, .ag (eId x)] (.int .i64 (ixOf x s.l 0)) := by
 refine pure_of Tryz.checked.mixed GS_closed ?_
 apply call_intro c119_eq r119_eq
 unfold c119 r119
 simp [encIds]
 refine loop_up s.l.length (fun k σ l => l = [.cells 32 (eId x)] ∧ σ 0 = encS 32 eId s ∧ σ 3 = .ptr 0 0 32 ∧ σ 7 = .int .i64 s.l.length ∧ σ 8 = .int .i64 k ∧ ∀ (j : Nat) (z : List B), j < k → s.l[j]? = some z → z ≠ x) ?_ (by simp [encIds, eId_len hx])
 rintro k σ l hk ⟨rfl, g0, g3, g7, g8, hs⟩
 obtain ⟨σ, rfl⟩ := upds4 g0 g3 g7 g8
 clear g0 g3 g7 g8
 unfold l119_0
 simp
 refine kIf_intro (fun h => ?_) (fun h => ?_)
 ·simp only [decide_eq_true_eq] at h
  obtain ⟨y, hy, hym⟩ := get_of (l := s.l) (k := k) (by omega)
  have e1 : IntKind.i64.wrap ((k : Int) + 1) = ((k + 1 : Nat) : Int) := by rw [IntKind.wrap_i64]; omega
  simp [hy, eId_len (ho y hym), eId_len hx, List.take_of_length_le, idEql hx (ho y hym)]
  by_cases he : x = y
  ·have hix := ixOf_at (n := 0) hy hs he.symm
   simp [he]
   exact rd_eq (by rw [← he, hix]; simp) rfl
  ·simp [he, e1]
   refine ⟨by omega, fun j z hj hz => ?_⟩
   by_cases hjk : j = k
   ·subst hjk; rw [hy] at hz; obtain rfl := Option.some.inj hz; exact fun h => he h.symm
   ·exact hs j z (by omega) hz
 ·simp [h]
  have hk2 : k = s.l.length := by simp at h; omega
  exact rd_eq (by rw [ixOf_no fun j z hz => hs j z (by rw [hk2]; exact (List.getElem?_eq_some_iff.1 hz).1) hz]) rfl
theorem wInI_ok (s : Ids) (ho : okIds s) (hl : s.l.length ≤ 1000000) (x : List B) (hx : x.length = 32) : PureC Tryz.prog GS 66 [encIds s, .ag (eId x)] (.bool (decide (x ∈ s.l))) := by
 refine pure_of Tryz.checked.mixed GS_closed ?_
 apply call_intro c66_eq r66_eq
 unfold c66 r66
 simp [eId_len hx, List.take_of_length_le]
 refine pure_call (wIndexI_ok s ho hl x hx) (by have := closed_ids s; have := closed_eId x; simp_all [closedL, CV.closed]) ?_
 simp
 exact rd_eq (congrArg CV.bool (by simp only [ixOf_neg])) rfl
end Op
end Go.CM

namespace Go.CM
open Go Go.Proofs Go.RowKit
set_option maxRecDepth 100000
section
variable {P : Program} {n : Nat}
theorem op_wide {o : Oper} {a : Act} {w : World} {K K' : Act → World → Prop} {Q Q' : Exit → Act → World → Prop} (hK : ∀ a w, K a w → K' a w) (hQ : ∀ e a w, e ≠ .normal → Q e a w → Q' e a w) (h : o.wp P a w K Q) : o.wpIn Fence.wide n P a w K' Q' := by
 unfold Oper.wp at h
 refine ⟨fun _ _ => trivial, ?_⟩
 show o.uponIn Fence.wide n P a K' Q' ((execOp a.eval o).run P w)
 cases hx : (execOp a.eval o).run P w with
 | ok x w' =>
  rw [hx] at h
  cases x with
  | value v => exact hK _ _ h
  | skip => exact hK _ _ h
  | defer d => exact hK _ _ h
  | enter f args =>
   refine ⟨fun hd => (by cases hd), (callsIn_wide.2 h).mono ?_⟩
   rintro (v | ch | _) w2 h2
   ·exact hK _ _ h2
   ·exact hQ _ _ _ (by simp) h2
   ·obtain ⟨a0, w0, hh⟩ := h2
    exact ⟨a0, w0, hQ _ _ _ (by simp) hh⟩
  | row r args => exact ⟨fun hd => (by cases hd), fun c cs _ => let ⟨v, w', r, s⟩ := h c cs; ⟨v, w', hK _ _ r, stepsIn_wide.2 s⟩⟩
  | _ => exact h.elim
 | halt e w' =>
  rw [hx] at h
  cases e <;> first | exact hQ _ _ _ (by simp) h | exact h.elim
theorem list_wide {all : Array Oper} {Q : Exit → Act → World → Prop} : ∀ {l1 l2 : List Oper} {a : Act} {w : World},
  wpList P all (fun e a w => match e with | .normal => wpListIn Fence.wide n P all Q l2 a w | _ => False) l1 a w → wpListIn Fence.wide n P all Q (l1 ++ l2) a w
 | [], l2, a, w, h => h
 | o :: l1, l2, a, w, h => by
  rw [List.cons_append]
  unfold wpList at h
  unfold wpListIn
  split
  ·rename_i hw
   rw [if_pos hw] at h
   rcases h with h | ⟨_, a0, w0, hh⟩
   ·refine op_wide (fun a w hh => list_wide hh) (fun e a w he hh => ?_) h
    cases e <;> first | exact absurd rfl he | exact hh.elim
   ·exact hh.elim
  ·rename_i hw
   rw [if_neg hw] at h
   exact ⟨fun _ _ => trivial, list_wide h⟩
end
section
variable {P : Program} {n : Nat}
def recR (fn : FuncId) (tmps : Array Value) (ps : Array Tmp) (body : Code) (D : Nat) (st : LoopState) (pe : Option Code) : Loop := { state := st, pending := pe, fn, tmps := tmps, params := ps, assign := .skip, body, defers := D }
theorem range1 {g : Operand} {ps : Array Tmp} {body : Code} {Q : Exit → Act → World → Prop} {a : Act} {w : World} {gf : Nat} {lb : Array Value}
  (hg : a.eval g = .func (.func gf) #[] lb) (eg : ∀ args w, (callFunc gf args).run P w = .ok (.enter gf args) w) (hps : ps.size = 1)
  {A B : Prop} (T : World → World → Prop) (hT : ∀ W W', T W W' → KeepsOthers W W')
  (hbody : ∀ (fn : FuncId) (x : Value) (W : World), Blw ((w.alloc (.deferred (some []))).alloc (.loop (recR fn a.tmps ps body w.heap.size .ready none))) W →
   body.wpIn (Fence.wide.inRound (w.heap.size + 1)) n P (fun e _ W' => e = .ret ∧ T (W.putObj (w.heap.size + 1) (.loop (recR fn a.tmps ps body w.heap.size .busy none))) W')
    { tmps := (ps.zip #[x]).foldl (fun t (p, v) => t.setIfInBounds p v) a.tmps, defers := [] } (W.putObj (w.heap.size + 1) (.loop (recR fn a.tmps ps body w.heap.size .busy none))))
  (hcall : ∀ (fn : FuncId) (W1 : World), W1 = (w.alloc (.deferred (some []))).alloc (.loop (recR fn a.tmps ps body w.heap.size .ready none)) →
   (∀ (x : Value) (W : World), Blw W1 W → YieldAt Fence.wide n P (w.heap.size + 1) #[x] W fun e W' => e = .returned (.bool false) ∧ ∃ W3, T (W.putObj (w.heap.size + 1) (.loop (recR fn a.tmps ps body w.heap.size .busy none))) W3 ∧
    W' = W3.putObj (w.heap.size + 1) (.loop (recR fn a.tmps ps body w.heap.size .done (some .ret)))) →
   CallsIn Fence.wide (n - 1) P gf (#[.func (.yield (w.heap.size + 1)) #[] #[]] ++ lb) W1 fun e W2 => (∃ v, e = .returned v) ∧ ((A ∧ Blw W1 W2) ∨
    (B ∧ ∃ W W3, Blw W1 W ∧ T (W.putObj (w.heap.size + 1) (.loop (recR fn a.tmps ps body w.heap.size .busy none))) W3 ∧ Blw (W3.putObj (w.heap.size + 1) (.loop (recR fn a.tmps ps body w.heap.size .done (some .ret)))) W2)))
  (hdone : ∀ (fn : FuncId) (W1 W2 : World), W1 = (w.alloc (.deferred (some []))).alloc (.loop (recR fn a.tmps ps body w.heap.size .ready none)) → A → Blw W1 W2 →
   Q .normal { a with defers := { target := .collected w.heap.size, args := #[] } :: a.defers } (W2.putObj (w.heap.size + 1) (.loop (recR fn a.tmps ps body w.heap.size .exhausted none))))
  (hstop : ∀ (fn : FuncId) (W1 W W3 W2 : World), W1 = (w.alloc (.deferred (some []))).alloc (.loop (recR fn a.tmps ps body w.heap.size .ready none)) → B → Blw W1 W →
   T (W.putObj (w.heap.size + 1) (.loop (recR fn a.tmps ps body w.heap.size .busy none))) W3 → Blw (W3.putObj (w.heap.size + 1) (.loop (recR fn a.tmps ps body w.heap.size .done (some .ret)))) W2 →
   Q .ret { a with defers := { target := .collected w.heap.size, args := #[] } :: a.defers } (W2.putObj (w.heap.size + 1) (.loop (recR fn a.tmps ps body w.heap.size .exhausted (some .ret))))) :
  (Code.rangeFunc g ps .skip body).wpIn Fence.wide n P Q a w := by
 refine wpIn_rangeFunc ?_
 intro fn hfn
 rw [Fence.wide_round]
 obtain ⟨W1, hW1⟩ : ∃ W1, (w.alloc (.deferred (some []))).alloc (.loop (recR fn a.tmps ps body w.heap.size .ready none)) = W1 := ⟨_, rfl⟩
 have hL1 : W1.heap[w.heap.size + 1]? = some (.loop (recR fn a.tmps ps body w.heap.size .ready none)) := by
  rw [← hW1]; have := World.alloc_heap_new (w.alloc (.deferred (some []))) (.loop (recR fn a.tmps ps body w.heap.size .ready none)); rwa [World.size_alloc] at this
 have hsz : W1.heap.size = w.heap.size + 2 := by rw [← hW1]; simp
 refine ⟨w.heap.size + 1, [{ target := .collected w.heap.size, args := #[] }], W1, { target := .fn (.func gf) lb, args := #[.func (.yield (w.heap.size + 1)) #[] #[]] }, W1, gf,
  #[.func (.yield (w.heap.size + 1)) #[] #[]] ++ lb, W1, ?_, ?_, ?_, ?_, fun hd => (by cases hd), ?_⟩
 ·rw [← hW1]; exact run_enterLoop_outer _ _ _ _ _
 ·simp only [resolve, hg]
  simp [go_sem]
 ·intro f' hf'; trivial
 ·simp [invoke, go_sem, eg]
 ·refine (hcall fn W1 hW1.symm fun x W hb => ?_).mono ?_
  ·have hl : W.heap[w.heap.size + 1]? = some (.loop (recR fn a.tmps ps body w.heap.size .ready none)) := (hb.toBelow.block _ (by omega)).trans hL1
   have hlt : w.heap.size + 1 < W.heap.size := (Array.getElem?_eq_some_iff.1 hl).1
   have hy := run_yield (P := P) (args := #[x]) hl (by show 1 = ps.size; omega)
   refine ⟨fn, _, .skip, body, hy, roundIn_of_wpIn hfn (wpIn_skip ⟨_, run_beginRound hl rfl, ?_⟩)⟩
   have hl2 : (W.putObj (w.heap.size + 1) (.loop (recR fn a.tmps ps body w.heap.size .busy none))).heap[w.heap.size + 1]? = some (.loop (recR fn a.tmps ps body w.heap.size .busy none)) := World.putObj_heap_same hlt
   refine wpIn_mono (hbody fn x W (by rw [hW1]; exact hb)) ?_
   rintro e a3 W3 ⟨rfl, ht⟩
   have hl3 := (hT _ _ ht).same _ _ hl2 rfl
   have hr := run_endRound (P := P) (some .ret) hl3
   exact ⟨_, _, hr, rfl, W3, ht, rfl⟩
  ·rintro e W2 ⟨⟨v, rfl⟩, (⟨hA, hb⟩ | ⟨hB, W, W3, hb, ht, hb2⟩)⟩
   ·have hl : W2.heap[w.heap.size + 1]? = some (.loop (recR fn a.tmps ps body w.heap.size .ready none)) := (hb.toBelow.block _ (by omega)).trans hL1
    exact ⟨none, _, run_endLoop (P := P) hl (by simp [recR]), hdone fn W1 W2 hW1.symm hA hb⟩
   ·have hl : W.heap[w.heap.size + 1]? = some (.loop (recR fn a.tmps ps body w.heap.size .ready none)) := (hb.toBelow.block _ (by omega)).trans hL1
    have hlt : w.heap.size + 1 < W.heap.size := (Array.getElem?_eq_some_iff.1 hl).1
    have hl2 : (W.putObj (w.heap.size + 1) (.loop (recR fn a.tmps ps body w.heap.size .busy none))).heap[w.heap.size + 1]? = some (.loop (recR fn a.tmps ps body w.heap.size .busy none)) := World.putObj_heap_same hlt
    have hl3 := (hT _ _ ht).same _ _ hl2 rfl
    have hlt3 := (Array.getElem?_eq_some_iff.1 hl3).1
    have hl4 : W2.heap[w.heap.size + 1]? = some (.loop (recR fn a.tmps ps body w.heap.size .done (some .ret))) := (hb2.toBelow.block _ (by simpa using hlt3)).trans (World.putObj_heap_same hlt3)
    exact ⟨some .ret, _, run_endLoop (P := P) hl4 (by simp [recR]), wpIn_ret (hstop fn W1 W W3 W2 hW1.symm hB hb ht hb2)⟩
end
def subC : Code → List Bool → Code
 | c, [] => c
 | .seq a b, d :: r => subC (if d then b else a) r
 | .block _ c, _ :: r => subC c r
 | .loop c, _ :: r => subC c r
 | .cond _ a b, d :: r => subC (if d then b else a) r
 | .rangeFunc _ _ a b, d :: r => subC (if d then b else a) r
 | c, _ :: _ => c
def opsC : Code → Array Oper
 | .region _ o _ => o
 | _ => #[]
section
variable {P : Program} {G : Nat → CV}
theorem code_in (hmix : P.follows .mixedOrders = true) (hG : ∀ g, (G g).closed = true) {N n : Nat} {code : Code} {c : Cd} (hc : comp P N code = some c) {σ : Sg} {l : Hl} {K : KC} (hrun : run P G c σ l K)
  {R : Nat → Prop} {B : Nat} {w : World} {μ : Mu} {a : Act} {Q : Exit → Act → World → Prop} (rel : Rel R B w (HL l) μ) (g : Gok G w R (HL l) μ) (s : SR N w R (HL l) μ σ a)
  (hQ : ∀ e a' w' μ' σ' l', K e σ' l' → Ext w (HL l) μ w' (HL l') μ' → Rel R B w' (HL l') μ' → SR N w' R (HL l') μ' σ' a' → Q e.out a' w') : code.wpIn Fence.wide n P Q a w := by
 obtain ⟨e, σ', l', hev, _, hk⟩ := run_ok (Nat.le_refl N) code c hc σ l K hrun
 obtain ⟨n0, hs⟩ := sound hmix hG hev
 exact wpIn_wide.2 (wpX.wp (hs R B w μ a Q rel g s fun a' w' μ' e1 r1 s1 => hQ e a' w' μ' σ' l' hk e1 r1 s1))
theorem part_in (hmix : P.follows .mixedOrders = true) (hG : ∀ g, (G g).closed = true) {N n : Nat} {ops : Array Oper} (hN : ∀ (i : Nat) (o : Oper), ops[i]? = some o → dstOk N o.dst = true) {ss : List Stp} {os l2 : List Oper} (hall : AllOk P ops ss os)
  {σ : Sg} {l : Hl} {K : Sg → Hl → Prop} (hrun : runS P G ss σ l K)
  {R : Nat → Prop} {B : Nat} {w : World} {μ : Mu} {a : Act} {Q : Exit → Act → World → Prop} (rel : Rel R B w (HL l) μ) (g : Gok G w R (HL l) μ) (s : SR N w R (HL l) μ σ a)
  (hQ : ∀ a' w' μ' σ' l', K σ' l' → Ext w (HL l) μ w' (HL l') μ' → Rel R B w' (HL l') μ' → SR N w' R (HL l') μ' σ' a' → wpListIn Fence.wide n P ops Q l2 a' w') : wpListIn Fence.wide n P ops Q (os ++ l2) a w := by
 obtain ⟨σ', l', hev, _, hk⟩ := runS_ok hN hall hrun
 refine list_wide ?_
 exact sound hmix hG hev R B w μ a _ rel g s fun a' w' μ' e1 r1 s1 => hQ a' w' μ' σ' l' hk e1 r1 s1
theorem round_any {n m : Nat} {l : Nat} {f : FuncId} {tmps : Array Value} {assign body : Code} {w : World} {R : Ending → World → Prop} (h : RoundIn Fence.wide n P l f tmps assign body w R) : RoundIn Fence.wide m P l f tmps assign body w R :=
 ⟨h.1, fun c cs _ => h.2 c cs (room_wide _)⟩
theorem ptr_ro {R : Nat → Prop} {B : Nat} {w : World} {l : Hl} {μ : Mu} (rel : Rel R B w (HL l) μ) {b sz : Nat} {cs : List CV} (hb : l[b]? = some (.cells sz cs)) (hc : closedL cs = true) {v : Value} (hv : VR w R (HL l) μ (.ptr b 0 sz) v) : VR0 w R (.rptr cs 0) v := by
 have hf : (HL l).f b = .cells sz cs := HL_cells.2 hb
 cases hv with
 | ptrGone _ _ _ a hg =>
  rcases hg with h | ⟨n, cs2, h, hlt⟩
  ·rw [hf] at h; cases h
  ·rw [hf] at h; injection h with h1 h2; omega
 | ptr _ _ _ cs2 m hb2 hm =>
  rw [hf] at hb2
  injection hb2 with _ e2
  subst e2
  have hbk := rel.blk b m hm
  rw [hf] at hbk
  obtain ⟨h1, h2, arr, e, fz, h3, h4, h5, h6⟩ := hbk
  have hR : R m.r := rel.up _ (rel.base b m (by rw [hf]; rfl) hm)
  refine .rptr cs 0 m.r m.s (fun j => (arr[m.s + j]?).getD undef) (fun j hj => ?_) fun j c hj => ?_
  ·obtain ⟨v, k1, k2, k3⟩ := h6 j cs[j] (List.getElem?_eq_getElem hj)
   rw [k1]
   refine ⟨?_, k2, hR, not_own_empty _ _⟩
   simp only [World.cell?, h3]
   simpa using k1
  ·obtain ⟨v, k1, k2, k3⟩ := h6 j c hj
   rw [k1]
   exact (closed_vr k3 (closedL_get hc j c hj)).up fun k _ hk => ⟨hk.1, not_own_empty _ _⟩
theorem VR0.blw {w w' : World} {A : Nat → Prop} {c : CV} {v : Value} (hv : VR0 w A c v) (hb : Blw w w') : VR0 w' A c v := by
 obtain ⟨e, _⟩ := rel_below (rel_empty w (fun k => A k ∨ w.heap.size ≤ k) fun k hk => .inr hk) hb
 exact VR.ext0 (R := A) (⟨e.os, e.tape, e.output, e.size, e.keep, e.own, e.cells, e.gone, e.objs, e.n, e.drawn⟩) hv
end
end Go.CM

namespace Go.CM
open Go Go.Proofs Go.RowKit
set_option maxRecDepth 100000
namespace Op
open Sha
def LP (R1 R2 R3 R4 : Array Oper) : Code := .seq (.region 1 R1 false) (.seq (.cond (.tmp 10) .skip (.exit 0)) (.seq (.block 1 (.seq (.region 2 R2 false) (.seq (.region 3 R3 false) (.cond (.tmp 23) .ret .skip)))) (.region 4 R4 false)))
def encSt (cap ver : Int) (parts heads : CV) (ord : Ids) : List CV := [.int .i64 cap, parts, heads, .int .i64 ver, encIds ord]
theorem closed_St {cap ver : Int} {parts heads : CV} {ord : Ids} (hp : parts.closed = true) (hh : heads.closed = true) : closedL (encSt cap ver parts heads ord) = true := by
 simp [encSt, closedL, hp, hh, closed_ids, CV.closed]
structure HdI (E : List CV) (ps : Ids) (S : List CV) (Lo : Nat) (W1 : World) (k : Nat) (a : Go.Act) (W : World) : Prop where
 size : a.tmps.size = 25
 defers : a.defers = []
 t0 : a.tmps.getD 0 undef = .func (.yield Lo) #[] #[]
 t8 : a.tmps.getD 8 undef = .int .i64 ps.l.length
 t9 : a.tmps.getD 9 undef = .int .i64 k
 ex : ∃ A, VR0 W A (.rptr (E) 0) (a.tmps.getD 1 undef) ∧ VR0 W A (.rptr S 0) (a.tmps.getD 2 undef) ∧ VR0 W A (encIds ps) (a.tmps.getD 7 undef) ∧ ∀ g, VR0 W A (GS g) (.pointer (some ⟨g, 0, none⟩))
 blw : Blw W1 W
def sgH (E : List CV) (ps : Ids) (S : List CV) (Lo k : Nat) : Sg := fupd (fupd (fupd (fupd (fupd (fupd (fun _ => CV.bad) 0 (.yl Lo)) 1 (.rptr (E) 0)) 2 (.rptr S 0)) 7 (encIds ps)) 8 (.int .i64 ps.l.length)) 9 (.int .i64 k)
theorem HdI.sr {E : List CV} {ps : Ids} {S : List CV} {Lo : Nat} {W1 : World} {k : Nat} {a : Go.Act} {W : World} (h : HdI E ps S Lo W1 k a W) :
  ∃ R : Nat → Prop, Rel R W.heap.size W (HL []) (fun _ => none) ∧ Gok GS W R (HL []) (fun _ => none) ∧ SR 25 W R (HL []) (fun _ => none) (sgH E ps S Lo k) a := by
 obtain ⟨A, h1, h2, h7, hg⟩ := h.ex
 have up : ∀ {c : CV} {v : Value}, VR0 W A c v → VR W (fun k => A k ∨ W.heap.size ≤ k) Hp.empty (fun _ => none) c v := fun hc => hc.up (fun k _ hk => ⟨.inl hk, not_own_empty _ k⟩)
 refine ⟨fun k => A k ∨ W.heap.size ≤ k, rel_empty W _ fun k hk => .inr hk, fun g => ⟨GS_closed g, up (hg g)⟩, h.size, h.defers, fun t => ?_⟩
 unfold sgH
 by_cases e9 : t = 9
 ·subst e9; rw [fupd_same, h.t9]; exact .int _ _
 rw [fupd_ne _ _ _ _ e9]
 by_cases e8 : t = 8
 ·subst e8; rw [fupd_same, h.t8]; exact .int _ _
 rw [fupd_ne _ _ _ _ e8]
 by_cases e7 : t = 7
 ·subst e7; rw [fupd_same]; exact up h7
 rw [fupd_ne _ _ _ _ e7]
 by_cases e2 : t = 2
 ·subst e2; rw [fupd_same]; exact up h2
 rw [fupd_ne _ _ _ _ e2]
 by_cases e1 : t = 1
 ·subst e1; rw [fupd_same]; exact up h1
 rw [fupd_ne _ _ _ _ e1]
 by_cases e0 : t = 0
 ·subst e0; rw [fupd_same, h.t0]; exact .yl _
 rw [fupd_ne _ _ _ _ e0]
 exact .bad _
theorem blw_ext {w w' : World} {h' : Hp} {μ' : Mu} (e : Ext w Hp.empty (fun _ => none) w' h' μ') : Blw w w' := ⟨⟨e.os, e.tape, e.output, e.size, fun k hk => e.keep k hk (not_own_empty _ k)⟩, e.drawn⟩
theorem blw_tr {a b c : World} (h1 : Blw a b) (h2 : Blw b c) : Blw a c := ⟨h1.toBelow.trans (h2.toBelow.mono h1.toBelow.size), Nat.le_trans h1.drawn h2.drawn⟩
theorem blw_rfl (w : World) : Blw w w := ⟨RowKit.Below.refl _ w, Nat.le_refl _⟩
theorem HdI.mk' {E : List CV} {ps : Ids} {S : List CV} (hE : closedL E = true) (hS : closedL S = true) {Lo : Nat} {W1 W W' : World} {k : Nat} {a' : Go.Act} {R : Nat → Prop} {l' : Hl} {μ' : Mu} {σ' : Sg} (hb : Blw W1 W) (e : Ext W Hp.empty (fun _ => none) W' (HL l') μ') (g : Gok GS W' R (HL l') μ') (s : SR 25 W' R (HL l') μ' σ' a')
  (k0 : σ' 0 = .yl Lo) (k1 : σ' 1 = .rptr (E) 0) (k2 : σ' 2 = .rptr S 0) (k7 : σ' 7 = encIds ps) (k8 : σ' 8 = .int .i64 ps.l.length) (k9 : σ' 9 = .int .i64 k) : HdI E ps S Lo W1 k a' W' := by
 have hc : ∀ {t : Nat} {c : CV}, σ' t = c → c.closed = true → VR0 W' (fun k => R k) c (a'.tmps.getD t undef) := fun {t c} ht hcl => by
  have := s.val t
  rw [ht] at this
  exact (closed_vr this hcl).up fun k _ hk => ⟨hk.1, not_own_empty _ k⟩
 refine ⟨s.size, s.defers, ?_, ?_, ?_, ⟨fun k => R k, hc k1 (by simp [CV.closed, hE]), hc k2 (by simp [CV.closed, hS]), hc k7 (closed_ids _), fun i => (closed_vr (g i).2 (g i).1).up fun k _ hk => ⟨hk.1, not_own_empty _ k⟩⟩, blw_tr hb (blw_ext e)⟩
 ·have := s.val 0; rw [k0] at this; generalize a'.tmps.getD 0 undef = v at this ⊢; cases this; rfl
 ·have := s.val 8; rw [k8] at this; generalize a'.tmps.getD 8 undef = v at this ⊢; cases this; rfl
 ·have := s.val 9; rw [k9] at this; generalize a'.tmps.getD 9 undef = v at this ⊢; cases this; rfl
abbrev mS0 : List Stp := [sm 0 6 (.fa 1 (tm 1)), sm 1 7 (.ld1 (tm 6)), sm 2 8 (.len (.sl 32) (tm 7)), sm 3 9 (.mv (.const (.int .i64 0)))]
abbrev mS1 : List Stp := [sm 0 10 (.bin .lss 3 (tm 9) (tm 8))]
abbrev mS2 : List Stp := [sm 0 11 (.ia (.sl 32) (tm 7) (tm 9)), sm 1 12 (.ldA 32 (tm 11)), sm 2 5 (.alloc (rep 32 (.int .u8 0))), se 3 (.st 32 (tm 5) (tm 12))]
abbrev mS3 : List Stp := [sm 0 13 (.fa 4 (tm 2)), sm 1 14 (.ld1 (tm 13)), sm 2 15 (.ldA 32 (tm 5)), sc 3 16 66 [(tm 14), (tm 15)], sm 4 17 (.un .not (tm 16)), sv 5 18 17, sg 6 19 18 true (.mv (tm 0)), sg 7 20 18 true (.ldA 32 (tm 5))]
abbrev mS3b : List Stp := [sg 9 22 18 true (.un .not (tm 21)), sm 10 23 (.pick (tm 18) (tm 22) (.const (.bool false)))]
theorem allOk_stps {P : Program} {ops : Array Oper} : ∀ {idx : List Nat} {ss : List Stp} {os : List Oper}, idx.mapM (fun i => stpOf P ops i [] false) = some ss → os.map some = idx.map (fun i => ops[i]?) → AllOk P ops ss os := by
 intro idx ss os h1 h2
 exact allOk_of (fun i x hx => by obtain ⟨o, h2, h3, _⟩ := stpOf_ok hx; exact ⟨o, h2, h3⟩) h1 h2.symm
structure MOk (R0 R1 R2 R3 R4 : Array Oper) (o8 : Oper) : Prop where
 body : Tryz.f206.body = some (.seq (.region 0 R0 false) (.block 0 (.loop (LP R1 R2 R3 R4))))
 c0 : comp Tryz.prog 25 (.region 0 R0 false) = some (.reg mS0)
 c1 : comp Tryz.prog 25 (.region 1 R1 false) = some (.reg mS1)
 c2 : comp Tryz.prog 25 (.region 2 R2 false) = some (.reg mS2)
 cL : comp Tryz.prog 25 (LP R1 R2 R3 R4) = some l206_0
 split : R3.toList = R3.toList.take 8 ++ (o8 :: (R3.toList.drop 9 ++ []))
 ok3a : AllOk Tryz.prog R3 mS3 (R3.toList.take 8)
 ok3b : AllOk Tryz.prog R3 mS3b (R3.toList.drop 9)
 dst3 : ∀ (i : Nat) (o : Oper), R3[i]? = some o → dstOk 25 o.dst = true
 o8_op : o8.op = .call { callee := .value (.tmp 19), args := #[.tmp 20], argTypes := #[57] }
 o8_dst : o8.dst = some 21
 o8_guard : o8.guard = some (5, true)
 o5_dst : (R3[5]?).bind (·.dst) = some 18
theorem dst_all {R : Array Oper} (hall : (R.toList.all fun o => dstOk 25 o.dst) = true) (i : Nat) (o : Oper) (h : R[i]? = some o) : dstOk 25 o.dst = true := by
 exact List.all_eq_true.1 hall o (by rw [← Array.getElem?_toList] at h; exact List.mem_of_getElem? h)
theorem mOk : ∃ R0 R1 R2 R3 R4 o8, MOk R0 R1 R2 R3 R4 o8 :=
 ⟨opsC (subC ((Tryz.f206.body).getD .skip) [false]),
  opsC (subC ((Tryz.f206.body).getD .skip) [true, false, false, false]),
  opsC (subC ((Tryz.f206.body).getD .skip) [true, false, false, true, true, false, false, false]),
  opsC (subC ((Tryz.f206.body).getD .skip) [true, false, false, true, true, false, false, true, false]),
  opsC (subC ((Tryz.f206.body).getD .skip) [true, false, false, true, true, true]),
  ((opsC (subC ((Tryz.f206.body).getD .skip) [true, false, false, true, true, false, false, true, false])).toList.drop 8).headD { op := .move (.tmp 0), dst := none, type := 0, pos := "", after := #[], guard := none },
  ⟨by kernel_rfl, by kernel_rfl, by kernel_rfl, by kernel_rfl, by kernel_rfl, by kernel_rfl, allOk_stps (idx := [0, 1, 2, 3, 4, 5, 6, 7]) (by kernel_rfl) (by kernel_rfl), allOk_stps (idx := [9, 10]) (by kernel_rfl) (by kernel_rfl),
  dst_all (by kernel_rfl), by kernel_rfl, by kernel_rfl, by kernel_rfl, by kernel_rfl⟩⟩
theorem val_of {σ : Sg} {N : Nat} {W : World} {R : Nat → Prop} {h : Hp} {μ : Mu} {a : Go.Act} (s : SR N W R h μ σ a) {t : Nat} {b : Bool} (ht : σ t = .bool b) : a.tmps.getD t undef = .bool b := by
 have := s.val t; rw [ht] at this; generalize a.tmps.getD t undef = v at this ⊢; cases this; rfl
theorem yl_of {σ : Sg} {N : Nat} {W : World} {R : Nat → Prop} {h : Hp} {μ : Mu} {a : Go.Act} (s : SR N W R h μ σ a) {t l : Nat} (ht : σ t = .yl l) : a.tmps.getD t undef = .func (.yield l) #[] #[] := by
 have := s.val t; rw [ht] at this; generalize a.tmps.getD t undef = v at this ⊢; cases this; rfl
theorem sgH_0 (E : List CV) (ps : Ids) (S : List CV) (Lo k : Nat) : sgH E ps S Lo k 0 = .yl Lo := by simp [sgH]
theorem sgH_1 (E : List CV) (ps : Ids) (S : List CV) (Lo k : Nat) : sgH E ps S Lo k 1 = .rptr (E) 0 := by simp [sgH]
theorem sgH_2 (E : List CV) (ps : Ids) (S : List CV) (Lo k : Nat) : sgH E ps S Lo k 2 = .rptr S 0 := by simp [sgH]
theorem sgH_7 (E : List CV) (ps : Ids) (S : List CV) (Lo k : Nat) : sgH E ps S Lo k 7 = encIds ps := by simp [sgH]
theorem sgH_8 (E : List CV) (ps : Ids) (S : List CV) (Lo k : Nat) : sgH E ps S Lo k 8 = .int .i64 ps.l.length := by simp [sgH]
theorem sgH_9 (E : List CV) (ps : Ids) (S : List CV) (Lo k : Nat) : sgH E ps S Lo k 9 = .int .i64 k := by simp [sgH]
set_option maxHeartbeats 2000000 in
theorem miss_call (E : List CV) (ps : Ids) (hcE : closedL E = true) (hEl : E.length = 11) (hE1 : ∀ h : 1 < E.length, E[1]'h = encIds ps) (hpo : okIds ps) (hpl : ps.l.length ≤ 1000000) (ord : Ids) (hord : okIds ord) (hol : ord.l.length ≤ 1000000) (cap ver : Int) (parts heads : CV) (hp : parts.closed = true) (hh : heads.closed = true) {n Lo : Nat} {W1 : World} {A : Nat → Prop} {p1 p2 : Value}
  (h1 : VR0 W1 A (.rptr (E) 0) p1) (h2 : VR0 W1 A (.rptr (encSt cap ver parts heads ord) 0) p2) (hg : ∀ g, VR0 W1 A (GS g) (.pointer (some ⟨g, 0, none⟩)))
  {Z : World → World → Prop} {m : Nat} (hY : ∀ (x : Value) (W : World), Blw W1 W → YieldAt Fence.wide m Tryz.prog Lo #[x] W fun e W' => e = .returned (.bool false) ∧ Z W W')
  (hZ : ∀ W W', Blw W1 W → Z W W' → ∃ A, ∀ g, VR0 W' A (GS g) (.pointer (some ⟨g, 0, none⟩))) :
  CallsIn Fence.wide n Tryz.prog 206 (#[.func (.yield Lo) #[] #[]] ++ #[p1, p2]) W1 fun e W2 => (∃ v, e = .returned v) ∧
   (((∀ x ∈ ps.l, x ∈ ord.l) ∧ Blw W1 W2) ∨ ((¬ ∀ x ∈ ps.l, x ∈ ord.l) ∧ ∃ W W', Blw W1 W ∧ Z W W' ∧ Blw W' W2)) := by
 obtain ⟨R0, R1, R2, R3, R4, o8, M⟩ := mOk
 obtain ⟨S, hS⟩ : ∃ S, S = encSt cap ver parts heads ord := ⟨_, rfl⟩
 have hcS : closedL S = true := by rw [hS]; exact closed_St hp hh
 have hSl : S.length = 5 := by rw [hS]; rfl
 have hS4 : S[4]? = some (encIds ord) := by rw [hS]; rfl
 have hS4' : ∀ h : 4 < S.length, S[4]'h = encIds ord := fun h => (List.getElem?_eq_some_iff.1 hS4).2
 rw [← hS] at h2
 have hmix : Tryz.prog.follows .mixedOrders = true := Tryz.checked.mixed
 have hlm : lenM (.sl 32) (encIds ps) = some (.int .i64 ps.l.length) := by simp [encIds]
 refine callsIn_of_wp (fn := Tryz.f206) Tryz.func206 M.body trivial ?_ rfl
 obtain ⟨Q0, hQ0⟩ : ∃ Q0, Q0 = bodyPost Tryz.prog Tryz.f206 (fun e W2 => (∃ v, e = Ending.returned v) ∧
   (((∀ x ∈ ps.l, x ∈ ord.l) ∧ Blw W1 W2) ∨ ((¬ ∀ x ∈ ps.l, x ∈ ord.l) ∧ ∃ W W', Blw W1 W ∧ Z W W' ∧ Blw W' W2))) := ⟨_, rfl⟩
 rw [← hQ0]
 have hres : ∀ (a : Go.Act) (W : World), (results Tryz.f206 a.tmps).run Tryz.prog W = .ok (.tuple #[]) W := fun a W => results_none rfl _ _ _
 -- the start
 have hnt : Tryz.f206.ntmps = 25 := by kernel_rfl
 obtain ⟨T0, hT0⟩ : ∃ T0 : Array Value, T0 = #[.func (.yield Lo) #[] #[]] ++ #[p1, p2] ++ Array.replicate (Tryz.f206.ntmps - (#[.func (.yield Lo) #[] #[]] ++ #[p1, p2] : Array Value).size) undef := ⟨_, rfl⟩
 rw [← hT0]
 rw [hnt] at hT0
 have hTs : T0.size = 25 := by rw [hT0]; simp
 have hT0' : T0 = #[.func (.yield Lo) #[] #[], p1, p2] ++ Array.replicate 22 undef := by rw [hT0]; rfl
 have up : ∀ {c : CV} {v : Value}, VR0 W1 A c v → VR W1 (fun k => A k ∨ W1.heap.size ≤ k) Hp.empty (fun _ => none) c v := fun hc => hc.up (fun k _ hk => ⟨.inl hk, not_own_empty _ k⟩)
 have hg0 : T0.getD 0 undef = .func (.yield Lo) #[] #[] := by rw [hT0', Array.getD_eq_getD_getElem?]; simp
 have hg1 : T0.getD (0 + 1) undef = p1 := by rw [hT0', Array.getD_eq_getD_getElem?]; simp
 have hg2 : T0.getD (0 + 1 + 1) undef = p2 := by rw [hT0', Array.getD_eq_getD_getElem?]; simp
 have hg3 : ∀ t, T0.getD (t + 1 + 1 + 1) undef = undef := fun t => by
  rw [hT0', Array.getD_eq_getD_getElem?, Array.getElem?_append_right (by simp), Array.getElem?_replicate]
  split <;> rfl
 obtain ⟨C1, hC1⟩ : ∃ C1, C1 = CV.rptr (E) 0 := ⟨_, rfl⟩
 obtain ⟨C2, hC2⟩ : ∃ C2, C2 = CV.rptr S 0 := ⟨_, rfl⟩
 have ha0 : argsS [.yl Lo, .rptr (E) 0, .rptr S 0] 0 = .yl Lo := by simp [argsS]
 have ha1 : argsS [.yl Lo, .rptr (E) 0, .rptr S 0] (0 + 1) = .rptr (E) 0 := by simp [argsS]
 have ha2 : argsS [.yl Lo, .rptr (E) 0, .rptr S 0] (0 + 1 + 1) = .rptr S 0 := by simp [argsS]
 have ha3 : ∀ t, argsS [.yl Lo, .rptr (E) 0, .rptr S 0] (t + 1 + 1 + 1) = undefC := fun t => by simp [argsS, List.getD]
 clear hT0 hT0' hnt
 refine wpIn_seq (code_in (σ := argsS [.yl Lo, .rptr (E) 0, .rptr S 0]) (l := []) (K := fun e σ l => e = .normal ∧ σ 0 = .yl Lo ∧ σ 1 = .rptr (E) 0 ∧ σ 2 = .rptr S 0 ∧ σ 7 = encIds ps ∧ σ 8 = .int .i64 ps.l.length ∧ σ 9 = .int .i64 (0 : Nat))
  hmix GS_closed M.c0 ?_ (rel_empty W1 (fun k => A k ∨ W1.heap.size ≤ k) fun k hk => .inr hk) (fun g => ⟨GS_closed g, up (hg g)⟩) ⟨hTs, rfl, fun t => ?_⟩ ?_)
 ·simp [argsS, hEl, hE1, hlm]
 ·rcases t with _ | _ | _ | t
  ·rw [hg0, ha0]; exact .yl _
  ·rw [hg1, ha1]; exact up h1
  ·rw [hg2, ha2]; exact up h2
  ·rw [hg3 t, ha3 t]; exact undef_ok
 rintro e a0 W0 μ0 σ0 l0 ⟨rfl, k0, k1, k2, k7, k8, k9⟩ ex0 rel0 s0
 have g0 : Gok GS W1 (fun k => A k ∨ W1.heap.size ≤ k) Hp.empty (fun _ => none) := fun g => ⟨GS_closed g, up (hg g)⟩
 have H0 : HdI E ps S Lo W1 0 a0 W0 := HdI.mk' hcE hcS (blw_rfl W1) ex0 (g0.ext ex0) s0 k0 k1 k2 k7 k8 k9
 clear k0 k1 k2 k7 k8 k9 s0 rel0 ex0 g0
 show (Code.block 0 (.loop (LP R1 R2 R3 R4))).wpIn Fence.wide n Tryz.prog Q0 a0 W0
 refine wpIn_block (wpIn_loop (fun a W => ∃ k, k ≤ ps.l.length ∧ HdI E ps S Lo W1 k a W ∧ ∀ x ∈ ps.l.take k, x ∈ ord.l) (fun a _ => match a.tmps.getD 9 undef with | .int _ k => ps.l.length - k.toNat | _ => 0) ⟨0, by omega, H0, by simp⟩ ?_)
 rintro a W ⟨k, hk, H, hall⟩
 obtain ⟨R, rel, gok, sr⟩ := H.sr
 by_cases hkl : k < ps.l.length
 ·obtain ⟨x, hx, hxm⟩ := get_of (l := ps.l) (k := k) hkl
  have hxo := hpo x hxm
  have hxl := eId_len hxo
  have e1 : IntKind.i64.wrap ((k : Int) + 1) = ((k + 1 : Nat) : Int) := by rw [IntKind.wrap_i64]; omega
  have hia : iaC (.sl 32) (encIds ps) (.int .i64 (k : Int)) = some (.rptr (eId x) 0) := by simp [encIds, hx]
  have hin := wInI_ok ord hord hol x hxo
  have hcord := closed_ids ord
  have hcx := closed_eId x
  have hst : ps.l.take (k + 1) = ps.l.take k ++ [x] := by rw [List.take_add_one, hx]; rfl
  obtain ⟨X, hX⟩ : ∃ X, X = eId x := ⟨_, rfl⟩
  rw [← hX] at hxl hia hin hcx
  have hspX : splice (rep 32 (.int .u8 0)) 0 X = X := splice_full (by rw [hxl]; rfl)
  by_cases hmem : x ∈ ord.l
  ·rw [decide_eq_true hmem] at hin
   refine code_in (σ := sgH E ps S Lo k) (l := []) (K := fun e σ l => e = .normal ∧ σ 0 = .yl Lo ∧ σ 1 = .rptr (E) 0 ∧ σ 2 = .rptr S 0 ∧ σ 7 = encIds ps ∧ σ 8 = .int .i64 ps.l.length ∧ σ 9 = .int .i64 ((k + 1 : Nat) : Int)) hmix GS_closed M.cL ?_ rel gok sr ?_
   ·unfold l206_0
    simp [sgH_0, sgH_1, sgH_2, sgH_7, sgH_8, sgH_9, hkl, hia, hxl, hspX, hSl, hS4', List.take_of_length_le]
    refine pure_call hin (by simp [closedL, CV.closed, hcord, hcx]) ?_
    simp [sgH_0, sgH_1, sgH_2, sgH_7, sgH_8, sgH_9, e1]
   ·rintro e a2 W2 μ2 σ2 l2 ⟨rfl, k0, k1, k2, k7, k8, k9⟩ ex2 rel2 s2
    have H2 : HdI E ps S Lo W1 (k + 1) a2 W2 := HdI.mk' hcE hcS H.blw ex2 (gok.ext ex2) s2 k0 k1 k2 k7 k8 k9
    refine ⟨⟨k + 1, by omega, H2, fun y hy => ?_⟩, ?_⟩
    ·rw [hst, List.mem_append, List.mem_singleton] at hy
     exact hy.elim (hall y) fun e => by rw [e]; exact hmem
    ·show (match a2.tmps.getD 9 undef with | .int _ k => ps.l.length - k.toNat | _ => 0) < (match a.tmps.getD 9 undef with | .int _ k => ps.l.length - k.toNat | _ => 0)
     rw [H2.t9, H.t9]
     simp only [Int.toNat_natCast]
     omega
  ·rw [decide_eq_false hmem] at hin
   have hno : ¬ ∀ y ∈ ps.l, y ∈ ord.l := fun h => hmem (h x hxm)
   suffices hs : (LP R1 R2 R3 R4).wpIn Fence.wide n Tryz.prog (fun e a W => e = .ret ∧ Q0 .ret a W) a W from wpIn_mono hs fun e a w ⟨he, h⟩ => by subst he; exact h
   unfold LP
   refine wpIn_seq (code_in (σ := sgH E ps S Lo k) (l := []) (K := fun e σ l => e = .normal ∧ l = [] ∧ σ 0 = .yl Lo ∧ σ 2 = .rptr S 0 ∧ σ 7 = encIds ps ∧ σ 9 = .int .i64 k ∧ σ 10 = .bool true) hmix GS_closed M.c1 ?_ rel gok sr ?_)
   ·simp [sgH_0, sgH_1, sgH_2, sgH_7, sgH_8, sgH_9, hkl]
   rintro e a1 W2 μ1 σ1 l1 ⟨rfl, rfl, k0, k2, k7, k9, k10⟩ ex1 rel1 s1
   have g1 := gok.ext ex1
   refine wpIn_seq (wpIn_cond_true (val_of s1 k10) (wpIn_skip ?_))
   refine wpIn_seq (wpIn_block (wpIn_seq ?_))
   refine code_in (σ := σ1) (l := []) (K := fun e σ l => e = .normal ∧ l = [.cells 32 X] ∧ σ 0 = .yl Lo ∧ σ 2 = .rptr S 0 ∧ σ 5 = .ptr 0 0 32) hmix GS_closed M.c2 ?_ rel1 g1 s1 ?_
   ·simp [k0, k2, k7, k9, hia, hxl, hspX, List.take_of_length_le]
   rintro e a2 W3 μ2 σ2 l2 ⟨rfl, rfl, j0, j2, j5⟩ ex2 rel2 s2
   refine wpIn_seq (wpIn_region_list ?_)
   rw [M.split]
   refine part_in (σ := σ2) hmix GS_closed M.dst3 M.ok3a (K := fun σ l => σ 18 = .bool true ∧ σ 19 = .yl Lo) ?_ rel2 (g1.ext ex2) s2 ?_
   ·simp [j0, j2, j5, hxl, hSl, hS4', List.take_of_length_le]
    refine pure_call hin (by simp [closedL, CV.closed, hcord, hcx]) ?_
    simp [j0, j5, hxl, List.take_of_length_le]
   rintro a3 W4 μ3 σ3 l3 ⟨i18, i19⟩ ex3 rel3 s3
   have hb4 : Blw W1 W4 := blw_tr H.blw (blw_ext ((ex1.trans ex2).trans ex3))
   have t18 := val_of s3 i18
   have t19 := yl_of s3 i19
   have hwant : Region.wanted o8 (yielded R3 a3.tmps) = true := by
    unfold Region.wanted yielded
    rw [M.o8_guard]
    simp only [M.o5_dst]
    have hlt : 18 < a3.tmps.size := by rw [s3.size]; omega
    have h18 : a3.tmps[18]? = some (.bool true) := by
     rw [Array.getD_eq_getD_getElem?, Array.getElem?_eq_getElem hlt] at t18
     rw [Array.getElem?_eq_getElem hlt]; simpa using t18
    simp [h18]
   unfold wpListIn
   rw [if_pos hwant]
   obtain ⟨fn, tmps, assign, body, hy, hR⟩ := hY (a3.tmps[20]?.getD undef) W4 hb4
   have hrun : (o8.semAt Fence.wide.round a3.eval).run Tryz.prog W4 = .ok (.round Lo fn tmps assign body) W4 := by
    rw [Fence.wide_round, Oper.semAt_none]
    unfold execOp
    rw [M.o8_op]
    have t19' : a3.tmps[19]?.getD undef = .func (.yield Lo) #[] #[] := by rw [← Array.getD_eq_getD_getElem?]; exact t19
    simp [go_sem, t19', hy]
    skip; done
   refine ⟨fun _ _ => trivial, ?_⟩
   rw [hrun, Oper.uponIn_round]
   refine ⟨fun hd => (by cases hd), round_any (hR.mono ?_)⟩
   rintro e W5 ⟨rfl, hz⟩
   show wpListIn Fence.wide n Tryz.prog R3 _ (R3.toList.drop 9 ++ []) (a3.put o8.dst (.bool false)) W5
   rw [M.o8_dst]
   obtain ⟨A5, hg5⟩ := hZ W4 W5 hb4 hz
   have up5 : ∀ {c : CV} {v : Value}, VR0 W5 A5 c v → VR W5 (fun k => A5 k ∨ W5.heap.size ≤ k) Hp.empty (fun _ => none) c v := fun hc => hc.up (fun k _ hk => ⟨.inl hk, not_own_empty _ k⟩)
   refine part_in (σ := fupd (fupd (fun _ => CV.bad) 18 (.bool true)) 21 (.bool false)) (l := []) hmix GS_closed M.dst3 M.ok3b (K := fun σ l => σ 23 = .bool true) ?_ (rel_empty W5 (fun k => A5 k ∨ W5.heap.size ≤ k) fun k hk => .inr hk) (fun g => ⟨GS_closed g, up5 (hg5 g)⟩) ⟨by simp [Act.put, s3.size], s3.defers, fun t => ?_⟩ ?_
   ·simp
   ·by_cases e21 : t = 21
    ·subst e21
     rw [fupd_same]
     have : (a3.put (some 21) (.bool false)).tmps.getD 21 undef = .bool false := by simp [Act.put, Array.getD_eq_getD_getElem?, s3.size]
     rw [this]; exact .bool _
    ·rw [fupd_ne _ _ _ _ e21]
     have e2 : (a3.put (some 21) (.bool false)).tmps.getD t undef = a3.tmps.getD t undef := by
      simp only [Act.put, Array.getD_eq_getD_getElem?, Array.getElem?_setIfInBounds_ne (Ne.symm e21)]
     rw [e2]
     by_cases e18 : t = 18
     ·subst e18; rw [fupd_same, t18]; exact .bool _
     ·rw [fupd_ne _ _ _ _ e18]; exact .bad _
   rintro a6 W6 μ6 σ6 l6 i23 ex6 rel6 s6
   refine wpListIn_nil ?_
   refine wpIn_cond_true (val_of s6 i23) (wpIn_ret ?_)
   refine ⟨rfl, ?_⟩
   rw [hQ0]
   exact ⟨s6.defers, _, hres _ _, ⟨_, rfl⟩, .inr ⟨hno, W4, W5, hb4, hz, blw_ext ex6⟩⟩
 ·have hke : k = ps.l.length := by omega
  rw [hke, List.take_length] at hall
  refine code_in (σ := sgH E ps S Lo k) (l := []) (K := fun e σ l => e = .exit 0) hmix GS_closed M.cL ?_ rel gok sr ?_
  ·unfold l206_0
   simp [sgH_8, sgH_9, hkl]
  ·rintro e a2 W2 μ2 σ2 l2 rfl ex2 rel2 s2
   show Q0 .normal a2 W2
   rw [hQ0]
   exact ⟨s2.defers, _, hres _ _, ⟨_, rfl⟩, .inl ⟨hall, blw_tr H.blw (blw_ext ex2)⟩⟩
end Op
end Go.CM

namespace Go.CM
open Go Go.Proofs Go.RowKit
set_option maxRecDepth 100000
section
variable {P : Program} {n : Nat}
theorem put_frame (D : List Deferred) (a : Go.Act) (d : Option Tmp) (v : Value) : ({ a with defers := a.defers ++ D } : Go.Act).put d v = { a.put d v with defers := (a.put d v).defers ++ D } := by cases d <;> rfl
theorem op_frame {D : List Deferred} {o : Oper} {a : Go.Act} {w : World} {K K' : Go.Act → World → Prop} {Q Q' : Exit → Go.Act → World → Prop} (hK : ∀ a w, K a w → K' { a with defers := a.defers ++ D } w)
  (hQ : ∀ e a w, e ≠ .normal → Q e a w → Q' e { a with defers := a.defers ++ D } w) (h : o.wp P a w K Q) : o.wpIn Fence.wide n P { a with defers := a.defers ++ D } w K' Q' := by
 unfold Oper.wp at h
 refine ⟨fun _ _ => trivial, ?_⟩
 show o.uponIn Fence.wide n P _ K' Q' ((execOp a.eval o).run P w)
 cases hx : (execOp a.eval o).run P w with
 | ok x w' =>
  rw [hx] at h
  cases x with
  | value v => show K' (Go.Act.put _ _ _) _; rw [put_frame]; exact hK _ _ h
  | skip => show K' (Go.Act.put _ _ _) _; rw [put_frame]; exact hK _ _ h
  | defer d =>
   show K' (Go.Act.put { tmps := a.tmps, defers := d :: (a.defers ++ D) } _ _) _
   have := put_frame D { tmps := a.tmps, defers := d :: a.defers } o.dst undef
   have h2 : ({ tmps := a.tmps, defers := d :: (a.defers ++ D) } : Go.Act).put o.dst undef = _ := this
   rw [h2]; exact hK _ _ h
  | enter f args =>
   refine ⟨fun hd => (by cases hd), (callsIn_wide.2 h).mono ?_⟩
   rintro (v | ch | _) w2 h2
   ·show K' (Go.Act.put _ _ _) _; rw [put_frame]; exact hK _ _ h2
   ·exact hQ _ _ _ (by simp) h2
   ·obtain ⟨a0, w0, hh⟩ := h2
    exact ⟨_, w0, hQ _ _ _ (by simp) hh⟩
  | row r args => exact ⟨fun hd => (by cases hd), fun c cs _ => let ⟨v, w', r, s⟩ := h c cs; ⟨v, w', (by show K' (Go.Act.put _ _ _) _; rw [put_frame]; exact hK _ _ r), stepsIn_wide.2 s⟩⟩
  | _ => exact h.elim
 | halt e w' =>
  rw [hx] at h
  cases e <;> first | exact hQ _ _ _ (by simp) h | exact h.elim
theorem list_frame {D : List Deferred} {all : Array Oper} {Q : Exit → Go.Act → World → Prop} : ∀ {l : List Oper} {a : Go.Act} {w : World},
  wpList P all (fun e a w => match e with | .normal => Q .normal { a with defers := a.defers ++ D } w | _ => False) l a w → wpListIn Fence.wide n P all Q l { a with defers := a.defers ++ D } w
 | [], a, w, h => wpListIn_nil h
 | o :: l, a, w, h => by
  unfold wpList at h
  unfold wpListIn
  split
  ·rename_i hw
   rw [if_pos hw] at h
   rcases h with h | ⟨_, a0, w0, hh⟩
   ·refine op_frame (fun a w hh => list_frame hh) (fun e a w he hh => ?_) h
    cases e <;> first | exact absurd rfl he | exact hh.elim
   ·exact hh.elim
  ·rename_i hw
   rw [if_neg hw] at h
   refine ⟨fun _ _ => trivial, ?_⟩
   rw [put_frame]
   exact list_frame h
variable {G : Nat → CV}
theorem part_frame (hmix : P.follows .mixedOrders = true) (hG : ∀ g, (G g).closed = true) {N n : Nat} {ops : Array Oper} (hN : ∀ (i : Nat) (o : Oper), ops[i]? = some o → dstOk N o.dst = true) {ss : List Stp} (hall : AllOk P ops ss ops.toList) {id : Nat}
  {σ : Sg} {l : Hl} {K : Sg → Hl → Prop} (hrun : runS P G ss σ l K) {D : List Deferred}
  {R : Nat → Prop} {B : Nat} {w : World} {μ : Mu} {a : Go.Act} {Q : Exit → Go.Act → World → Prop} (rel : Rel R B w (HL l) μ) (g : Gok G w R (HL l) μ) (s : SR N w R (HL l) μ σ { a with defers := [] }) (hd : a.defers = D)
  (hQ : ∀ a' w' μ' σ' l', K σ' l' → Ext w (HL l) μ w' (HL l') μ' → Rel R B w' (HL l') μ' → SR N w' R (HL l') μ' σ' { a' with defers := [] } → a'.defers = D → Q .normal a' w') : (Code.region id ops false).wpIn Fence.wide n P Q a w := by
 obtain ⟨σ', l', hev, _, hk⟩ := runS_ok hN hall hrun
 obtain ⟨tm, df⟩ := a
 subst hd
 refine wpIn_region_list ?_
 have := list_frame (P := P) (n := n) (D := df) (all := ops) (Q := Q) (l := ops.toList) (a := { tmps := tm, defers := [] }) (w := w)
  (sound hmix hG hev R B w μ _ _ rel g s fun a' w' μ' e1 r1 s1 => ?_)
 ·exact this
 ·show Q .normal _ _
  obtain ⟨tm', df'⟩ := a'
  have hd : df' = [] := s1.defers
  subst hd
  exact hQ _ w' μ' σ' l' hk e1 r1 s1 rfl
theorem fin_rel {R : Nat → Prop} {B : Nat} {w : World} {l : Hl} {μ : Mu} (rel : Rel R B w (HL l) μ) {b t : Nat} {v : Int} (hb : l[b]? = some (.cells 1 [.int .u8 v])) {tmps : Array Value} (hp : VR w R (HL l) μ (.ptr b 0 1) (tmps.getD t undef))
  {w' : World} (hw : ∀ k, B ≤ k → (∃ arr e fz, w.heap[k]? = some (.cells arr e fz)) → w'.heap[k]? = w.heap[k]?) (hs : w.heap.size ≤ w'.heap.size) {fn : Func} (hr : resC P (HL [.cells 1 [.int .u8 v]]) (fupd (fun _ => CV.bad) t (.ptr 0 0 1)) fn = some (.int .u8 v)) :
  (results fn tmps).run P w' = .ok (.int .u8 v) w' := by
 have hf : (HL l).f b = .cells 1 [.int .u8 v] := HL_cells.2 hb
 generalize hpv : tmps.getD t undef = pv at hp
 cases hp with
 | ptrGone _ _ _ a hg =>
  rcases hg with h | ⟨n, cs2, h, hlt⟩
  ·rw [hf] at h; cases h
  ·rw [hf] at h; injection h with h1 h2; omega
 | ptr _ _ _ cs2 m hb2 hm =>
  clear hb2 cs2
  have hbk := rel.blk b m hm
  have hB : B ≤ m.r := rel.base b m (by rw [hf]; rfl) hm
  rw [hf] at hbk
  obtain ⟨h1, h2, arr, e, fz, h3, h4, h5, h6⟩ := hbk
  have hf0 : (HL [.cells 1 [.int .u8 v]]).f 0 = .cells 1 [.int .u8 v] := HL_cells.2 rfl
  have hlen : ∀ b, 1 ≤ b → (HL [.cells 1 [.int .u8 v]]).f b = .none := fun b hb => by rw [HL_f, List.getElem?_eq_none (by simpa using hb)]
  have rel' : Rel (fun k => B ≤ k) B w' (HL [.cells 1 [.int .u8 v]]) (fun b => if b = 0 then some m else none) := by
   refine ⟨fun b' m' hm' => ?_, fun b1 b2 m1 m2 hl1 hl2 e1 e2 _ => ?_, fun b' m' hl hm' => ?_, fun b' hb' => hlen b' hb', fun k hk => hk, Nat.le_trans rel.size hs, fun b' hb' => ?_⟩
   ·by_cases e0 : b' = 0
    ·subst e0
     simp only [if_true, Option.some.injEq] at hm'
     subst hm'
     rw [hf0]
     refine ⟨h1, h2, arr, e, fz, (hw _ hB ⟨_, _, _, h3⟩).trans h3, h4, h5, fun j c hj => ?_⟩
     obtain ⟨x, a1, a2, a3⟩ := h6 j c hj
     refine ⟨x, a1, a2, ?_⟩
     rcases j with _ | j
     ·simp only [List.getElem?_cons_zero, Option.some.injEq] at hj
      subst hj
      cases a3
      exact .int _ _
     ·simp at hj
    ·simp [e0] at hm'
   ·by_cases c1 : b1 = 0
    ·by_cases c2 : b2 = 0
     ·omega
     ·simp [c2] at e2
    ·simp [c1] at e1
   ·by_cases e0 : b' = 0
    ·simp only [e0, if_true, Option.some.injEq] at hm'
     subst hm'
     exact hB
    ·simp [e0] at hm'
   ·have : b' ≠ 0 := fun e => by subst e; exact absurd hb' (by show ¬ (1 ≤ 0); omega)
    simp [this]
  have s' : SR tmps.size w' (fun k => B ≤ k) (HL [.cells 1 [.int .u8 v]]) (fun b => if b = 0 then some m else none) (fupd (fun _ => CV.bad) t (.ptr 0 0 1)) { tmps := tmps, defers := [] } := by
   refine ⟨rfl, rfl, fun i => ?_⟩
   by_cases ei : i = t
   ·subst ei
    rw [fupd_same]
    show VR _ _ _ _ _ (tmps.getD i undef)
    rw [hpv]
    exact .ptr 0 0 1 _ m hf0 rfl
   ·rw [fupd_ne _ _ _ _ ei]; exact .bad _
  obtain ⟨x, k1, k2⟩ := results_ok (P := P) rel' s' hr
  cases k2
  exact k1
end
def BB (B : Nat) (a b : World) : Prop := RowKit.Below B a b ∧ a.drawn ≤ b.drawn
theorem BB.of_blw {B : Nat} {a b : World} (h : Blw a b) (hB : B ≤ a.heap.size) : BB B a b := ⟨h.toBelow.mono hB, h.drawn⟩
theorem BB.tr {B : Nat} {a b c : World} (h : BB B a b) (k : BB B b c) : BB B a c := ⟨h.1.trans k.1, Nat.le_trans h.2 k.2⟩
theorem BB.put {B : Nat} (W : World) {l : Nat} (o : Obj) (hl : B ≤ l) (hB : B ≤ W.heap.size) : BB B W (W.putObj l o) :=
 ⟨(RowKit.Below.refl B W).grown (grownBy_putObj' W l o) hB (fun k e => by cases e; exact hl), Nat.le_refl _⟩
theorem BB.ext {R : Nat → Prop} {B : Nat} {w w' : World} {h h' : Hp} {μ μ' : Mu} (rel : Rel R B w h μ) (e : Ext w h μ w' h' μ') : BB B w w' :=
 ⟨⟨e.os, e.tape, e.output, e.size, fun k hk => e.keep k (Nat.lt_of_lt_of_le hk rel.size) fun ⟨b, m, h1, h2, h3⟩ => by have := rel.base b m h1 h2; omega⟩, e.drawn⟩
theorem BB.alloc {B : Nat} {a : World} (hB : B ≤ a.heap.size) (o : Obj) : BB B a (a.alloc o) := ⟨(RowKit.Below.refl B a).alloc hB o, Nat.le_refl _⟩
theorem BB.blw {a b : World} (h : BB a.heap.size a b) : Blw a b := ⟨h.1, h.2⟩
theorem own_cells {R : Nat → Prop} {B : Nat} {w : World} {l : Hl} {μ : Mu} (rel : Rel R B w (HL l) μ) (hl : ∀ (b : Nat) (c : CB), l[b]? = some c → ∃ n cs, c = CB.cells n cs) {k : Nat} (ho : Own (HL l) μ k) : ∃ arr e fz, w.heap[k]? = some (.cells arr e fz) := by
 obtain ⟨b, m, h1, h2, rfl⟩ := ho
 have hb := rel.blk b m h2
 rw [HL_f] at hb h1
 cases hlb : l[b]? with
 | none => rw [hlb] at h1; cases h1
 | some c =>
  rw [hlb] at hb
  obtain ⟨n, cs, rfl⟩ := hl b c hlb
  obtain ⟨_, _, arr, e, fz, h3, _⟩ := hb
  exact ⟨arr, e, fz, h3⟩
theorem ext_others {R : Nat → Prop} {B : Nat} {w w' : World} {l : Hl} {h' : Hp} {μ μ' : Mu} (rel : Rel R B w (HL l) μ) (hl : ∀ (b : Nat) (c : CB), l[b]? = some c → ∃ n cs, c = CB.cells n cs) (e : Ext w (HL l) μ w' h' μ') : KeepsOthers w w' := by
 refine ⟨e.size, fun k o hk ho => ?_⟩
 rw [e.keep k (Array.getElem?_eq_some_iff.1 hk).1 fun hw => ?_]
 ·exact hk
 ·obtain ⟨arr, t, fz, h3⟩ := own_cells rel hl hw
  rw [hk] at h3
  cases h3
  cases ho
namespace Op
open Sha
abbrev vS0 : List Stp := [sm 0 3 (.box (tm 0)), sm 1 4 (.box (tm 1)), sm 2 5 (.box (tm 2)), sm 3 6 (.alloc [.int .u8 0])]
abbrev vC1 : Cd := .seq (.reg [sm 0 7 (.fa 4 (tm 3)), sm 1 8 (.ld1 (tm 7)), sm 2 9 (.ldA 32 (tm 5)), sc 3 10 66 [(tm 8), (tm 9)]]) (.cond (tm 10) (.seq (.reg [se 0 (.st 1 (tm 6) (.const (.int .u8 5)))]) .ret) .skip)
abbrev vS3 : List Stp := [sm 0 11 (.ldA 5 (tm 3)), sm 1 12 (.ldA 11 (tm 4)), sc 2 13 153 [(tm 11), (tm 12)]]
abbrev vS5 : List Stp := [sm 0 15 (.fa 1 (tm 3)), sm 1 16 (.fa 2 (tm 15)), sm 2 17 (.ld1 (tm 16)), sm 3 18 (.fa 0 (tm 3)), sm 4 19 (.ld1 (tm 18)), sm 5 20 (.bin .eql 3 (tm 17) (tm 19))]
abbrev vS6 : List Stp := [se 0 (.st 1 (tm 6) (.const (.int .u8 8)))]
abbrev vS7 : List Stp := [se 0 (.st 1 (tm 6) (.const (.int .u8 1)))]
def hl6 (S E X : List CV) (v : Int) : Hl := [.cells 5 S, .cells 11 E, .cells 32 X, .cells 1 [.int .u8 v], .cells 5 S, .cells 11 E]
structure VOk (V0 V1 V2 V3 V4 V5 V6 V7 : Array Oper) (o4 : Oper) (t4 : TypeId) : Prop where
 body : Tryz.f103.body = some (.seq (.region 0 V0 false) (.seq (.seq (.region 1 V1 false) (.cond (.tmp 10) (.seq (.region 2 V2 false) .ret) .skip)) (.seq (.seq (.region 3 V3 false) (.block 0 (.rangeFunc (.tmp 13) #[14] .skip (.block 1 (.seq (.region 4 V4 false) .ret)))))
  (.seq (.seq (.region 5 V5 false) (.cond (.tmp 20) (.seq (.region 6 V6 false) .ret) .skip)) (.seq (.region 7 V7 false) .ret)))))
 c0 : comp Tryz.prog 21 (.region 0 V0 false) = some (.reg vS0)
 c1 : comp Tryz.prog 21 (.seq (.region 1 V1 false) (.cond (.tmp 10) (.seq (.region 2 V2 false) .ret) .skip)) = some vC1
 c3 : comp Tryz.prog 21 (.region 3 V3 false) = some (.reg vS3)
 l4 : V4.toList = [o4]
 o4_op : o4.op = .store t4 (.tmp 6) (.const (.int .u8 6))
 o4_dst : o4.dst = none
 o4_guard : o4.guard = none
 ok5 : AllOk Tryz.prog V5 vS5 V5.toList
 ok6 : AllOk Tryz.prog V6 vS6 V6.toList
 ok7 : AllOk Tryz.prog V7 vS7 V7.toList
 dst5 : ∀ (i : Nat) (o : Oper), V5[i]? = some o → dstOk 21 o.dst = true
 dst6 : ∀ (i : Nat) (o : Oper), V6[i]? = some o → dstOk 21 o.dst = true
 dst7 : ∀ (i : Nat) (o : Oper), V7[i]? = some o → dstOk 21 o.dst = true
 size4 : sizeT Tryz.prog t4 = some 1
theorem dst_all21 {R : Array Oper} (hall : (R.toList.all fun o => dstOk 21 o.dst) = true) (i : Nat) (o : Oper) (h : R[i]? = some o) : dstOk 21 o.dst = true := by
 exact List.all_eq_true.1 hall o (by rw [← Array.getElem?_toList] at h; exact List.mem_of_getElem? h)
theorem vOk : ∃ V0 V1 V2 V3 V4 V5 V6 V7 o4 t4, VOk V0 V1 V2 V3 V4 V5 V6 V7 o4 t4 :=
 ⟨opsC (subC ((Tryz.f103.body).getD .skip) [false]),
  opsC (subC ((Tryz.f103.body).getD .skip) [true, false, false]),
  opsC (subC ((Tryz.f103.body).getD .skip) [true, false, true, false, false]),
  opsC (subC ((Tryz.f103.body).getD .skip) [true, true, false, false]),
  opsC (subC ((Tryz.f103.body).getD .skip) [true, true, false, true, false, true, false, false]),
  opsC (subC ((Tryz.f103.body).getD .skip) [true, true, true, false, false]),
  opsC (subC ((Tryz.f103.body).getD .skip) [true, true, true, false, true, false, false]),
  opsC (subC ((Tryz.f103.body).getD .skip) [true, true, true, true, false]),
  ((opsC (subC ((Tryz.f103.body).getD .skip) [true, true, false, true, false, true, false, false])).toList).headD { op := .move (.tmp 0), dst := none, type := 0, pos := "", after := #[], guard := none },
  (match (((opsC (subC ((Tryz.f103.body).getD .skip) [true, true, false, true, false, true, false, false])).toList).headD { op := .move (.tmp 0), dst := none, type := 0, pos := "", after := #[], guard := none }).op with | .store t _ _ => t | _ => 0),
  ⟨by kernel_rfl, by kernel_rfl, by kernel_rfl, by kernel_rfl, by kernel_rfl, by kernel_rfl, by kernel_rfl, by kernel_rfl,
  allOk_stps (idx := [0, 1, 2, 3, 4, 5]) (by kernel_rfl) (by kernel_rfl), allOk_stps (idx := [0]) (by kernel_rfl) (by kernel_rfl), allOk_stps (idx := [0]) (by kernel_rfl) (by kernel_rfl),
  dst_all21 (by kernel_rfl), dst_all21 (by kernel_rfl), dst_all21 (by kernel_rfl), by kernel_rfl⟩⟩
theorem missing_own (S E : List CV) (hS : S.length = 5) (hE : E.length = 11) {l : Hl} {K : CV → Hl → Prop} (hK : K (.fn 206 [] [.ptr (l.length + 1) 0 11, .ptr l.length 0 5]) (l ++ [.cells 5 S, .cells 11 E])) :
  CallP Tryz.prog GS 153 [.ag S, .ag E] l (c := ⟨K⟩) := by
 apply call_intro c153_eq r153_eq
 unfold c153 r153
 simp [hS, hE]
 exact hK
theorem verd_res (v : Int) : resC Tryz.prog (HL [.cells 1 [.int .u8 v]]) (fupd (fun _ => CV.bad) 6 (.ptr 0 0 1)) Tryz.f103 = some (.int .u8 v) := by kernel_rfl
end Op
end Go.CM

namespace Go.CM
open Go Go.Proofs Go.RowKit
set_option maxRecDepth 100000
namespace Op
open Sha
theorem hl6_cells (S E X : List CV) (v : Int) : ∀ (b : Nat) (c : CB), (hl6 S E X v)[b]? = some c → ∃ n cs, c = CB.cells n cs := by
 intro b c h
 have hm := List.mem_of_getElem? h
 simp only [hl6, List.mem_cons, List.not_mem_nil, or_false] at hm
 rcases hm with rfl | rfl | rfl | rfl | rfl | rfl <;> exact ⟨_, _, rfl⟩
theorem round4 {V0 V1 V2 V3 V4 V5 V6 V7 : Array Oper} {o4 : Oper} {t4 : TypeId} (M : VOk V0 V1 V2 V3 V4 V5 V6 V7 o4 t4) {S E X : List CV} {F : Fence} (hF : ∀ f, F.fn f) {n : Nat} {R : Nat → Prop} {B : Nat} {W : World} {μ : Mu} {a : Go.Act}
  (rel : Rel R B W (HL (hl6 S E X 0)) μ) (h6 : VR W R (HL (hl6 S E X 0)) μ (.ptr 3 0 1) (a.tmps.getD 6 undef)) :
  (Code.block 1 (.seq (.region 4 V4 false) .ret)).wpIn F n Tryz.prog (fun e _ W' => e = .ret ∧ Ext W (HL (hl6 S E X 0)) μ W' (HL (hl6 S E X 6)) μ ∧ Rel R B W' (HL (hl6 S E X 6)) μ) a W := by
 refine wpIn_block (wpIn_seq (wpIn_region_list ?_))
 rw [M.l4]
 have hst : storeC Tryz.prog (HL (hl6 S E X 0)) t4 (.ptr 3 0 1) (.int .u8 6) = some (HL (hl6 S E X 6)) := by
  unfold storeC
  rw [M.size4]
  have hf : (HL (hl6 S E X 0)).f 3 = .cells 1 [.int .u8 0] := HL_cells.2 rfl
  simp only [CV.cells, hf]
  rw [if_pos (by simp), HL_set _ (by simp [hl6])]
  rfl
 obtain ⟨w', h1, h2, h3⟩ := store_ok (P := Tryz.prog) rel hst h6 (.int .u8 6)
 unfold wpListIn
 have hw : Region.wanted o4 (yielded V4 a.tmps) = true := by unfold Region.wanted; rw [M.o4_guard]
 rw [if_pos hw]
 refine ⟨fun f _ => hF f, ?_⟩
 have hrun : (execOp a.eval o4).run Tryz.prog W = .ok .skip w' := by
  have he : a.eval (.tmp 6) = a.tmps.getD 6 undef := rfl
  rw [← he] at h1
  have h1' : (Instr.storeAt t4 (a.eval (.tmp 6)) (a.eval (.const (.int .u8 6)))).run Tryz.prog W = .ok () w' := h1
  simp [execOp, M.o4_op, h1']
 rw [Oper.semAt_eq _ _ _ (fun c => by rw [M.o4_op]; exact fun h => by cases h), hrun, Oper.uponIn_skip, M.o4_dst]
 exact wpListIn_nil (wpIn_ret ⟨rfl, h2, h3⟩)
def verdN (x : List B) (ord : Ids) (ps : List (List B)) (cap ver : Int) : Int := if x ∈ ord.l then 5 else if ∀ p ∈ ps, p ∈ ord.l then (if ver = cap then 8 else 1) else 6
theorem fn2 {w : World} {R : Nat → Prop} {h : Hp} {μ : Mu} {f : FuncId} {c1 c2 : CV} {v : Value} (hv : VR w R h μ (.fn f [] [c1, c2]) v) : ∃ p1 p2, v = .func (.func f) #[] #[p1, p2] ∧ VR w R h μ c1 p1 ∧ VR w R h μ c2 p2 := by
 cases hv with
 | fn _ _ _ fs cs hf hc h1 h2 =>
  have e1 : fs = #[] := by apply Array.eq_empty_of_size_eq_zero; simpa using hf
  subst e1
  obtain ⟨cs⟩ := cs
  rcases cs with _ | ⟨p1, _ | ⟨p2, _ | ⟨p3, cs⟩⟩⟩
  ·simp at hc
  ·simp at hc
  ·exact ⟨p1, p2, rfl, h2 0 c1 p1 rfl rfl, h2 1 c2 p2 rfl rfl⟩
  ·simp at hc
theorem getD_at {l : List CV} {t : Nat} (h : t < l.length) : l.getD t undefC = l[t] := by simp [List.getD, h]
theorem getD_off {l : List CV} {t : Nat} (h : l.length ≤ t) : l.getD t undefC = undefC := by simp [List.getD, List.getElem?_eq_none h]
theorem miss_enters : Enters Tryz.prog 206 := by
 obtain ⟨R0, R1, R2, R3, R4, o8, M⟩ := mOk
 exact enters_of Tryz.func206 (by kernel_rfl) M.body
theorem blw_put {w3 W : World} {l : Nat} (o : Obj) (hb : Blw w3 W) (hl : w3.heap.size ≤ l) : Blw w3 (W.putObj l o) :=
 BB.blw ((BB.of_blw hb (Nat.le_refl _)).tr (BB.put W o hl hb.toBelow.size))
set_option maxHeartbeats 4000000 in
theorem verdict_E (E : List CV) (ps : Ids) (hcE : closedL E = true) (hEl : E.length = 11) (hE1 : ∀ h : 1 < E.length, E[1]'h = encIds ps) (hpo : okIds ps) (hpl : ps.l.length ≤ 1000000) (x : List B) (hx : x.length = 32) (ord : Ids) (hord : okIds ord) (hol : ord.l.length ≤ 1000000) (cap ver : Int) (parts heads : CV) (hp : parts.closed = true) (hh : heads.closed = true) :
  PureC Tryz.prog GS 103 [.ag (encSt cap ver parts heads ord), .ag E, .ag (eId x)] (.int .u8 (verdN x ord ps.l cap ver)) := by
 intro w A vs hg hvs hv
 obtain ⟨V0, V1, V2, V3, V4, V5, V6, V7, o4, t4, M⟩ := vOk
 obtain ⟨S, hS⟩ : ∃ S, S = encSt cap ver parts heads ord := ⟨_, rfl⟩
 have hcS : closedL S = true := by rw [hS]; exact closed_St hp hh
 have hSl : S.length = 5 := by rw [hS]; rfl
 have hS0 : ∀ h : 0 < S.length, S[0]'h = .int .i64 cap := fun h => by simp only [hS]; rfl
 have hS3 : ∀ h : 3 < S.length, S[3]'h = .int .i64 ver := fun h => by simp only [hS]; rfl
 have hS4 : ∀ h : 4 < S.length, S[4]'h = encIds ord := fun h => by simp only [hS]; rfl
 obtain ⟨X, hX⟩ : ∃ X, X = eId x := ⟨_, rfl⟩
 have hXl : X.length = 32 := by rw [hX]; exact eId_len hx
 have hcX : closedL X = true := by rw [hX]; exact closed_eId x
 have hin := wInI_ok ord hord hol x hx
 rw [← hX] at hin hv
 rw [← hS] at hv
 have hmix : Tryz.prog.follows .mixedOrders = true := Tryz.checked.mixed
 have hcord := closed_ids ord
 obtain ⟨N0, hN0⟩ : ∃ N0, N0 = verdN x ord ps.l cap ver := ⟨_, rfl⟩
 rw [← hN0]
 refine (callsIn_wide (n := 0)).1 (callsIn_of_wp_marks (fn := Tryz.f103) Tryz.func103 M.body trivial ?_ rfl)
 obtain ⟨Q0, hQ0⟩ : ∃ Q0, Q0 = bodyPostM Fence.wide 0 Tryz.prog Tryz.f103 (fun e w' => ∃ v, e = Ending.returned v ∧ Blw w w' ∧ VR0 w' (fun k => A k ∨ w.heap.size ≤ k) (.int .u8 N0) v) := ⟨_, rfl⟩
 rw [← hQ0]
 have hend : ∀ (a : Go.Act) (W : World) (v : Int), a.defers = [] → (results Tryz.f103 a.tmps).run Tryz.prog W = .ok (.int .u8 v) W → v = N0 → Blw w W → Q0 .ret a W := by
  intro a W v hd hr hvn hb
  rw [hQ0]
  show LeavesInM _ _ _ _ _ _ a.defers _ _
  rw [hd]
  exact ⟨_, hr, _, rfl, hb, by rw [hvn]; exact .int _ _⟩
 have hendD : ∀ (a : Go.Act) (W : World) (D : Nat) (v : Int), a.defers = [{ target := .collected D, args := #[] }] → W.heap[D]? = some (.deferred (some [])) → (results Tryz.f103 a.tmps).run Tryz.prog (W.putObj D (.deferred none)) = .ok (.int .u8 v) (W.putObj D (.deferred none)) → v = N0 → Blw w (W.putObj D (.deferred none)) → Q0 .ret a W := by
  intro a W D v hd hK hr hvn hb
  rw [hQ0]
  show LeavesInM _ _ _ _ _ _ a.defers _ _
  rw [hd]
  exact ⟨by simp, .inl ⟨_, _, rfl, run_takeDeferred hK, _, hr, _, rfl, hb, by rw [hvn]; exact .int _ _⟩⟩
 have up : ∀ {c : CV} {v : Value}, VR0 w A c v → VR w (fun k => A k ∨ w.heap.size ≤ k) Hp.empty (fun _ => none) c v := fun hc => hc.up (fun k _ hk => ⟨.inl hk, not_own_empty _ k⟩)
 have g : Gok GS w (fun k => A k ∨ w.heap.size ≤ k) Hp.empty (fun _ => none) := fun i => ⟨GS_closed i, up (hg i)⟩
 have hnt : Tryz.f103.ntmps = 21 := by kernel_rfl
 have rel := rel_empty w (fun k => A k ∨ w.heap.size ≤ k) fun k hk => .inr hk
 refine wpIn_seq (code_in (σ := argsS [.ag S, .ag E, .ag X]) (l := []) (K := fun e σ l => e = .normal ∧ l = [.cells 5 S, .cells 11 E, .cells 32 X, .cells 1 [.int .u8 0]] ∧ σ 3 = .ptr 0 0 5 ∧ σ 4 = .ptr 1 0 11 ∧ σ 5 = .ptr 2 0 32 ∧ σ 6 = .ptr 3 0 1)
  hmix GS_closed M.c0 ?_ rel g ⟨by rw [hnt]; simp [hvs], rfl, fun t => ?_⟩ ?_)
 ·simp [argsS, hSl, hEl, hXl]
 ·by_cases ht : t < ([.ag S, .ag E, .ag X] : List CV).length
  ·have ha := getD_at ht
   have hvt : (vs ++ Array.replicate (Tryz.f103.ntmps - vs.size) undef).getD t undef = vs[t]'(by rw [hvs]; exact ht) := by
    rw [Array.getD_eq_getD_getElem?, Array.getElem?_append_left (by rw [hvs]; exact ht)]
    simp [show t < vs.size by rw [hvs]; exact ht]
   show VR _ _ _ _ (([.ag S, .ag E, .ag X] : List CV).getD t undefC) _
   rw [ha, hvt]
   exact up (hv t _ _ (List.getElem?_eq_getElem ht) (by simp))
  ·have ha := getD_off (Nat.le_of_not_lt ht)
   have hvt : (vs ++ Array.replicate (Tryz.f103.ntmps - vs.size) undef).getD t undef = undef := by
    rw [Array.getD_eq_getD_getElem?, Array.getElem?_append_right (by rw [hvs]; exact Nat.le_of_not_lt ht), Array.getElem?_replicate]
    split <;> rfl
   show VR _ _ _ _ (([.ag S, .ag E, .ag X] : List CV).getD t undefC) _
   rw [ha, hvt]
   exact undef_ok
 rintro e a0 w0 μ0 σ0 l0 ⟨rfl, rfl, k3, k4, k5, k6⟩ ex0 rel0 s0
 have g0 := g.ext ex0
 by_cases hmem : x ∈ ord.l
 ·rw [decide_eq_true hmem] at hin
  have hN : (5 : Int) = N0 := by rw [hN0]; unfold verdN; rw [if_pos hmem]
  suffices hs : (Code.seq (.region 1 V1 false) (.cond (.tmp 10) (.seq (.region 2 V2 false) .ret) .skip)).wpIn Fence.wide 0 Tryz.prog (fun e a W => e = .ret ∧ Q0 .ret a W) a0 w0 from wpIn_seq (wpIn_mono hs fun e a w ⟨he, h⟩ => by subst he; exact h)
  refine code_in (σ := σ0) (K := fun e σ l => e = .ret ∧ l = [.cells 5 S, .cells 11 E, .cells 32 X, .cells 1 [.int .u8 5]] ∧ σ 6 = .ptr 3 0 1) hmix GS_closed M.c1 ?_ rel0 g0 s0 ?_
  ·simp [k3, k5, k6, hSl, hS4, hXl, List.take_of_length_le]
   refine pure_call hin (by simp [closedL, CV.closed, hcord, hcX]) ?_
   simp [k6]
  ·rintro e a1 w1 μ1 σ1 l1 ⟨rfl, rfl, j6⟩ ex1 rel1 s1
   have h6 := s1.val 6
   rw [j6] at h6
   exact ⟨rfl, hend a1 w1 5 s1.defers (fin_rel rel1 rfl h6 (fun _ _ _ => rfl) (Nat.le_refl _) (verd_res 5)) hN (blw_ext (ex0.trans ex1))⟩
 ·rw [decide_eq_false hmem] at hin
  refine wpIn_seq (code_in (σ := σ0) (K := fun e σ l => e = .normal ∧ l = [.cells 5 S, .cells 11 E, .cells 32 X, .cells 1 [.int .u8 0]] ∧ σ 3 = .ptr 0 0 5 ∧ σ 4 = .ptr 1 0 11 ∧ σ 6 = .ptr 3 0 1) hmix GS_closed M.c1 ?_ rel0 g0 s0 ?_)
  ·simp [k3, k5, k6, hSl, hS4, hXl, List.take_of_length_le]
   refine pure_call hin (by simp [closedL, CV.closed, hcord, hcX]) ?_
   simp [k3, k4, k6]
  rintro e a1 w1 μ1 σ1 l1 ⟨rfl, rfl, j3, j4, j6⟩ ex1 rel1 s1
  have g1 := g0.ext ex1
  show (Code.seq (.seq (.region 3 V3 false) (.block 0 (.rangeFunc (.tmp 13) #[14] .skip (.block 1 (.seq (.region 4 V4 false) .ret))))) _).wpIn Fence.wide 0 Tryz.prog Q0 a1 w1
  refine wpIn_seq (wpIn_seq (code_in (σ := σ1) (K := fun e σ l => e = .normal ∧ l = hl6 S E X 0 ∧ σ 3 = .ptr 0 0 5 ∧ σ 6 = .ptr 3 0 1 ∧ σ 13 = .fn 206 [] [.ptr 5 0 11, .ptr 4 0 5]) hmix GS_closed M.c3 ?_ rel1 g1 s1 ?_))
  ·simp [j3, j4, hSl, hEl, List.take_of_length_le]
   refine missing_own S E hSl hEl ?_
   simp [j3, j6, hl6]
  rintro e a3 w3 μ3 σ3 l3 ⟨rfl, rfl, i3, i6, i13⟩ ex3 rel3 s3
  have g3 := g1.ext ex3
  have hbw3 : Blw w w3 := blw_ext ((ex0.trans ex1).trans ex3)
  clear k3 k4 k5 k6 j3 j4 j6 s0 s1 rel0 rel1 ex0 ex1 ex3 g0 g1
  have h6 := s3.val 6
  rw [i6] at h6
  have h13 := s3.val 13
  rw [i13] at h13
  obtain ⟨p1, p2, hgv, hp1, hp2⟩ := fn2 h13
  have hr1 := ptr_ro rel3 (cs := E) (by rfl) hcE hp1
  have hr2 := ptr_ro rel3 (cs := S) (by rfl) hcS hp2
  have hszB : w.heap.size ≤ w3.heap.size := hbw3.toBelow.size
  have hW1b : ∀ {ob : Obj} {W1 : World}, W1 = (w3.alloc (.deferred (some []))).alloc ob → Blw w3 W1 ∧ W1.heap[w3.heap.size]? = some (.deferred (some [])) ∧ W1.heap.size = w3.heap.size + 2 := by
   intro ob W1 e
   subst e
   refine ⟨BB.blw ((BB.alloc (Nat.le_refl _) _).tr (BB.alloc (by simp) _)), ?_, by simp⟩
   exact (((RowKit.Below.refl (w3.heap.size + 1) (w3.alloc (.deferred (some [])))).alloc (by simp) ob).block w3.heap.size (by omega)).trans (World.alloc_heap_new _ _)
  show (Code.block 0 _).wpIn Fence.wide 0 Tryz.prog _ a3 w3
  refine wpIn_block (range1 (gf := 206) (lb := #[p1, p2]) (A := ∀ p ∈ ps.l, p ∈ ord.l) (B := ¬ ∀ p ∈ ps.l, p ∈ ord.l) hgv miss_enters rfl
   (fun Wp W' => Rel (fun k => A k ∨ w.heap.size ≤ k) w.heap.size Wp (HL (hl6 S E X 0)) μ3 ∧ Ext Wp (HL (hl6 S E X 0)) μ3 W' (HL (hl6 S E X 6)) μ3 ∧ Rel (fun k => A k ∨ w.heap.size ≤ k) w.heap.size W' (HL (hl6 S E X 6)) μ3)
   (fun Wp W' h => ext_others h.1 (hl6_cells S E X 0) h.2.1) ?_ ?_ ?_ ?_)
  ·intro fn y W hb
   obtain ⟨b1, _, _⟩ := hW1b rfl
   obtain ⟨e5, r5⟩ := rel_below rel3 (blw_put (l := w3.heap.size + 1) (.loop (recR fn a3.tmps #[14] (.block 1 (.seq (.region 4 V4 false) .ret)) w3.heap.size .busy none)) (blw_tr b1 hb) (by omega))
   refine wpIn_mono (round4 M (S := S) (E := E) (X := X) (fun _ => trivial) r5 ?_) ?_
   ·have h6' := VR.ext e5 h6
    have ht : (a3.tmps.setIfInBounds 14 y).getD 6 undef = a3.tmps.getD 6 undef := by simp only [Array.getD_eq_getD_getElem?, Array.getElem?_setIfInBounds_ne (show 14 ≠ 6 by omega)]
    rw [← ht] at h6'
    have hT : ∀ T : Array Value, T = a3.tmps.setIfInBounds 14 y → VR (W.putObj (w3.heap.size + 1) (.loop (recR fn a3.tmps #[14] (.block 1 (.seq (.region 4 V4 false) .ret)) w3.heap.size .busy none))) (fun k => A k ∨ w.heap.size ≤ k) (HL (hl6 S E X 0)) μ3 (.ptr 3 0 1) (T.getD 6 undef) := fun T e => by rw [e]; exact h6'
    exact hT _ (by simp)
   ·rintro e a' W' ⟨he, h1, h2⟩
    exact ⟨he, r5, h1, h2⟩
  ·intro fn W1 hW1 hY
   obtain ⟨b1, d1, z1⟩ := hW1b hW1
   rw [hS] at hr2
   refine (miss_call E ps hcE hEl hE1 hpo hpl ord hord hol cap ver parts heads hp hh (hr1.blw b1) (hr2.blw b1) (fun i => VR0.blw ((closed_vr (g3 i).2 (g3 i).1).up fun k _ hk => ⟨hk.1, not_own_empty _ k⟩) b1) hY ?_).mono ?_
   ·rintro W W' hb ⟨W3, ⟨r1, e1, r2⟩, rfl⟩
    have hWs := (blw_tr b1 hb).toBelow.size
    refine ⟨A, fun i => (hg i).blw (BB.blw ((((BB.of_blw hbw3 (Nat.le_refl _)).tr (BB.of_blw (blw_tr b1 hb) hszB)).tr (BB.put W _ (by omega) (by omega))).tr ((BB.ext r1 e1).tr (BB.put W3 _ (by omega) r2.size))))⟩
   ·rintro e W2 ⟨hv, hA | ⟨hn, W, W', hb, ⟨W3, ht, rfl⟩, hb2⟩⟩
    ·exact ⟨hv, .inl hA⟩
    ·exact ⟨hv, .inr ⟨hn, W, W3, hb, ht, hb2⟩⟩
  ·intro fn W1 W2 hW1 hA hb
   obtain ⟨b1, d1, z1⟩ := hW1b hW1
   generalize hW' : W2.putObj _ _ = W'
   have hb' : Blw w3 W' := by rw [← hW']; exact blw_put _ (blw_tr b1 hb) (by omega)
   have hD : W'.heap[w3.heap.size]? = some (.deferred (some [])) := by rw [← hW', World.putObj_heap_other (by omega)]; exact (hb.toBelow.block _ (by omega)).trans d1
   obtain ⟨e5, r5⟩ := rel_below rel3 hb'
   have s5 := s3.ext e5
   have g5 := g3.ext e5
   have hfin : ∀ (a6 : Go.Act) (W6 : World) (μ6 : Mu) (v : Int), Ext W' (HL (hl6 S E X 0)) μ3 W6 (HL (hl6 S E X v)) μ6 → Rel (fun k => A k ∨ w.heap.size ≤ k) w.heap.size W6 (HL (hl6 S E X v)) μ6 →
     VR W6 (fun k => A k ∨ w.heap.size ≤ k) (HL (hl6 S E X v)) μ6 (.ptr 3 0 1) (a6.tmps.getD 6 undef) → a6.defers = [{ target := .collected w3.heap.size, args := #[] }] → v = N0 → Q0 .ret a6 W6 := by
    intro a6 W6 μ6 v e6 r6 h6' hd hvn
    have hD6 : W6.heap[w3.heap.size]? = some (.deferred (some [])) := (ext_others r5 (hl6_cells S E X 0) e6).same _ _ hD rfl
    refine hendD a6 W6 w3.heap.size v hd hD6 (fin_rel r6 (b := 3) rfl h6' (fun k hk hc => World.putObj_heap_other (fun hkD => by obtain ⟨arr, e, fz, hc⟩ := hc; rw [hkD, hD6] at hc; cases hc)) (by simp) (verd_res v)) hvn ?_
    exact BB.blw ((((BB.of_blw hbw3 (Nat.le_refl _)).tr (BB.of_blw hb' hszB)).tr (BB.ext r5 e6)).tr (BB.put W6 _ hszB r6.size))
   show (Code.seq (.seq (.region 5 V5 false) (.cond (.tmp 20) (.seq (.region 6 V6 false) .ret) .skip)) (.seq (.region 7 V7 false) .ret)).wpIn Fence.wide 0 Tryz.prog Q0 { tmps := a3.tmps, defers := { target := .collected w3.heap.size, args := #[] } :: a3.defers } W'
   refine wpIn_seq (wpIn_seq (part_frame (σ := σ3) (D := [{ target := .collected w3.heap.size, args := #[] }]) hmix GS_closed M.dst5 M.ok5 (K := fun σ l => l = hl6 S E X 0 ∧ σ 6 = .ptr 3 0 1 ∧ σ 20 = .bool (decide (ver = cap))) ?_ r5 g5 ⟨s5.size, rfl, s5.val⟩ (by rw [s3.defers]) ?_))
   ·simp [i3, i6, hl6, hSl, hS0, hS3]
   rintro a5 W5 μ5 σ5 l5 ⟨rfl, j6, j20⟩ ex5 rel5 s5' hd5
   show (Code.cond (.tmp 20) (.seq (.region 6 V6 false) .ret) .skip).wpIn Fence.wide 0 Tryz.prog _ a5 W5
   by_cases hvc : ver = cap
   ·rw [decide_eq_true hvc] at j20
    refine wpIn_cond_true (val_of s5' j20) (wpIn_seq (part_frame (σ := σ5) hmix GS_closed M.dst6 M.ok6 (K := fun σ l => l = hl6 S E X 8 ∧ σ 6 = .ptr 3 0 1) ?_ rel5 (g5.ext ex5) s5' hd5 ?_))
    ·simp [j6, hl6]
    rintro a6 W6 μ6 σ6 l6 ⟨rfl, m6⟩ ex6 rel6 s6 hd6
    refine wpIn_ret (hfin a6 W6 μ6 8 (ex5.trans ex6) rel6 (by have := s6.val 6; rwa [m6] at this) hd6 ?_)
    rw [hN0]; unfold verdN; rw [if_neg hmem, if_pos hA, if_pos hvc]
   ·rw [decide_eq_false hvc] at j20
    refine wpIn_cond_false (val_of s5' j20) (wpIn_skip ?_)
    show (Code.seq (.region 7 V7 false) .ret).wpIn Fence.wide 0 Tryz.prog Q0 a5 W5
    refine wpIn_seq (part_frame (σ := σ5) hmix GS_closed M.dst7 M.ok7 (K := fun σ l => l = hl6 S E X 1 ∧ σ 6 = .ptr 3 0 1) ?_ rel5 (g5.ext ex5) s5' hd5 ?_)
    ·simp [j6, hl6]
    rintro a6 W6 μ6 σ6 l6 ⟨rfl, m6⟩ ex6 rel6 s6 hd6
    refine wpIn_ret (hfin a6 W6 μ6 1 (ex5.trans ex6) rel6 (by have := s6.val 6; rwa [m6] at this) hd6 ?_)
    rw [hN0]; unfold verdN; rw [if_neg hmem, if_pos hA, if_neg hvc]
  ·rintro fn W1 W W3 W2 hW1 hB hb ⟨r1, e1, r2⟩ hb2
   obtain ⟨b1, d1, z1⟩ := hW1b hW1
   have hWs := (blw_tr b1 hb).toBelow.size
   have hLW : w3.heap.size + 1 < W.heap.size := by have := hb.toBelow.size; omega
   obtain ⟨e5, r5⟩ := rel_below rel3 (blw_put (l := w3.heap.size + 1) (.loop (recR fn a3.tmps #[14] (.block 1 (.seq (.region 4 V4 false) .ret)) w3.heap.size .busy none)) (blw_tr b1 hb) (by omega))
   have hko := ext_others r1 (hl6_cells S E X 0) e1
   have hDW : W.heap[w3.heap.size]? = some (.deferred (some [])) := (hb.toBelow.block _ (by omega)).trans d1
   have hD3 : W3.heap[w3.heap.size]? = some (.deferred (some [])) := hko.same _ _ (by rw [World.putObj_heap_other (by omega)]; exact hDW) rfl
   have hL3 := hko.same _ _ (World.putObj_heap_same hLW) rfl
   have hD3s := (Array.getElem?_eq_some_iff.1 hD3).1
   have hb2s := hb2.toBelow.size
   simp only [World.putObj_size] at hb2s
   have hD2 : W2.heap[w3.heap.size]? = some (.deferred (some [])) := (hb2.toBelow.block _ (by simpa using hD3s)).trans (by rw [World.putObj_heap_other (by omega)]; exact hD3)
   show Q0 .ret { tmps := a3.tmps, defers := { target := .collected w3.heap.size, args := #[] } :: a3.defers } _
   refine hendD _ _ w3.heap.size 6 (by rw [s3.defers]) (by rw [World.putObj_heap_other (by omega)]; exact hD2) (fin_rel r2 (b := 3) rfl (VR.ext (e5.trans e1) h6) (fun k hk hc => ?_) (by simpa using hb2s) (verd_res 6)) ?_ ?_
   ·obtain ⟨arr, e, fz, hc⟩ := hc
    have hkD : k ≠ w3.heap.size := fun h => by rw [h, hD3] at hc; cases hc
    have hkL : k ≠ w3.heap.size + 1 := fun h => by rw [h, hL3] at hc; cases hc
    have hks := (Array.getElem?_eq_some_iff.1 hc).1
    rw [World.putObj_heap_other hkD, World.putObj_heap_other hkL, hb2.toBelow.block k (by simpa using hks), World.putObj_heap_other hkL]
   ·rw [hN0]; unfold verdN; rw [if_neg hmem, if_neg hB]
   ·have h3 : BB w.heap.size w W3 := (((BB.of_blw hbw3 (Nat.le_refl _)).tr (BB.of_blw (blw_tr b1 hb) hszB)).tr (BB.put W _ (by omega) (by omega))).tr (BB.ext r1 e1)
    have hs3 := r2.size
    exact BB.blw (((h3.tr (BB.put W3 _ (by omega) hs3)).tr (BB.of_blw hb2 (by simpa using hs3))).tr ((BB.put W2 _ (by omega) (by omega)).tr (BB.put _ _ hszB (by simp; omega))))
end Op
end Go.CM

namespace Go.CM
open Go Go.Proofs
set_option maxRecDepth 100000
open Sha Op
def idOfC : List CV → Option (List B)
 | [] => some []
 | .int .u8 n :: r => match decide (0 ≤ n) && decide (n < 256) with
  | true => match idOfC r with | some l => some (BitVec.ofNat 8 n.toNat :: l) | none => none
  | false => none
 | _ => none
theorem idOfC_ok : ∀ {e : List CV} {i : List B}, idOfC e = some i → e = eId i
 | [], i, h => by cases h; rfl
 | c :: r, i, h => by
  unfold idOfC at h
  split at h
  ·rename_i e1; cases e1
  ·rename_i n r' e1
   cases e1
   split at h
   ·rename_i hb
    split at h
    ·rename_i l hl
     cases h
     simp only [Bool.and_eq_true, decide_eq_true_eq] at hb
     rw [idOfC_ok hl]
     have : ((BitVec.ofNat 8 n.toNat).toNat : Int) = n := by
      rw [BitVec.toNat_ofNat, Nat.mod_eq_of_lt (by omega)]; omega
     simp only [eId, List.map_cons, e8, u, this]
    ·cases h
   ·cases h
  ·cases h
def idsOfL : List (List CV) → Option (List (List B))
 | [] => some []
 | e :: r => match idOfC e with
  | some i => match Nat.beq i.length 32 with
   | true => match idsOfL r with | some l => some (i :: l) | none => none
   | false => none
  | none => none
theorem idsOfL_ok : ∀ {es : List (List CV)} {l : List (List B)}, idsOfL es = some l → es = l.map eId ∧ ∀ i ∈ l, i.length = 32
 | [], l, h => by cases h; exact ⟨rfl, fun i hi => by cases hi⟩
 | e :: r, l, h => by
  unfold idsOfL at h
  split at h
  ·rename_i i hi
   split at h
   ·rename_i hb
    split at h
    ·rename_i l' hl
     cases h
     obtain ⟨h1, h2⟩ := idsOfL_ok hl
     refine ⟨by rw [idOfC_ok hi, h1]; rfl, fun x hx => ?_⟩
     rcases List.mem_cons.1 hx with h3 | h3
     ·rw [h3]; exact Nat.eq_of_beq_eq_true hb
     ·exact h2 x h3
    ·cases h
   ·cases h
  ·cases h
def idsOfC : CV → Option Ids
 | .nilS => some none
 | .rsl 32 es => match idsOfL es with | some l => (match Nat.ble l.length 100000 with | true => some (some l) | false => none) | none => none
 | _ => none
theorem idsOfC_ok {c : CV} {s : Ids} (h : idsOfC c = some s) : c = encIds s ∧ okIds s ∧ s.l.length ≤ 1000000 := by
 unfold idsOfC at h
 split at h
 ·cases h; exact ⟨rfl, fun i hi => (by cases hi), by simp [Sv.l]⟩
 ·split at h
  ·rename_i l hl
   split at h
   ·rename_i hb
    cases h
    obtain ⟨h1, h2⟩ := idsOfL_ok hl
    have := Nat.le_of_ble_eq_true hb
    exact ⟨by rw [h1]; rfl, h2, by show l.length ≤ _; omega⟩
   ·cases h
  ·cases h
 ·cases h
def beqB : List B → List B → Bool
 | [], [] => true
 | x :: a, y :: b => match Nat.beq x.toNat y.toNat with | true => beqB a b | false => false
 | _, _ => false
theorem beqB_iff : ∀ a b : List B, beqB a b = true ↔ a = b
 | [], [] => by simp [beqB]
 | [], y :: b => by simp [beqB]
 | x :: a, [] => by simp [beqB]
 | x :: a, y :: b => by
  unfold beqB
  split
  ·rename_i h
   have h1 := Nat.eq_of_beq_eq_true h
   rw [beqB_iff a b, List.cons.injEq]
   exact Iff.intro (fun h => And.intro (BitVec.eq_of_toNat_eq h1) h) (fun h => h.2)
  ·rename_i h
   refine Iff.intro (fun h => (by cases h)) (fun hh => ?_)
   injection hh with h1 h2
   rw [h1, Nat.beq_refl] at h
   cases h
def inB (x : List B) : List (List B) → Bool
 | [] => false
 | y :: r => match beqB x y with | true => true | false => inB x r
theorem inB_iff (x : List B) : ∀ l, inB x l = true ↔ x ∈ l
 | [] => by simp [inB]
 | y :: r => by
  unfold inB
  split
  ·rename_i h; simp [(beqB_iff x y).1 h]
  ·rename_i h
   have hne : x ≠ y := fun e => by rw [(beqB_iff x y).2 e] at h; cases h
   rw [inB_iff x r]; simp [hne]
def allIn (ord : List (List B)) : List (List B) → Bool
 | [] => true
 | p :: r => match inB p ord with | true => allIn ord r | false => false
theorem allIn_iff (ord : List (List B)) : ∀ ps, allIn ord ps = true ↔ ∀ p ∈ ps, p ∈ ord
 | [] => by simp [allIn]
 | p :: r => by
  unfold allIn
  split
  ·rename_i h; rw [allIn_iff ord r]; simp [(inB_iff p ord).1 h]
  ·rename_i h
   have hn : ¬ p ∈ ord := fun e => by rw [(inB_iff p ord).2 e] at h; cases h
   simp [hn]
def verdB (x : List B) (ord ps : List (List B)) (cap ver : Int) : Int := match inB x ord with
 | true => 5
 | false => match allIn ord ps with
  | true => (match decide (ver = cap) with | true => 8 | false => 1)
  | false => 6
theorem verdB_eq (x : List B) (ord : Ids) (ps : List (List B)) (cap ver : Int) : verdB x ord.l ps cap ver = verdN x ord ps cap ver := by
 unfold verdB verdN
 split
 ·rename_i h; rw [if_pos ((inB_iff _ _).1 h)]
 ·rename_i h
  rw [if_neg fun e => by rw [(inB_iff _ _).2 e] at h; cases h]
  split
  ·rename_i h2
   rw [if_pos ((allIn_iff _ _).1 h2)]
   split
   ·rename_i h3; rw [if_pos (of_decide_eq_true h3)]
   ·rename_i h3; rw [if_neg (of_decide_eq_false h3)]
  ·rename_i h2
   rw [if_neg fun e => by rw [(allIn_iff _ _).2 e] at h2; cases h2]
def verdF : List CV → Option CV
 | [.ag [.int .i64 cap, parts, heads, .int .i64 ver, ordC], .ag (e0 :: predC :: e2), .ag x] => match Nat.beq e2.length 9 && (parts.closed && (heads.closed && (e0.closed && closedL e2))) with
  | true => match idsOfC ordC with
   | some ord => match idsOfC predC with
    | some ps => match idOfC x with
     | some i => match Nat.beq i.length 32 with
      | true => some (.int .u8 (verdB i ord.l ps.l cap ver))
      | false => none
     | none => none
    | none => none
   | none => none
  | false => none
 | _ => none
abbrev verdO : FuncId × Bool × (List CV → Option CV) := (103, false, verdF)
theorem verdO_ok : OrcP Tryz.prog GS verdO := by
 intro args r h
 refine ⟨?_, fun h => by cases h⟩
 simp only [verdF] at h
 split at h
 ·rename_i cap parts heads ver ordC e0 predC e2 x
  split at h
  ·rename_i hc
   simp only [Bool.and_eq_true] at hc
   obtain ⟨c1, c2, c3, c4, c5⟩ := hc
   split at h
   ·rename_i ord ho
    split at h
    ·rename_i ps hp
     split at h
     ·rename_i i hi
      split at h
      ·rename_i hb
       cases h
       obtain ⟨o1, o2, o3⟩ := idsOfC_ok ho
       obtain ⟨q1, q2, q3⟩ := idsOfC_ok hp
       have hx := idOfC_ok hi
       rw [verdB_eq, hx, o1]
       have hcp : predC.closed = true := by rw [q1]; exact closed_ids ps
       exact verdict_E (e0 :: predC :: e2) ps (by simp [closedL, c4, c5, hcp]) (by have := Nat.eq_of_beq_eq_true c1; simp [this]) (fun _ => q1) q2 q3 i (Nat.eq_of_beq_eq_true hb) ord o2 o3 cap ver parts heads c2 c3
      ·cases h
     ·cases h
    ·cases h
   ·cases h
  ·cases h
 ·cases h
end Go.CM

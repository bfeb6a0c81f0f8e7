/-
  The canonical machine: a law with arguments that returns true, as a claim wants it.
-/
import Derived.Test.YtfedhobckpgokaaCnF
import Derived.ProofKit
namespace Go.CM
open Go Go.ChangeShapes Go.RowKit
set_option linter.unusedVariables false
set_option linter.unusedSimpArgs false

theorem trodAll_below {H : Type} {enc : TypeId × Value → H} {P : Program} (hl : laidOutB P = true) {W W' : World} (hb : Below W.heap.size W W') : ∀ {ts : List TypeId} {vs : List Value} {ds : List (DataW H)} {ps : List MemPlace},
    (∀ t ∈ ts, P.readableRec t = true ∧ t < P.types.size) → DataW.TrodAll enc P W 0 (fun _ => true) true ts vs ds ps → DataW.TrodAll enc P W' 0 (fun b => decide (b < W.heap.size)) true ts vs ds ps
  | [], vs, ds, ps, _, h => by
    obtain ⟨rfl, rfl, rfl⟩ := trodAll_nil h
    exact trodAll_mk0
  | t :: ts, vs, ds, ps, hr, h => by
    have hlt := h.lt
    obtain ⟨v, vs1, d, ds1, a, b, rfl, rfl, rfl, h1, h2⟩ := trodAll_cons h
    exact ⟨a, b, Below.trod hl (hr t (by simp)).1 (hr t (by simp)).2 h1 hb (fun x hx => hlt x (by simp [hx])), trodAll_below hl hb (fun t ht => hr t (by simp [ht])) h2, rfl⟩

/-- What a law that returns true has to show: that it does so for all canonical arguments of its types. -/
theorem law_walk {P : Program} {G : Nat → CV} (hmix : P.follows .mixedOrders = true) (hG : ∀ g, (G g).closed = true) {f : FuncId} {ts : List TypeId} (D : Nat) (hp : ∀ t ∈ ts, plainT P D t = true) (hlaid : laidOutB P = true)
    (hrow : ∀ t ∈ ts, P.readableRec t = true ∧ t < P.types.size) (law : ∀ cs, TyA P ts cs → CallP P G f cs [] (c := ⟨fun r _ => r = .bool true⟩))
    {H : Type} {enc : TypeId × Value → H} {W : World} {b0 : Nat} {args : Array Value} {ds : List (DataW H)} {ps : List MemPlace} (hg : ∀ g, VR0 W (fun _ => True) (G g) (.pointer (some ⟨g, 0, none⟩)))
    (hok : ∀ (j : Nat) t v, ts[j]? = some t → args[j]? = some v → Value.okWide P W .any b0 t v) (h : DataW.TrodAll enc P W 0 (fun _ => true) true ts args.toList ds ps) :
    Calls P f args W fun e w' => e = .returned (.bool true) ∧ Below W.heap.size W w' ∧ DataW.TrodAll enc P w' 0 (fun b => decide (b < W.heap.size)) true ts args.toList ds ps := by
  obtain ⟨cs, hty, hlen, hvr⟩ := args_won (A := fun _ => True) (fun _ => trivial) hp (fun j t v ht hv => hok j t v ht (by simpa using hv)) h
  exact (law_call hmix hG (law cs hty) hg (by rw [hlen]; simp) (fun j c v hc hv => hvr j c v hc (by simpa using hv))).mono fun e w' ⟨he, hb⟩ => ⟨he, hb, trodAll_below hlaid hb hrow h⟩
end Go.CM

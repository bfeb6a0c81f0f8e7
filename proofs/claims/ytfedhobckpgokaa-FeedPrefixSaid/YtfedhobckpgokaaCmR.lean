/-
  The canonical machine, part R: from the machine to a law.
-/
import Derived.Test.YtfedhobckpgokaaCmQ
import Derived.ProofKit
namespace Go.CM
open Go
set_option linter.unusedVariables false

section
variable {P : Program} {G : Nat → CV}

theorem rel_empty (w : World) (R : Nat → Prop) (hR : ∀ k, w.heap.size ≤ k → R k) : Rel R w.heap.size w Hp.empty (fun _ => none) where
  blk := fun b m hm => by cases hm
  inj := fun b b' m m' hl => by rw [empty_f] at hl; cases hl
  base := fun b m hl => by rw [empty_f] at hl; cases hl
  fresh := fun b _ => empty_f b
  up := hR
  size := Nat.le_refl _
  mu := fun b _ => rfl

theorem not_own_empty (μ : Mu) (k : Nat) : ¬ Own Hp.empty μ k := by
  rintro ⟨b, m, hl, _⟩
  rw [empty_f] at hl; cases hl

/-- A call that starts with nothing of the machine's own. -/
theorem top_call (hmix : P.follows .mixedOrders = true) (hG : ∀ g, (G g).closed = true) {f : FuncId} {args : List CV} {r : CV} {h' : Hp} (he : Ev P G (.call f args Hp.empty r h'))
    {w : World} {A : Nat → Prop} {vs : Array Value} (hg : ∀ g, VR0 w A (G g) (.pointer (some ⟨g, 0, none⟩))) (hl : vs.size = args.length)
    (hv : ∀ (j : Nat) (c : CV) (v : Value), args[j]? = some c → vs[j]? = some v → VR0 w A c v) :
    Calls P f vs w fun e w' => ∃ v μ', e = .returned v ∧ RowKit.Below w.heap.size w w' ∧ Rel (fun k => A k ∨ w.heap.size ≤ k) w.heap.size w' h' μ' ∧ VR w' (fun k => A k ∨ w.heap.size ≤ k) h' μ' r v := by
  have up : ∀ {c : CV} {v : Value}, VR0 w A c v → VR w (fun k => A k ∨ w.heap.size ≤ k) Hp.empty (fun _ => none) c v := fun hc => hc.up (fun k _ hk => ⟨.inl hk, not_own_empty _ k⟩)
  refine (sound hmix hG he (fun k => A k ∨ w.heap.size ≤ k) w.heap.size w (fun _ => none) vs (rel_empty w _ fun k hk => .inr hk) (fun g => ⟨hG g, up (hg g)⟩) hl (fun j c v hj hjv => up (hv j c v hj hjv))).mono ?_
  rintro e w' ⟨v, μ', rfl, ex, rel, hr⟩
  exact ⟨v, μ', rfl, ⟨ex.os, ex.tape, ex.output, ex.size, fun k hk => ex.keep k hk (not_own_empty _ k)⟩, rel, hr⟩

theorem top_true (hmix : P.follows .mixedOrders = true) (hG : ∀ g, (G g).closed = true) {f : FuncId} {args : List CV} {h' : Hp} (he : Ev P G (.call f args Hp.empty (.bool true) h'))
    {w : World} {A : Nat → Prop} {vs : Array Value} (hg : ∀ g, VR0 w A (G g) (.pointer (some ⟨g, 0, none⟩))) (hl : vs.size = args.length)
    (hv : ∀ (j : Nat) (c : CV) (v : Value), args[j]? = some c → vs[j]? = some v → VR0 w A c v) :
    Calls P f vs w fun e w' => e = .returned (.bool true) ∧ RowKit.Below w.heap.size w w' := by
  refine (top_call hmix hG he hg hl hv).mono ?_
  rintro e w' ⟨v, μ', rfl, hb, _, hr⟩
  cases hr
  exact ⟨rfl, hb⟩

/-- No global is looked at. -/
def G0 : Nat → CV := fun _ => .bad
theorem G0_closed (g : Nat) : (G0 g).closed = true := rfl
theorem G0_ok (w : World) (A : Nat → Prop) (g : Nat) : VR0 w A (G0 g) (.pointer (some ⟨g, 0, none⟩)) := .bad _

def noOrc : FuncId → List CV → Option CV := fun _ _ => none
theorem noOrc_ok : OrcOk P G noOrc := fun f args r h => by cases h

def isTrue (x : Option (CV × Hp)) : Bool := match x with | some (.bool true, _) => true | _ => false
theorem isTrue_spec {x : Option (CV × Hp)} (h : isTrue x = true) : ∃ h', x = some (.bool true, h') := by
  unfold isTrue at h
  split at h
  · exact ⟨_, rfl⟩
  · cases h

/-- A closed law that is carried out. -/
theorem closed_law (hmix : P.follows .mixedOrders = true) {f : FuncId} {fuel d : Nat} (hr : isTrue (runCall P G0 noOrc fuel d f [] Hp.empty) = true) (w : World) :
    Calls P f #[] w fun e w' => e = .returned (.bool true) ∧ RowKit.Below w.heap.size w w' := by
  obtain ⟨h', hr'⟩ := isTrue_spec hr
  exact top_true hmix G0_closed (runCall_ok noOrc_ok d _ _ _ _ _ hr') (A := fun _ => False) (fun g => G0_ok w _ g) rfl (fun j c v hj => by simp at hj)

end
end Go.CM

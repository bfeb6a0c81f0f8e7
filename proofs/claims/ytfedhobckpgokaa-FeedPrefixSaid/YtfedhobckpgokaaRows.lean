/-
  No cell of these rows narrows 'for every input' (looked for: loops, veiled, ifaces, maps, wideKeys, modest, calm, conditions, laid).
  DERIVED. THE GIVEN ROWS OF THIS SEAT. 5 by the template 'for every input the law returns true; each argument reads behind the call as it read before'; 0 by the template 'total and deterministic' (their statements: YtfedhobckpgokaaTotals.lean).
  GIVEN WITH THE SEED: the statements are not yours to turn. If you find one false, say at which input.
  Laid BY PROGRAM, IN A SANDBOX (cutbox-rows.mjs): the forced cells as the released guide's own fill.sh prints them over the translation 862ecd0b5f3ece6d… (all of the seat's roots in one cut). By AI agents, Wed Nov 11 2026. No macro, syntax, notation, axiom, sorry.
-/
import Derived.Test.YtfedhobckpgokaaChecked
import GoSem.Claim
import GoSem.ClaimJoined
import GoSem.ClaimMapViews
import Derived.JoinedTies
import Derived.KernelRfl
namespace Go.Proofs.Ytfedhobckpgokaa
/- THE CELL 'sum', in the pinned program and in every row, IS THE sha256 OF THE DUMP (.gsa) THAT YtfedhobckpgokaaProg.lean LOADS. Nothing in Lean hashes anything: it is a label: what it is worth is what the hold of that sum in a sandbox is worth. -/
noncomputable def Try.pinned : Pinned := { name := "ytfedhobckpgokaa", sum := "862ecd0b5f3ece6da7a1242d3f44e046b14f86237b2738dd14ab46be7c2ac556", checked := Try.checked }
namespace Rows
def none {H : Type} : Left H := { results := [], args := [] }

/-- 'braidlaw20.FeedPrefix': WHATEVER THE INPUT: true; the input reads as it did. -/
def feedPrefixSpec : ChangeSpec := { name := "feedPrefix", fn := fun _ => fun
  | [d1, d2, d3, d4] => { results := [.lit (.bool true)], args := [d1, d2, d3, d4] }
  | _ => none }
def feedPrefixRow : OpenClaim := { program := "ytfedhobckpgokaa", sum := "862ecd0b5f3ece6da7a1242d3f44e046b14f86237b2738dd14ab46be7c2ac556", func := "braid/braidlaw20.FeedPrefix", spec := "feedPrefix", apart := false }
def FeedPrefixSaid : Prop := feedPrefixRow.holds Try.pinned (OpenSpec.ofChange feedPrefixSpec)

/-- ITS FALSE NEIGHBOUR: 'it returns false'. Refute it at one input. -/
def feedPrefixWrong : ChangeSpec := { name := "feedPrefix", fn := fun _ => fun
  | [d1, d2, d3, d4] => { results := [.lit (.bool false)], args := [d1, d2, d3, d4] }
  | _ => none }
def FeedPrefixWrongFalsely : Prop := feedPrefixRow.holds Try.pinned (OpenSpec.ofChange feedPrefixWrong)

/-- 'braidlaw20.FeedKeeps': WHATEVER THE INPUT: true; the input reads as it did. -/
def feedKeepsSpec : ChangeSpec := { name := "feedKeeps", fn := fun _ => fun
  | [d1, d2] => { results := [.lit (.bool true)], args := [d1, d2] }
  | _ => none }
def feedKeepsRow : OpenClaim := { program := "ytfedhobckpgokaa", sum := "862ecd0b5f3ece6da7a1242d3f44e046b14f86237b2738dd14ab46be7c2ac556", func := "braid/braidlaw20.FeedKeeps", spec := "feedKeeps", apart := false }
def FeedKeepsSaid : Prop := feedKeepsRow.holds Try.pinned (OpenSpec.ofChange feedKeepsSpec)

/-- ITS FALSE NEIGHBOUR: 'it returns false'. Refute it at one input. -/
def feedKeepsWrong : ChangeSpec := { name := "feedKeeps", fn := fun _ => fun
  | [d1, d2] => { results := [.lit (.bool false)], args := [d1, d2] }
  | _ => none }
def FeedKeepsWrongFalsely : Prop := feedKeepsRow.holds Try.pinned (OpenSpec.ofChange feedKeepsWrong)

/-- 'braidlaw20.FeedDoes': WHATEVER THE INPUT: true; the input reads as it did. -/
def feedDoesSpec : ChangeSpec := { name := "feedDoes", fn := fun _ => fun
  | [d1, d2, d3, d4] => { results := [.lit (.bool true)], args := [d1, d2, d3, d4] }
  | _ => none }
def feedDoesRow : OpenClaim := { program := "ytfedhobckpgokaa", sum := "862ecd0b5f3ece6da7a1242d3f44e046b14f86237b2738dd14ab46be7c2ac556", func := "braid/braidlaw20.FeedDoes", spec := "feedDoes", apart := false }
def FeedDoesSaid : Prop := feedDoesRow.holds Try.pinned (OpenSpec.ofChange feedDoesSpec)

/-- ITS FALSE NEIGHBOUR: 'it returns false'. Refute it at one input. -/
def feedDoesWrong : ChangeSpec := { name := "feedDoes", fn := fun _ => fun
  | [d1, d2, d3, d4] => { results := [.lit (.bool false)], args := [d1, d2, d3, d4] }
  | _ => none }
def FeedDoesWrongFalsely : Prop := feedDoesRow.holds Try.pinned (OpenSpec.ofChange feedDoesWrong)

/-- 'braidlaw20.FeedNames': WHATEVER THE INPUT: true; the input reads as it did. -/
def feedNamesSpec : ChangeSpec := { name := "feedNames", fn := fun _ => fun
  | [] => { results := [.lit (.bool true)], args := [] }
  | _ => none }
def feedNamesRow : OpenClaim := { program := "ytfedhobckpgokaa", sum := "862ecd0b5f3ece6da7a1242d3f44e046b14f86237b2738dd14ab46be7c2ac556", func := "braid/braidlaw20.FeedNames", spec := "feedNames", apart := false }
def FeedNamesSaid : Prop := feedNamesRow.holds Try.pinned (OpenSpec.ofChange feedNamesSpec)

/-- ITS FALSE NEIGHBOUR: 'it returns false'. Refute it at one input. -/
def feedNamesWrong : ChangeSpec := { name := "feedNames", fn := fun _ => fun
  | [] => { results := [.lit (.bool false)], args := [] }
  | _ => none }
def FeedNamesWrongFalsely : Prop := feedNamesRow.holds Try.pinned (OpenSpec.ofChange feedNamesWrong)

/-- 'braidlaw20.FeedApart': WHATEVER THE INPUT: true; the input reads as it did. -/
def feedApartSpec : ChangeSpec := { name := "feedApart", fn := fun _ => fun
  | [d1, d2, d3, d4] => { results := [.lit (.bool true)], args := [d1, d2, d3, d4] }
  | _ => none }
def feedApartRow : OpenClaim := { program := "ytfedhobckpgokaa", sum := "862ecd0b5f3ece6da7a1242d3f44e046b14f86237b2738dd14ab46be7c2ac556", func := "braid/braidlaw20.FeedApart", spec := "feedApart", apart := false }
def FeedApartSaid : Prop := feedApartRow.holds Try.pinned (OpenSpec.ofChange feedApartSpec)

/-- ITS FALSE NEIGHBOUR: 'it returns false'. Refute it at one input. -/
def feedApartWrong : ChangeSpec := { name := "feedApart", fn := fun _ => fun
  | [d1, d2, d3, d4] => { results := [.lit (.bool false)], args := [d1, d2, d3, d4] }
  | _ => none }
def FeedApartWrongFalsely : Prop := feedApartRow.holds Try.pinned (OpenSpec.ofChange feedApartWrong)

/- THE SECOND FORM. 'bulk': how many values and letters a reading holds, each counted each time it is reached (what is shared counts as often as it is met; a slice's spare places count too). A statement '..UptoSaid' is the law's where the arguments, and the package variables that the reading takes, are together of bulk at most 1048576: NARROWER than '..Said'. Prove '..Said' where nothing that the law and all that it calls make is longer than what came in: it says more and counts as full. Else prove '..UptoSaid'. A law counts once. -/
mutual
def uptoBulk {H : Type} : DataW H → Nat
  | .lit (.string bytes) => bytes.length + 1
  | .lit _ => 1
  | .nil => 1
  | .ptr d => uptoBulk d + 1
  | .slice elems spare => uptoBulkAll elems + uptoBulkAll spare + 1
  | .agg parts => uptoBulkAll parts + 1
  | .iface _ d => uptoBulk d + 1
  | .map entries => uptoBulkEntries entries + 1
  | .held _ => 1
def uptoBulkAll {H : Type} : List (DataW H) → Nat
  | [] => 0
  | d :: r => uptoBulk d + uptoBulkAll r
def uptoBulkEntries {H : Type} : List (Lit × DataW H) → Nat
  | [] => 0
  | x :: r => uptoBulkEntry x + uptoBulkEntries r
def uptoBulkEntry {H : Type} : Lit × DataW H → Nat
  | (.string bytes, d) => bytes.length + uptoBulk d + 1
  | (_, d) => uptoBulk d + 1
 end
def uptoSmall : (H : Type) → List (DataW H) → Bool := fun _ ds => decide (uptoBulkAll ds ≤ 1048576)
def OpenSpec.upto (s : _root_.Go.ChangeSpec) : _root_.Go.OpenSpec := { _root_.Go.OpenSpec.ofChange s with cond := some uptoSmall }

/-- 'braidlaw20.FeedPrefix', WHERE WHAT IT READS IS OF BULK AT MOST 1048576: true; the input reads as it did. -/
def feedPrefixUptoRow : OpenClaim := { program := "ytfedhobckpgokaa", sum := "862ecd0b5f3ece6da7a1242d3f44e046b14f86237b2738dd14ab46be7c2ac556", func := "braid/braidlaw20.FeedPrefix", spec := "feedPrefix", apart := false, narrowed := true }
def FeedPrefixUptoSaid : Prop := feedPrefixUptoRow.holds Try.pinned (OpenSpec.upto feedPrefixSpec)

/-- 'braidlaw20.FeedKeeps', WHERE WHAT IT READS IS OF BULK AT MOST 1048576: true; the input reads as it did. -/
def feedKeepsUptoRow : OpenClaim := { program := "ytfedhobckpgokaa", sum := "862ecd0b5f3ece6da7a1242d3f44e046b14f86237b2738dd14ab46be7c2ac556", func := "braid/braidlaw20.FeedKeeps", spec := "feedKeeps", apart := false, narrowed := true }
def FeedKeepsUptoSaid : Prop := feedKeepsUptoRow.holds Try.pinned (OpenSpec.upto feedKeepsSpec)

/-- 'braidlaw20.FeedDoes', WHERE WHAT IT READS IS OF BULK AT MOST 1048576: true; the input reads as it did. -/
def feedDoesUptoRow : OpenClaim := { program := "ytfedhobckpgokaa", sum := "862ecd0b5f3ece6da7a1242d3f44e046b14f86237b2738dd14ab46be7c2ac556", func := "braid/braidlaw20.FeedDoes", spec := "feedDoes", apart := false, narrowed := true }
def FeedDoesUptoSaid : Prop := feedDoesUptoRow.holds Try.pinned (OpenSpec.upto feedDoesSpec)

/-- 'braidlaw20.FeedNames', WHERE WHAT IT READS IS OF BULK AT MOST 1048576: true; the input reads as it did. -/
def feedNamesUptoRow : OpenClaim := { program := "ytfedhobckpgokaa", sum := "862ecd0b5f3ece6da7a1242d3f44e046b14f86237b2738dd14ab46be7c2ac556", func := "braid/braidlaw20.FeedNames", spec := "feedNames", apart := false, narrowed := true }
def FeedNamesUptoSaid : Prop := feedNamesUptoRow.holds Try.pinned (OpenSpec.upto feedNamesSpec)

/-- 'braidlaw20.FeedApart', WHERE WHAT IT READS IS OF BULK AT MOST 1048576: true; the input reads as it did. -/
def feedApartUptoRow : OpenClaim := { program := "ytfedhobckpgokaa", sum := "862ecd0b5f3ece6da7a1242d3f44e046b14f86237b2738dd14ab46be7c2ac556", func := "braid/braidlaw20.FeedApart", spec := "feedApart", apart := false, narrowed := true }
def FeedApartUptoSaid : Prop := feedApartUptoRow.holds Try.pinned (OpenSpec.upto feedApartSpec)

end Rows
end Go.Proofs.Ytfedhobckpgokaa

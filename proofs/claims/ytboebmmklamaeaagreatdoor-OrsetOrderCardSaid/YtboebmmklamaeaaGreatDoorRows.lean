/-
  NARROWER THAN 'FOR EVERY INPUT', by the rows' own cells (each row's printed sentence says how): OrsetDoes: laid · OrsetSees: laid · OrsetWins: laid · OrsetApplies: laid · OrsetOrder: laid · OrsetNames: laid.
  DERIVED. THE GIVEN ROWS OF THIS SEAT. 6 by the template 'for every input the law returns true; each argument reads behind the call as it read before'; 0 by the template 'total and deterministic' (their statements: YtboebmmklamaeaaGreatDoorTotals.lean).
  GIVEN WITH THE SEED: the statements are not yours to turn. If you find one false, say at which input.
  Laid BY PROGRAM, IN A SANDBOX (cutbox-rows.mjs): the forced cells as the released guide's own fill.sh prints them over the translation 419621b7cd054bac… (all of the seat's roots in one cut). By AI agents, Wed Nov 11 2026. No macro, syntax, notation, axiom, sorry.
-/
import Derived.Test.YtboebmmklamaeaaGreatDoorChecked
import GoSem.Claim
import GoSem.ClaimJoined
import GoSem.ClaimMapViews
import Derived.JoinedTies
import Derived.KernelRfl
namespace Go.Proofs.YtboebmmklamaeaaGreatDoor
/- THE CELL 'sum', in the pinned program and in every row, IS THE sha256 OF THE DUMP (.gsa) THAT YtboebmmklamaeaaGreatDoorProg.lean LOADS. Nothing in Lean hashes anything: it is a label: what it is worth is what the hold of that sum in a sandbox is worth. -/
noncomputable def Tryz.pinned : Pinned := { name := "ytboebmmklamaeaagreatdoor", sum := "419621b7cd054bac2e52a05b8fa10352a4fada0895a73671cbb3268726bcf5f3", checked := Tryz.checked }
namespace Rows
def none {H : Type} : Left H := { results := [], args := [] }

/- WHAT THE LISTED PACKAGE-LEVEL VARIABLES READ AS WHEN THE CALL BEGINS. Each datum BY PROGRAM (the guide's laid-datum.mjs) off the statement by which the dump's own 'gosem.cut.vars' lays the variable. In a bare row this is a premise. The card (YtboebmmklamaeaaGreatDoorCards.lean) ties it to the program's text. -/
def laid_braid_digest_constants {H : Type} : DataW H := .agg [.lit (.int .u32 1116352408), .lit (.int .u32 1899447441), .lit (.int .u32 3049323471), .lit (.int .u32 3921009573), .lit (.int .u32 961987163), .lit (.int .u32 1508970993), .lit (.int .u32 2453635748), .lit (.int .u32 2870763221), .lit (.int .u32 3624381080), .lit (.int .u32 310598401), .lit (.int .u32 607225278), .lit (.int .u32 1426881987), .lit (.int .u32 1925078388), .lit (.int .u32 2162078206), .lit (.int .u32 2614888103), .lit (.int .u32 3248222580), .lit (.int .u32 3835390401), .lit (.int .u32 4022224774), .lit (.int .u32 264347078), .lit (.int .u32 604807628), .lit (.int .u32 770255983), .lit (.int .u32 1249150122), .lit (.int .u32 1555081692), .lit (.int .u32 1996064986), .lit (.int .u32 2554220882), .lit (.int .u32 2821834349), .lit (.int .u32 2952996808), .lit (.int .u32 3210313671), .lit (.int .u32 3336571891), .lit (.int .u32 3584528711), .lit (.int .u32 113926993), .lit (.int .u32 338241895), .lit (.int .u32 666307205), .lit (.int .u32 773529912), .lit (.int .u32 1294757372), .lit (.int .u32 1396182291), .lit (.int .u32 1695183700), .lit (.int .u32 1986661051), .lit (.int .u32 2177026350), .lit (.int .u32 2456956037), .lit (.int .u32 2730485921), .lit (.int .u32 2820302411), .lit (.int .u32 3259730800), .lit (.int .u32 3345764771), .lit (.int .u32 3516065817), .lit (.int .u32 3600352804), .lit (.int .u32 4094571909), .lit (.int .u32 275423344), .lit (.int .u32 430227734), .lit (.int .u32 506948616), .lit (.int .u32 659060556), .lit (.int .u32 883997877), .lit (.int .u32 958139571), .lit (.int .u32 1322822218), .lit (.int .u32 1537002063), .lit (.int .u32 1747873779), .lit (.int .u32 1955562222), .lit (.int .u32 2024104815), .lit (.int .u32 2227730452), .lit (.int .u32 2361852424), .lit (.int .u32 2428436474), .lit (.int .u32 2756734187), .lit (.int .u32 3204031479), .lit (.int .u32 3329325298)]

/-- 'braidlaw21.OrsetDoes': WHATEVER THE INPUT: true; the input reads as it did. -/
def orsetDoesSpec : ChangeSpec := { name := "orsetDoes", fn := fun _ => fun
  | [d1, d2, d3, d4] => { results := [.lit (.bool true)], args := [d1, d2, d3, d4] }
  | _ => none }
def orsetDoesRow : OpenClaim := { program := "ytboebmmklamaeaagreatdoor", sum := "419621b7cd054bac2e52a05b8fa10352a4fada0895a73671cbb3268726bcf5f3", func := "braid/braidlaw21.OrsetDoes", spec := "orsetDoes", inPlace := ["internal/bytealg.Compare", "slices.overlaps[braid/api.Tag]"], unfollowed := true, recurses := true, named := ["braid/digest.constants"], plainKeys := false, apart := false, laid := [("braid/digest.constants", laid_braid_digest_constants)] }
def OrsetDoesSaid : Prop := orsetDoesRow.holds Tryz.pinned (OpenSpec.ofChange orsetDoesSpec)

/-- ITS FALSE NEIGHBOUR: 'it returns false'. Refute it at one input. -/
def orsetDoesWrong : ChangeSpec := { name := "orsetDoes", fn := fun _ => fun
  | [d1, d2, d3, d4] => { results := [.lit (.bool false)], args := [d1, d2, d3, d4] }
  | _ => none }
def OrsetDoesWrongFalsely : Prop := orsetDoesRow.holds Tryz.pinned (OpenSpec.ofChange orsetDoesWrong)

/-- 'braidlaw21.OrsetSees': WHATEVER THE INPUT: true; the input reads as it did. -/
def orsetSeesSpec : ChangeSpec := { name := "orsetSees", fn := fun _ => fun
  | [d] => { results := [.lit (.bool true)], args := [d] }
  | _ => none }
def orsetSeesRow : OpenClaim := { program := "ytboebmmklamaeaagreatdoor", sum := "419621b7cd054bac2e52a05b8fa10352a4fada0895a73671cbb3268726bcf5f3", func := "braid/braidlaw21.OrsetSees", spec := "orsetSees", inPlace := ["internal/bytealg.Compare"], unfollowed := true, recurses := true, named := ["braid/digest.constants"], plainKeys := false, apart := false, laid := [("braid/digest.constants", laid_braid_digest_constants)] }
def OrsetSeesSaid : Prop := orsetSeesRow.holds Tryz.pinned (OpenSpec.ofChange orsetSeesSpec)

/-- ITS FALSE NEIGHBOUR: 'it returns false'. Refute it at one input. -/
def orsetSeesWrong : ChangeSpec := { name := "orsetSees", fn := fun _ => fun
  | [d] => { results := [.lit (.bool false)], args := [d] }
  | _ => none }
def OrsetSeesWrongFalsely : Prop := orsetSeesRow.holds Tryz.pinned (OpenSpec.ofChange orsetSeesWrong)

/-- 'braidlaw21.OrsetWins': WHATEVER THE INPUT: true; the input reads as it did. -/
def orsetWinsSpec : ChangeSpec := { name := "orsetWins", fn := fun _ => fun
  | [d1, d2] => { results := [.lit (.bool true)], args := [d1, d2] }
  | _ => none }
def orsetWinsRow : OpenClaim := { program := "ytboebmmklamaeaagreatdoor", sum := "419621b7cd054bac2e52a05b8fa10352a4fada0895a73671cbb3268726bcf5f3", func := "braid/braidlaw21.OrsetWins", spec := "orsetWins", inPlace := ["internal/bytealg.Compare"], unfollowed := true, recurses := true, named := ["braid/digest.constants"], plainKeys := false, apart := false, laid := [("braid/digest.constants", laid_braid_digest_constants)] }
def OrsetWinsSaid : Prop := orsetWinsRow.holds Tryz.pinned (OpenSpec.ofChange orsetWinsSpec)

/-- ITS FALSE NEIGHBOUR: 'it returns false'. Refute it at one input. -/
def orsetWinsWrong : ChangeSpec := { name := "orsetWins", fn := fun _ => fun
  | [d1, d2] => { results := [.lit (.bool false)], args := [d1, d2] }
  | _ => none }
def OrsetWinsWrongFalsely : Prop := orsetWinsRow.holds Tryz.pinned (OpenSpec.ofChange orsetWinsWrong)

/-- 'braidlaw21.OrsetApplies': WHATEVER THE INPUT: true; the input reads as it did. -/
def orsetAppliesSpec : ChangeSpec := { name := "orsetApplies", fn := fun _ => fun
  | [d1, d2, d3] => { results := [.lit (.bool true)], args := [d1, d2, d3] }
  | _ => none }
def orsetAppliesRow : OpenClaim := { program := "ytboebmmklamaeaagreatdoor", sum := "419621b7cd054bac2e52a05b8fa10352a4fada0895a73671cbb3268726bcf5f3", func := "braid/braidlaw21.OrsetApplies", spec := "orsetApplies", inPlace := ["internal/bytealg.Compare", "slices.overlaps[braid/api.Tag]"], unfollowed := true, recurses := true, named := ["braid/digest.constants"], plainKeys := false, apart := false, laid := [("braid/digest.constants", laid_braid_digest_constants)] }
def OrsetAppliesSaid : Prop := orsetAppliesRow.holds Tryz.pinned (OpenSpec.ofChange orsetAppliesSpec)

/-- ITS FALSE NEIGHBOUR: 'it returns false'. Refute it at one input. -/
def orsetAppliesWrong : ChangeSpec := { name := "orsetApplies", fn := fun _ => fun
  | [d1, d2, d3] => { results := [.lit (.bool false)], args := [d1, d2, d3] }
  | _ => none }
def OrsetAppliesWrongFalsely : Prop := orsetAppliesRow.holds Tryz.pinned (OpenSpec.ofChange orsetAppliesWrong)

/-- 'braidlaw21.OrsetOrder': WHATEVER THE INPUT: true; the input reads as it did. -/
def orsetOrderSpec : ChangeSpec := { name := "orsetOrder", fn := fun _ => fun
  | [d1, d2] => { results := [.lit (.bool true)], args := [d1, d2] }
  | _ => none }
def orsetOrderRow : OpenClaim := { program := "ytboebmmklamaeaagreatdoor", sum := "419621b7cd054bac2e52a05b8fa10352a4fada0895a73671cbb3268726bcf5f3", func := "braid/braidlaw21.OrsetOrder", spec := "orsetOrder", inPlace := ["internal/bytealg.Compare", "slices.overlaps[braid/api.Tag]"], unfollowed := true, recurses := true, named := ["braid/digest.constants"], plainKeys := false, apart := false, laid := [("braid/digest.constants", laid_braid_digest_constants)] }
def OrsetOrderSaid : Prop := orsetOrderRow.holds Tryz.pinned (OpenSpec.ofChange orsetOrderSpec)

/-- ITS FALSE NEIGHBOUR: 'it returns false'. Refute it at one input. -/
def orsetOrderWrong : ChangeSpec := { name := "orsetOrder", fn := fun _ => fun
  | [d1, d2] => { results := [.lit (.bool false)], args := [d1, d2] }
  | _ => none }
def OrsetOrderWrongFalsely : Prop := orsetOrderRow.holds Tryz.pinned (OpenSpec.ofChange orsetOrderWrong)

/-- 'braidlaw21.OrsetNames': WHATEVER THE INPUT: true; the input reads as it did. -/
def orsetNamesSpec : ChangeSpec := { name := "orsetNames", fn := fun _ => fun
  | [] => { results := [.lit (.bool true)], args := [] }
  | _ => none }
def orsetNamesRow : OpenClaim := { program := "ytboebmmklamaeaagreatdoor", sum := "419621b7cd054bac2e52a05b8fa10352a4fada0895a73671cbb3268726bcf5f3", func := "braid/braidlaw21.OrsetNames", spec := "orsetNames", inPlace := ["internal/bytealg.Compare", "slices.overlaps[braid/api.Tag]"], unfollowed := true, recurses := true, named := ["braid/digest.constants"], plainKeys := false, apart := false, laid := [("braid/digest.constants", laid_braid_digest_constants)] }
def OrsetNamesSaid : Prop := orsetNamesRow.holds Tryz.pinned (OpenSpec.ofChange orsetNamesSpec)

/-- ITS FALSE NEIGHBOUR: 'it returns false'. Refute it at one input. -/
def orsetNamesWrong : ChangeSpec := { name := "orsetNames", fn := fun _ => fun
  | [] => { results := [.lit (.bool false)], args := [] }
  | _ => none }
def OrsetNamesWrongFalsely : Prop := orsetNamesRow.holds Tryz.pinned (OpenSpec.ofChange orsetNamesWrong)

/- THE SECOND FORM. 'bulk': how many values and letters a reading holds, each counted each time it is reached (what is shared counts as often as it is met; a slice's spare places count too). A statement '..UptoSaid' is the law's where the arguments, and the package variables that the reading takes, are together of bulk at most 1048576: NARROWER than '..Said'. Prove '..Said' where nothing that the law and all that it calls make is longer than what came in: it says more and counts as full. Else prove '..UptoSaid'. A law counts once. -/
mutual
def uptoBulk {H : Type} : DataW H → Nat
  | .lit (.string bytes) => bytes.length + 1
  | .lit _ => 1
  | .nil => 1
  | .ptr d => uptoBulk d + 1
  | .slice elems spare => uptoBulkAll elems + uptoBulkAll spare + 1
  | .agg parts => uptoBulkAll parts + 1
  | .iface _ d => uptoBulk d + 1
  | .map entries => uptoBulkEntries entries + 1
  | .held _ => 1
def uptoBulkAll {H : Type} : List (DataW H) → Nat
  | [] => 0
  | d :: r => uptoBulk d + uptoBulkAll r
def uptoBulkEntries {H : Type} : List (Lit × DataW H) → Nat
  | [] => 0
  | x :: r => uptoBulkEntry x + uptoBulkEntries r
def uptoBulkEntry {H : Type} : Lit × DataW H → Nat
  | (.string bytes, d) => bytes.length + uptoBulk d + 1
  | (_, d) => uptoBulk d + 1
 end
def uptoSmall : (H : Type) → List (DataW H) → Bool := fun _ ds => decide (uptoBulkAll ds ≤ 1048576)
def OpenSpec.upto (s : _root_.Go.ChangeSpec) : _root_.Go.OpenSpec := { _root_.Go.OpenSpec.ofChange s with cond := some uptoSmall }

/-- 'braidlaw21.OrsetDoes', WHERE WHAT IT READS IS OF BULK AT MOST 1048576: true; the input reads as it did. -/
def orsetDoesUptoRow : OpenClaim := { program := "ytboebmmklamaeaagreatdoor", sum := "419621b7cd054bac2e52a05b8fa10352a4fada0895a73671cbb3268726bcf5f3", func := "braid/braidlaw21.OrsetDoes", spec := "orsetDoes", inPlace := ["internal/bytealg.Compare", "slices.overlaps[braid/api.Tag]"], unfollowed := true, recurses := true, named := ["braid/digest.constants"], plainKeys := false, apart := false, laid := [("braid/digest.constants", laid_braid_digest_constants)], narrowed := true }
def OrsetDoesUptoSaid : Prop := orsetDoesUptoRow.holds Tryz.pinned (OpenSpec.upto orsetDoesSpec)

/-- 'braidlaw21.OrsetSees', WHERE WHAT IT READS IS OF BULK AT MOST 1048576: true; the input reads as it did. -/
def orsetSeesUptoRow : OpenClaim := { program := "ytboebmmklamaeaagreatdoor", sum := "419621b7cd054bac2e52a05b8fa10352a4fada0895a73671cbb3268726bcf5f3", func := "braid/braidlaw21.OrsetSees", spec := "orsetSees", inPlace := ["internal/bytealg.Compare"], unfollowed := true, recurses := true, named := ["braid/digest.constants"], plainKeys := false, apart := false, laid := [("braid/digest.constants", laid_braid_digest_constants)], narrowed := true }
def OrsetSeesUptoSaid : Prop := orsetSeesUptoRow.holds Tryz.pinned (OpenSpec.upto orsetSeesSpec)

/-- 'braidlaw21.OrsetWins', WHERE WHAT IT READS IS OF BULK AT MOST 1048576: true; the input reads as it did. -/
def orsetWinsUptoRow : OpenClaim := { program := "ytboebmmklamaeaagreatdoor", sum := "419621b7cd054bac2e52a05b8fa10352a4fada0895a73671cbb3268726bcf5f3", func := "braid/braidlaw21.OrsetWins", spec := "orsetWins", inPlace := ["internal/bytealg.Compare"], unfollowed := true, recurses := true, named := ["braid/digest.constants"], plainKeys := false, apart := false, laid := [("braid/digest.constants", laid_braid_digest_constants)], narrowed := true }
def OrsetWinsUptoSaid : Prop := orsetWinsUptoRow.holds Tryz.pinned (OpenSpec.upto orsetWinsSpec)

/-- 'braidlaw21.OrsetApplies', WHERE WHAT IT READS IS OF BULK AT MOST 1048576: true; the input reads as it did. -/
def orsetAppliesUptoRow : OpenClaim := { program := "ytboebmmklamaeaagreatdoor", sum := "419621b7cd054bac2e52a05b8fa10352a4fada0895a73671cbb3268726bcf5f3", func := "braid/braidlaw21.OrsetApplies", spec := "orsetApplies", inPlace := ["internal/bytealg.Compare", "slices.overlaps[braid/api.Tag]"], unfollowed := true, recurses := true, named := ["braid/digest.constants"], plainKeys := false, apart := false, laid := [("braid/digest.constants", laid_braid_digest_constants)], narrowed := true }
def OrsetAppliesUptoSaid : Prop := orsetAppliesUptoRow.holds Tryz.pinned (OpenSpec.upto orsetAppliesSpec)

/-- 'braidlaw21.OrsetOrder', WHERE WHAT IT READS IS OF BULK AT MOST 1048576: true; the input reads as it did. -/
def orsetOrderUptoRow : OpenClaim := { program := "ytboebmmklamaeaagreatdoor", sum := "419621b7cd054bac2e52a05b8fa10352a4fada0895a73671cbb3268726bcf5f3", func := "braid/braidlaw21.OrsetOrder", spec := "orsetOrder", inPlace := ["internal/bytealg.Compare", "slices.overlaps[braid/api.Tag]"], unfollowed := true, recurses := true, named := ["braid/digest.constants"], plainKeys := false, apart := false, laid := [("braid/digest.constants", laid_braid_digest_constants)], narrowed := true }
def OrsetOrderUptoSaid : Prop := orsetOrderUptoRow.holds Tryz.pinned (OpenSpec.upto orsetOrderSpec)

/-- 'braidlaw21.OrsetNames', WHERE WHAT IT READS IS OF BULK AT MOST 1048576: true; the input reads as it did. -/
def orsetNamesUptoRow : OpenClaim := { program := "ytboebmmklamaeaagreatdoor", sum := "419621b7cd054bac2e52a05b8fa10352a4fada0895a73671cbb3268726bcf5f3", func := "braid/braidlaw21.OrsetNames", spec := "orsetNames", inPlace := ["internal/bytealg.Compare", "slices.overlaps[braid/api.Tag]"], unfollowed := true, recurses := true, named := ["braid/digest.constants"], plainKeys := false, apart := false, laid := [("braid/digest.constants", laid_braid_digest_constants)], narrowed := true }
def OrsetNamesUptoSaid : Prop := orsetNamesUptoRow.holds Tryz.pinned (OpenSpec.upto orsetNamesSpec)

end Rows
end Go.Proofs.YtboebmmklamaeaaGreatDoor

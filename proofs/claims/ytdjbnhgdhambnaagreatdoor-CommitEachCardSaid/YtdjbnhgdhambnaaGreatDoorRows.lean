/-
  NARROWER THAN 'FOR EVERY INPUT', by the rows' own cells (each row's printed sentence says how): CommitRuns: laid · CommitDoes: laid · CommitAny: laid · CommitEach: laid · CommitParts: laid · CommitNames: laid.
  DERIVED. THE GIVEN ROWS OF THIS SEAT. 6 by the template 'for every input the law returns true; each argument reads behind the call as it read before'; 0 by the template 'total and deterministic' (their statements: YtdjbnhgdhambnaaGreatDoorTotals.lean).
  GIVEN WITH THE SEED: the statements are not yours to turn. If you find one false, say at which input.
  Laid BY PROGRAM, IN A SANDBOX (cutbox-rows.mjs): the forced cells as the released guide's own fill.sh prints them over the translation d427933f24f02087… (all of the seat's roots in one cut). By AI agents, Wed Nov 11 2026. No macro, syntax, notation, axiom, sorry.
-/
import Derived.Test.YtdjbnhgdhambnaaGreatDoorChecked
import GoSem.Claim
import GoSem.ClaimJoined
import GoSem.ClaimMapViews
import Derived.JoinedTies
import Derived.KernelRfl
namespace Go.Proofs.YtdjbnhgdhambnaaGreatDoor
/- THE CELL 'sum', in the pinned program and in every row, IS THE sha256 OF THE DUMP (.gsa) THAT YtdjbnhgdhambnaaGreatDoorProg.lean LOADS. Nothing in Lean hashes anything: it is a label: what it is worth is what the hold of that sum in a sandbox is worth. -/
noncomputable def Tryz.pinned : Pinned := { name := "ytdjbnhgdhambnaagreatdoor", sum := "d427933f24f02087bcef7184941c364b7e1dde1496382dde5d78107c3a5060a1", checked := Tryz.checked }
namespace Rows
def none {H : Type} : Left H := { results := [], args := [] }

/- WHAT THE LISTED PACKAGE-LEVEL VARIABLES READ AS WHEN THE CALL BEGINS. Each datum BY PROGRAM (the guide's laid-datum.mjs) off the statement by which the dump's own 'gosem.cut.vars' lays the variable. In a bare row this is a premise. The card (YtdjbnhgdhambnaaGreatDoorCards.lean) ties it to the program's text. -/
def laid_braid_digest_constants {H : Type} : DataW H := .agg [.lit (.int .u32 1116352408), .lit (.int .u32 1899447441), .lit (.int .u32 3049323471), .lit (.int .u32 3921009573), .lit (.int .u32 961987163), .lit (.int .u32 1508970993), .lit (.int .u32 2453635748), .lit (.int .u32 2870763221), .lit (.int .u32 3624381080), .lit (.int .u32 310598401), .lit (.int .u32 607225278), .lit (.int .u32 1426881987), .lit (.int .u32 1925078388), .lit (.int .u32 2162078206), .lit (.int .u32 2614888103), .lit (.int .u32 3248222580), .lit (.int .u32 3835390401), .lit (.int .u32 4022224774), .lit (.int .u32 264347078), .lit (.int .u32 604807628), .lit (.int .u32 770255983), .lit (.int .u32 1249150122), .lit (.int .u32 1555081692), .lit (.int .u32 1996064986), .lit (.int .u32 2554220882), .lit (.int .u32 2821834349), .lit (.int .u32 2952996808), .lit (.int .u32 3210313671), .lit (.int .u32 3336571891), .lit (.int .u32 3584528711), .lit (.int .u32 113926993), .lit (.int .u32 338241895), .lit (.int .u32 666307205), .lit (.int .u32 773529912), .lit (.int .u32 1294757372), .lit (.int .u32 1396182291), .lit (.int .u32 1695183700), .lit (.int .u32 1986661051), .lit (.int .u32 2177026350), .lit (.int .u32 2456956037), .lit (.int .u32 2730485921), .lit (.int .u32 2820302411), .lit (.int .u32 3259730800), .lit (.int .u32 3345764771), .lit (.int .u32 3516065817), .lit (.int .u32 3600352804), .lit (.int .u32 4094571909), .lit (.int .u32 275423344), .lit (.int .u32 430227734), .lit (.int .u32 506948616), .lit (.int .u32 659060556), .lit (.int .u32 883997877), .lit (.int .u32 958139571), .lit (.int .u32 1322822218), .lit (.int .u32 1537002063), .lit (.int .u32 1747873779), .lit (.int .u32 1955562222), .lit (.int .u32 2024104815), .lit (.int .u32 2227730452), .lit (.int .u32 2361852424), .lit (.int .u32 2428436474), .lit (.int .u32 2756734187), .lit (.int .u32 3204031479), .lit (.int .u32 3329325298)]

/-- 'braidlaw19.CommitRuns': WHATEVER THE INPUT: true; the input reads as it did. -/
def commitRunsSpec : ChangeSpec := { name := "commitRuns", fn := fun _ => fun
  | [d1, d2] => { results := [.lit (.bool true)], args := [d1, d2] }
  | _ => none }
def commitRunsRow : OpenClaim := { program := "ytdjbnhgdhambnaagreatdoor", sum := "d427933f24f02087bcef7184941c364b7e1dde1496382dde5d78107c3a5060a1", func := "braid/braidlaw19.CommitRuns", spec := "commitRuns", inPlace := ["internal/bytealg.Compare", "slices.overlaps[braid/api.ID]", "slices.overlaps[braid/api.Op]"], unfollowed := true, recurses := true, named := ["braid/digest.constants"], plainKeys := false, apart := false, laid := [("braid/digest.constants", laid_braid_digest_constants)] }
def CommitRunsSaid : Prop := commitRunsRow.holds Tryz.pinned (OpenSpec.ofChange commitRunsSpec)

/-- ITS FALSE NEIGHBOUR: 'it returns false'. Refute it at one input. -/
def commitRunsWrong : ChangeSpec := { name := "commitRuns", fn := fun _ => fun
  | [d1, d2] => { results := [.lit (.bool false)], args := [d1, d2] }
  | _ => none }
def CommitRunsWrongFalsely : Prop := commitRunsRow.holds Tryz.pinned (OpenSpec.ofChange commitRunsWrong)

/-- 'braidlaw19.CommitDoes': WHATEVER THE INPUT: true; the input reads as it did. -/
def commitDoesSpec : ChangeSpec := { name := "commitDoes", fn := fun _ => fun
  | [d1, d2, d3, d4, d5] => { results := [.lit (.bool true)], args := [d1, d2, d3, d4, d5] }
  | _ => none }
def commitDoesRow : OpenClaim := { program := "ytdjbnhgdhambnaagreatdoor", sum := "d427933f24f02087bcef7184941c364b7e1dde1496382dde5d78107c3a5060a1", func := "braid/braidlaw19.CommitDoes", spec := "commitDoes", inPlace := ["internal/bytealg.Compare", "slices.overlaps[braid/api.ID]", "slices.overlaps[braid/api.Op]"], unfollowed := true, recurses := true, named := ["braid/digest.constants"], plainKeys := false, apart := false, laid := [("braid/digest.constants", laid_braid_digest_constants)] }
def CommitDoesSaid : Prop := commitDoesRow.holds Tryz.pinned (OpenSpec.ofChange commitDoesSpec)

/-- ITS FALSE NEIGHBOUR: 'it returns false'. Refute it at one input. -/
def commitDoesWrong : ChangeSpec := { name := "commitDoes", fn := fun _ => fun
  | [d1, d2, d3, d4, d5] => { results := [.lit (.bool false)], args := [d1, d2, d3, d4, d5] }
  | _ => none }
def CommitDoesWrongFalsely : Prop := commitDoesRow.holds Tryz.pinned (OpenSpec.ofChange commitDoesWrong)

/-- 'braidlaw19.CommitAny': WHATEVER THE INPUT: true; the input reads as it did. -/
def commitAnySpec : ChangeSpec := { name := "commitAny", fn := fun _ => fun
  | [d1, d2] => { results := [.lit (.bool true)], args := [d1, d2] }
  | _ => none }
def commitAnyRow : OpenClaim := { program := "ytdjbnhgdhambnaagreatdoor", sum := "d427933f24f02087bcef7184941c364b7e1dde1496382dde5d78107c3a5060a1", func := "braid/braidlaw19.CommitAny", spec := "commitAny", inPlace := ["internal/bytealg.Compare", "slices.overlaps[braid/api.ID]", "slices.overlaps[braid/api.Op]"], unfollowed := true, recurses := true, named := ["braid/digest.constants"], plainKeys := false, apart := false, laid := [("braid/digest.constants", laid_braid_digest_constants)] }
def CommitAnySaid : Prop := commitAnyRow.holds Tryz.pinned (OpenSpec.ofChange commitAnySpec)

/-- ITS FALSE NEIGHBOUR: 'it returns false'. Refute it at one input. -/
def commitAnyWrong : ChangeSpec := { name := "commitAny", fn := fun _ => fun
  | [d1, d2] => { results := [.lit (.bool false)], args := [d1, d2] }
  | _ => none }
def CommitAnyWrongFalsely : Prop := commitAnyRow.holds Tryz.pinned (OpenSpec.ofChange commitAnyWrong)

/-- 'braidlaw19.CommitEach': WHATEVER THE INPUT: true; the input reads as it did. -/
def commitEachSpec : ChangeSpec := { name := "commitEach", fn := fun _ => fun
  | [d1, d2] => { results := [.lit (.bool true)], args := [d1, d2] }
  | _ => none }
def commitEachRow : OpenClaim := { program := "ytdjbnhgdhambnaagreatdoor", sum := "d427933f24f02087bcef7184941c364b7e1dde1496382dde5d78107c3a5060a1", func := "braid/braidlaw19.CommitEach", spec := "commitEach", inPlace := ["internal/bytealg.Compare", "slices.overlaps[braid/api.ID]", "slices.overlaps[braid/api.Op]"], unfollowed := true, recurses := true, named := ["braid/digest.constants"], plainKeys := false, apart := false, laid := [("braid/digest.constants", laid_braid_digest_constants)] }
def CommitEachSaid : Prop := commitEachRow.holds Tryz.pinned (OpenSpec.ofChange commitEachSpec)

/-- ITS FALSE NEIGHBOUR: 'it returns false'. Refute it at one input. -/
def commitEachWrong : ChangeSpec := { name := "commitEach", fn := fun _ => fun
  | [d1, d2] => { results := [.lit (.bool false)], args := [d1, d2] }
  | _ => none }
def CommitEachWrongFalsely : Prop := commitEachRow.holds Tryz.pinned (OpenSpec.ofChange commitEachWrong)

/-- 'braidlaw19.CommitParts': WHATEVER THE INPUT: true; the input reads as it did. -/
def commitPartsSpec : ChangeSpec := { name := "commitParts", fn := fun _ => fun
  | [d1, d2, d3] => { results := [.lit (.bool true)], args := [d1, d2, d3] }
  | _ => none }
def commitPartsRow : OpenClaim := { program := "ytdjbnhgdhambnaagreatdoor", sum := "d427933f24f02087bcef7184941c364b7e1dde1496382dde5d78107c3a5060a1", func := "braid/braidlaw19.CommitParts", spec := "commitParts", inPlace := ["internal/bytealg.Compare", "slices.overlaps[braid/api.ID]", "slices.overlaps[braid/api.Op]"], unfollowed := true, recurses := true, named := ["braid/digest.constants"], plainKeys := false, apart := false, laid := [("braid/digest.constants", laid_braid_digest_constants)] }
def CommitPartsSaid : Prop := commitPartsRow.holds Tryz.pinned (OpenSpec.ofChange commitPartsSpec)

/-- ITS FALSE NEIGHBOUR: 'it returns false'. Refute it at one input. -/
def commitPartsWrong : ChangeSpec := { name := "commitParts", fn := fun _ => fun
  | [d1, d2, d3] => { results := [.lit (.bool false)], args := [d1, d2, d3] }
  | _ => none }
def CommitPartsWrongFalsely : Prop := commitPartsRow.holds Tryz.pinned (OpenSpec.ofChange commitPartsWrong)

/-- 'braidlaw19.CommitNames': WHATEVER THE INPUT: true; the input reads as it did. -/
def commitNamesSpec : ChangeSpec := { name := "commitNames", fn := fun _ => fun
  | [] => { results := [.lit (.bool true)], args := [] }
  | _ => none }
def commitNamesRow : OpenClaim := { program := "ytdjbnhgdhambnaagreatdoor", sum := "d427933f24f02087bcef7184941c364b7e1dde1496382dde5d78107c3a5060a1", func := "braid/braidlaw19.CommitNames", spec := "commitNames", inPlace := ["internal/bytealg.Compare", "slices.overlaps[braid/api.ID]", "slices.overlaps[braid/api.Op]"], unfollowed := true, recurses := true, named := ["braid/digest.constants"], plainKeys := false, apart := false, laid := [("braid/digest.constants", laid_braid_digest_constants)] }
def CommitNamesSaid : Prop := commitNamesRow.holds Tryz.pinned (OpenSpec.ofChange commitNamesSpec)

/-- ITS FALSE NEIGHBOUR: 'it returns false'. Refute it at one input. -/
def commitNamesWrong : ChangeSpec := { name := "commitNames", fn := fun _ => fun
  | [] => { results := [.lit (.bool false)], args := [] }
  | _ => none }
def CommitNamesWrongFalsely : Prop := commitNamesRow.holds Tryz.pinned (OpenSpec.ofChange commitNamesWrong)

/- THE SECOND FORM. 'bulk': how many values and letters a reading holds, each counted each time it is reached (what is shared counts as often as it is met; a slice's spare places count too). A statement '..UptoSaid' is the law's where the arguments, and the package variables that the reading takes, are together of bulk at most 1048576: NARROWER than '..Said'. Prove '..Said' where nothing that the law and all that it calls make is longer than what came in: it says more and counts as full. Else prove '..UptoSaid'. A law counts once. -/
mutual
def uptoBulk {H : Type} : DataW H → Nat
  | .lit (.string bytes) => bytes.length + 1
  | .lit _ => 1
  | .nil => 1
  | .ptr d => uptoBulk d + 1
  | .slice elems spare => uptoBulkAll elems + uptoBulkAll spare + 1
  | .agg parts => uptoBulkAll parts + 1
  | .iface _ d => uptoBulk d + 1
  | .map entries => uptoBulkEntries entries + 1
  | .held _ => 1
def uptoBulkAll {H : Type} : List (DataW H) → Nat
  | [] => 0
  | d :: r => uptoBulk d + uptoBulkAll r
def uptoBulkEntries {H : Type} : List (Lit × DataW H) → Nat
  | [] => 0
  | x :: r => uptoBulkEntry x + uptoBulkEntries r
def uptoBulkEntry {H : Type} : Lit × DataW H → Nat
  | (.string bytes, d) => bytes.length + uptoBulk d + 1
  | (_, d) => uptoBulk d + 1
 end
def uptoSmall : (H : Type) → List (DataW H) → Bool := fun _ ds => decide (uptoBulkAll ds ≤ 1048576)
def OpenSpec.upto (s : _root_.Go.ChangeSpec) : _root_.Go.OpenSpec := { _root_.Go.OpenSpec.ofChange s with cond := some uptoSmall }

/-- 'braidlaw19.CommitRuns', WHERE WHAT IT READS IS OF BULK AT MOST 1048576: true; the input reads as it did. -/
def commitRunsUptoRow : OpenClaim := { program := "ytdjbnhgdhambnaagreatdoor", sum := "d427933f24f02087bcef7184941c364b7e1dde1496382dde5d78107c3a5060a1", func := "braid/braidlaw19.CommitRuns", spec := "commitRuns", inPlace := ["internal/bytealg.Compare", "slices.overlaps[braid/api.ID]", "slices.overlaps[braid/api.Op]"], unfollowed := true, recurses := true, named := ["braid/digest.constants"], plainKeys := false, apart := false, laid := [("braid/digest.constants", laid_braid_digest_constants)], narrowed := true }
def CommitRunsUptoSaid : Prop := commitRunsUptoRow.holds Tryz.pinned (OpenSpec.upto commitRunsSpec)

/-- 'braidlaw19.CommitDoes', WHERE WHAT IT READS IS OF BULK AT MOST 1048576: true; the input reads as it did. -/
def commitDoesUptoRow : OpenClaim := { program := "ytdjbnhgdhambnaagreatdoor", sum := "d427933f24f02087bcef7184941c364b7e1dde1496382dde5d78107c3a5060a1", func := "braid/braidlaw19.CommitDoes", spec := "commitDoes", inPlace := ["internal/bytealg.Compare", "slices.overlaps[braid/api.ID]", "slices.overlaps[braid/api.Op]"], unfollowed := true, recurses := true, named := ["braid/digest.constants"], plainKeys := false, apart := false, laid := [("braid/digest.constants", laid_braid_digest_constants)], narrowed := true }
def CommitDoesUptoSaid : Prop := commitDoesUptoRow.holds Tryz.pinned (OpenSpec.upto commitDoesSpec)

/-- 'braidlaw19.CommitAny', WHERE WHAT IT READS IS OF BULK AT MOST 1048576: true; the input reads as it did. -/
def commitAnyUptoRow : OpenClaim := { program := "ytdjbnhgdhambnaagreatdoor", sum := "d427933f24f02087bcef7184941c364b7e1dde1496382dde5d78107c3a5060a1", func := "braid/braidlaw19.CommitAny", spec := "commitAny", inPlace := ["internal/bytealg.Compare", "slices.overlaps[braid/api.ID]", "slices.overlaps[braid/api.Op]"], unfollowed := true, recurses := true, named := ["braid/digest.constants"], plainKeys := false, apart := false, laid := [("braid/digest.constants", laid_braid_digest_constants)], narrowed := true }
def CommitAnyUptoSaid : Prop := commitAnyUptoRow.holds Tryz.pinned (OpenSpec.upto commitAnySpec)

/-- 'braidlaw19.CommitEach', WHERE WHAT IT READS IS OF BULK AT MOST 1048576: true; the input reads as it did. -/
def commitEachUptoRow : OpenClaim := { program := "ytdjbnhgdhambnaagreatdoor", sum := "d427933f24f02087bcef7184941c364b7e1dde1496382dde5d78107c3a5060a1", func := "braid/braidlaw19.CommitEach", spec := "commitEach", inPlace := ["internal/bytealg.Compare", "slices.overlaps[braid/api.ID]", "slices.overlaps[braid/api.Op]"], unfollowed := true, recurses := true, named := ["braid/digest.constants"], plainKeys := false, apart := false, laid := [("braid/digest.constants", laid_braid_digest_constants)], narrowed := true }
def CommitEachUptoSaid : Prop := commitEachUptoRow.holds Tryz.pinned (OpenSpec.upto commitEachSpec)

/-- 'braidlaw19.CommitParts', WHERE WHAT IT READS IS OF BULK AT MOST 1048576: true; the input reads as it did. -/
def commitPartsUptoRow : OpenClaim := { program := "ytdjbnhgdhambnaagreatdoor", sum := "d427933f24f02087bcef7184941c364b7e1dde1496382dde5d78107c3a5060a1", func := "braid/braidlaw19.CommitParts", spec := "commitParts", inPlace := ["internal/bytealg.Compare", "slices.overlaps[braid/api.ID]", "slices.overlaps[braid/api.Op]"], unfollowed := true, recurses := true, named := ["braid/digest.constants"], plainKeys := false, apart := false, laid := [("braid/digest.constants", laid_braid_digest_constants)], narrowed := true }
def CommitPartsUptoSaid : Prop := commitPartsUptoRow.holds Tryz.pinned (OpenSpec.upto commitPartsSpec)

/-- 'braidlaw19.CommitNames', WHERE WHAT IT READS IS OF BULK AT MOST 1048576: true; the input reads as it did. -/
def commitNamesUptoRow : OpenClaim := { program := "ytdjbnhgdhambnaagreatdoor", sum := "d427933f24f02087bcef7184941c364b7e1dde1496382dde5d78107c3a5060a1", func := "braid/braidlaw19.CommitNames", spec := "commitNames", inPlace := ["internal/bytealg.Compare", "slices.overlaps[braid/api.ID]", "slices.overlaps[braid/api.Op]"], unfollowed := true, recurses := true, named := ["braid/digest.constants"], plainKeys := false, apart := false, laid := [("braid/digest.constants", laid_braid_digest_constants)], narrowed := true }
def CommitNamesUptoSaid : Prop := commitNamesUptoRow.holds Tryz.pinned (OpenSpec.upto commitNamesSpec)

end Rows
end Go.Proofs.YtdjbnhgdhambnaaGreatDoor

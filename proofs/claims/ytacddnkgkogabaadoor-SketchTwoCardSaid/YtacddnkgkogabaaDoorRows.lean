/-
  NARROWER THAN 'FOR EVERY INPUT', by the rows' own cells (each row's printed sentence says how): SketchTells: laid · SketchPeels: laid · SketchDiffers: laid · SketchTwo: laid · SketchNames: laid · SketchBack: laid · SketchOrder: laid.
  DERIVED. THE GIVEN ROWS OF THIS SEAT. 7 by the template 'for every input the law returns true; each argument reads behind the call as it read before'; 0 by the template 'total and deterministic' (their statements: YtacddnkgkogabaaDoorTotals.lean).
  GIVEN WITH THE SEED: the statements are not yours to turn. If you find one false, say at which input.
  Laid BY PROGRAM, IN A SANDBOX (cutbox-rows.mjs): the forced cells as the released guide's own fill.sh prints them over the translation 5a519ff7a6d1da40… (all of the seat's roots in one cut). By AI agents, Wed Nov 11 2026. No macro, syntax, notation, axiom, sorry.
-/
import Derived.Test.YtacddnkgkogabaaDoorChecked
import GoSem.Claim
import GoSem.ClaimJoined
import GoSem.ClaimMapViews
import Derived.JoinedTies
import Derived.KernelRfl
namespace Go.Proofs.YtacddnkgkogabaaDoor
/- THE CELL 'sum', in the pinned program and in every row, IS THE sha256 OF THE DUMP (.gsa) THAT YtacddnkgkogabaaDoorProg.lean LOADS. Nothing in Lean hashes anything: it is a label: what it is worth is what the hold of that sum in a sandbox is worth. -/
noncomputable def Tryd.pinned : Pinned := { name := "ytacddnkgkogabaadoor", sum := "5a519ff7a6d1da403574481d373eafa5d9a94bc211fb669deb40ec2314fda784", checked := Tryd.checked }
namespace Rows
def none {H : Type} : Left H := { results := [], args := [] }

/- WHAT THE LISTED PACKAGE-LEVEL VARIABLES READ AS WHEN THE CALL BEGINS. Each datum BY PROGRAM (the guide's laid-datum.mjs) off the statement by which the dump's own 'gosem.cut.vars' lays the variable. In a bare row this is a premise. The card (YtacddnkgkogabaaDoorCards.lean) ties it to the program's text. -/
def laid_braid_digest_constants {H : Type} : DataW H := .agg [.lit (.int .u32 1116352408), .lit (.int .u32 1899447441), .lit (.int .u32 3049323471), .lit (.int .u32 3921009573), .lit (.int .u32 961987163), .lit (.int .u32 1508970993), .lit (.int .u32 2453635748), .lit (.int .u32 2870763221), .lit (.int .u32 3624381080), .lit (.int .u32 310598401), .lit (.int .u32 607225278), .lit (.int .u32 1426881987), .lit (.int .u32 1925078388), .lit (.int .u32 2162078206), .lit (.int .u32 2614888103), .lit (.int .u32 3248222580), .lit (.int .u32 3835390401), .lit (.int .u32 4022224774), .lit (.int .u32 264347078), .lit (.int .u32 604807628), .lit (.int .u32 770255983), .lit (.int .u32 1249150122), .lit (.int .u32 1555081692), .lit (.int .u32 1996064986), .lit (.int .u32 2554220882), .lit (.int .u32 2821834349), .lit (.int .u32 2952996808), .lit (.int .u32 3210313671), .lit (.int .u32 3336571891), .lit (.int .u32 3584528711), .lit (.int .u32 113926993), .lit (.int .u32 338241895), .lit (.int .u32 666307205), .lit (.int .u32 773529912), .lit (.int .u32 1294757372), .lit (.int .u32 1396182291), .lit (.int .u32 1695183700), .lit (.int .u32 1986661051), .lit (.int .u32 2177026350), .lit (.int .u32 2456956037), .lit (.int .u32 2730485921), .lit (.int .u32 2820302411), .lit (.int .u32 3259730800), .lit (.int .u32 3345764771), .lit (.int .u32 3516065817), .lit (.int .u32 3600352804), .lit (.int .u32 4094571909), .lit (.int .u32 275423344), .lit (.int .u32 430227734), .lit (.int .u32 506948616), .lit (.int .u32 659060556), .lit (.int .u32 883997877), .lit (.int .u32 958139571), .lit (.int .u32 1322822218), .lit (.int .u32 1537002063), .lit (.int .u32 1747873779), .lit (.int .u32 1955562222), .lit (.int .u32 2024104815), .lit (.int .u32 2227730452), .lit (.int .u32 2361852424), .lit (.int .u32 2428436474), .lit (.int .u32 2756734187), .lit (.int .u32 3204031479), .lit (.int .u32 3329325298)]

/-- 'braidlaw39.SketchTells': WHATEVER THE INPUT: true; the input reads as it did. -/
def sketchTellsSpec : ChangeSpec := { name := "sketchTells", fn := fun _ => fun
  | [d1, d2, d3, d4] => { results := [.lit (.bool true)], args := [d1, d2, d3, d4] }
  | _ => none }
def sketchTellsRow : OpenClaim := { program := "ytacddnkgkogabaadoor", sum := "5a519ff7a6d1da403574481d373eafa5d9a94bc211fb669deb40ec2314fda784", func := "braid/braidlaw39.SketchTells", spec := "sketchTells", unfollowed := true, recurses := true, named := ["braid/digest.constants"], plainKeys := false, apart := false, laid := [("braid/digest.constants", laid_braid_digest_constants)] }
def SketchTellsSaid : Prop := sketchTellsRow.holds Tryd.pinned (OpenSpec.ofChange sketchTellsSpec)

/-- ITS FALSE NEIGHBOUR: 'it returns false'. Refute it at one input. -/
def sketchTellsWrong : ChangeSpec := { name := "sketchTells", fn := fun _ => fun
  | [d1, d2, d3, d4] => { results := [.lit (.bool false)], args := [d1, d2, d3, d4] }
  | _ => none }
def SketchTellsWrongFalsely : Prop := sketchTellsRow.holds Tryd.pinned (OpenSpec.ofChange sketchTellsWrong)

/-- 'braidlaw39.SketchPeels': WHATEVER THE INPUT: true; the input reads as it did. -/
def sketchPeelsSpec : ChangeSpec := { name := "sketchPeels", fn := fun _ => fun
  | [d1, d2, d3, d4] => { results := [.lit (.bool true)], args := [d1, d2, d3, d4] }
  | _ => none }
def sketchPeelsRow : OpenClaim := { program := "ytacddnkgkogabaadoor", sum := "5a519ff7a6d1da403574481d373eafa5d9a94bc211fb669deb40ec2314fda784", func := "braid/braidlaw39.SketchPeels", spec := "sketchPeels", unfollowed := true, recurses := true, named := ["braid/digest.constants"], plainKeys := false, apart := false, laid := [("braid/digest.constants", laid_braid_digest_constants)] }
def SketchPeelsSaid : Prop := sketchPeelsRow.holds Tryd.pinned (OpenSpec.ofChange sketchPeelsSpec)

/-- ITS FALSE NEIGHBOUR: 'it returns false'. Refute it at one input. -/
def sketchPeelsWrong : ChangeSpec := { name := "sketchPeels", fn := fun _ => fun
  | [d1, d2, d3, d4] => { results := [.lit (.bool false)], args := [d1, d2, d3, d4] }
  | _ => none }
def SketchPeelsWrongFalsely : Prop := sketchPeelsRow.holds Tryd.pinned (OpenSpec.ofChange sketchPeelsWrong)

/-- 'braidlaw39.SketchDiffers': WHATEVER THE INPUT: true; the input reads as it did. -/
def sketchDiffersSpec : ChangeSpec := { name := "sketchDiffers", fn := fun _ => fun
  | [d1, d2, d3] => { results := [.lit (.bool true)], args := [d1, d2, d3] }
  | _ => none }
def sketchDiffersRow : OpenClaim := { program := "ytacddnkgkogabaadoor", sum := "5a519ff7a6d1da403574481d373eafa5d9a94bc211fb669deb40ec2314fda784", func := "braid/braidlaw39.SketchDiffers", spec := "sketchDiffers", unfollowed := true, recurses := true, named := ["braid/digest.constants"], plainKeys := false, apart := false, laid := [("braid/digest.constants", laid_braid_digest_constants)] }
def SketchDiffersSaid : Prop := sketchDiffersRow.holds Tryd.pinned (OpenSpec.ofChange sketchDiffersSpec)

/-- ITS FALSE NEIGHBOUR: 'it returns false'. Refute it at one input. -/
def sketchDiffersWrong : ChangeSpec := { name := "sketchDiffers", fn := fun _ => fun
  | [d1, d2, d3] => { results := [.lit (.bool false)], args := [d1, d2, d3] }
  | _ => none }
def SketchDiffersWrongFalsely : Prop := sketchDiffersRow.holds Tryd.pinned (OpenSpec.ofChange sketchDiffersWrong)

/-- 'braidlaw39.SketchTwo': WHATEVER THE INPUT: true; the input reads as it did. -/
def sketchTwoSpec : ChangeSpec := { name := "sketchTwo", fn := fun _ => fun
  | [d1, d2, d3, d4, d5] => { results := [.lit (.bool true)], args := [d1, d2, d3, d4, d5] }
  | _ => none }
def sketchTwoRow : OpenClaim := { program := "ytacddnkgkogabaadoor", sum := "5a519ff7a6d1da403574481d373eafa5d9a94bc211fb669deb40ec2314fda784", func := "braid/braidlaw39.SketchTwo", spec := "sketchTwo", unfollowed := true, recurses := true, named := ["braid/digest.constants"], plainKeys := false, apart := false, laid := [("braid/digest.constants", laid_braid_digest_constants)] }
def SketchTwoSaid : Prop := sketchTwoRow.holds Tryd.pinned (OpenSpec.ofChange sketchTwoSpec)

/-- ITS FALSE NEIGHBOUR: 'it returns false'. Refute it at one input. -/
def sketchTwoWrong : ChangeSpec := { name := "sketchTwo", fn := fun _ => fun
  | [d1, d2, d3, d4, d5] => { results := [.lit (.bool false)], args := [d1, d2, d3, d4, d5] }
  | _ => none }
def SketchTwoWrongFalsely : Prop := sketchTwoRow.holds Tryd.pinned (OpenSpec.ofChange sketchTwoWrong)

/-- 'braidlaw39.SketchNames': WHATEVER THE INPUT: true; the input reads as it did. -/
def sketchNamesSpec : ChangeSpec := { name := "sketchNames", fn := fun _ => fun
  | [] => { results := [.lit (.bool true)], args := [] }
  | _ => none }
def sketchNamesRow : OpenClaim := { program := "ytacddnkgkogabaadoor", sum := "5a519ff7a6d1da403574481d373eafa5d9a94bc211fb669deb40ec2314fda784", func := "braid/braidlaw39.SketchNames", spec := "sketchNames", unfollowed := true, recurses := true, named := ["braid/digest.constants"], plainKeys := false, apart := false, laid := [("braid/digest.constants", laid_braid_digest_constants)] }
def SketchNamesSaid : Prop := sketchNamesRow.holds Tryd.pinned (OpenSpec.ofChange sketchNamesSpec)

/-- ITS FALSE NEIGHBOUR: 'it returns false'. Refute it at one input. -/
def sketchNamesWrong : ChangeSpec := { name := "sketchNames", fn := fun _ => fun
  | [] => { results := [.lit (.bool false)], args := [] }
  | _ => none }
def SketchNamesWrongFalsely : Prop := sketchNamesRow.holds Tryd.pinned (OpenSpec.ofChange sketchNamesWrong)

/-- 'braidlaw39.SketchBack': WHATEVER THE INPUT: true; the input reads as it did. -/
def sketchBackSpec : ChangeSpec := { name := "sketchBack", fn := fun _ => fun
  | [d] => { results := [.lit (.bool true)], args := [d] }
  | _ => none }
def sketchBackRow : OpenClaim := { program := "ytacddnkgkogabaadoor", sum := "5a519ff7a6d1da403574481d373eafa5d9a94bc211fb669deb40ec2314fda784", func := "braid/braidlaw39.SketchBack", spec := "sketchBack", unfollowed := true, recurses := true, named := ["braid/digest.constants"], plainKeys := false, apart := false, laid := [("braid/digest.constants", laid_braid_digest_constants)] }
def SketchBackSaid : Prop := sketchBackRow.holds Tryd.pinned (OpenSpec.ofChange sketchBackSpec)

/-- ITS FALSE NEIGHBOUR: 'it returns false'. Refute it at one input. -/
def sketchBackWrong : ChangeSpec := { name := "sketchBack", fn := fun _ => fun
  | [d] => { results := [.lit (.bool false)], args := [d] }
  | _ => none }
def SketchBackWrongFalsely : Prop := sketchBackRow.holds Tryd.pinned (OpenSpec.ofChange sketchBackWrong)

/-- 'braidlaw39.SketchOrder': WHATEVER THE INPUT: true; the input reads as it did. -/
def sketchOrderSpec : ChangeSpec := { name := "sketchOrder", fn := fun _ => fun
  | [d1, d2, d3, d4, d5] => { results := [.lit (.bool true)], args := [d1, d2, d3, d4, d5] }
  | _ => none }
def sketchOrderRow : OpenClaim := { program := "ytacddnkgkogabaadoor", sum := "5a519ff7a6d1da403574481d373eafa5d9a94bc211fb669deb40ec2314fda784", func := "braid/braidlaw39.SketchOrder", spec := "sketchOrder", unfollowed := true, recurses := true, named := ["braid/digest.constants"], plainKeys := false, apart := false, laid := [("braid/digest.constants", laid_braid_digest_constants)] }
def SketchOrderSaid : Prop := sketchOrderRow.holds Tryd.pinned (OpenSpec.ofChange sketchOrderSpec)

/-- ITS FALSE NEIGHBOUR: 'it returns false'. Refute it at one input. -/
def sketchOrderWrong : ChangeSpec := { name := "sketchOrder", fn := fun _ => fun
  | [d1, d2, d3, d4, d5] => { results := [.lit (.bool false)], args := [d1, d2, d3, d4, d5] }
  | _ => none }
def SketchOrderWrongFalsely : Prop := sketchOrderRow.holds Tryd.pinned (OpenSpec.ofChange sketchOrderWrong)

/- THE SECOND FORM. 'bulk': how many values and letters a reading holds, each counted each time it is reached (what is shared counts as often as it is met; a slice's spare places count too). A statement '..UptoSaid' is the law's where the arguments, and the package variables that the reading takes, are together of bulk at most 1048576: NARROWER than '..Said'. Prove '..Said' where nothing that the law and all that it calls make is longer than what came in: it says more and counts as full. Else prove '..UptoSaid'. A law counts once. -/
mutual
def uptoBulk {H : Type} : DataW H → Nat
  | .lit (.string bytes) => bytes.length + 1
  | .lit _ => 1
  | .nil => 1
  | .ptr d => uptoBulk d + 1
  | .slice elems spare => uptoBulkAll elems + uptoBulkAll spare + 1
  | .agg parts => uptoBulkAll parts + 1
  | .iface _ d => uptoBulk d + 1
  | .map entries => uptoBulkEntries entries + 1
  | .held _ => 1
def uptoBulkAll {H : Type} : List (DataW H) → Nat
  | [] => 0
  | d :: r => uptoBulk d + uptoBulkAll r
def uptoBulkEntries {H : Type} : List (Lit × DataW H) → Nat
  | [] => 0
  | x :: r => uptoBulkEntry x + uptoBulkEntries r
def uptoBulkEntry {H : Type} : Lit × DataW H → Nat
  | (.string bytes, d) => bytes.length + uptoBulk d + 1
  | (_, d) => uptoBulk d + 1
 end
def uptoSmall : (H : Type) → List (DataW H) → Bool := fun _ ds => decide (uptoBulkAll ds ≤ 1048576)
def OpenSpec.upto (s : _root_.Go.ChangeSpec) : _root_.Go.OpenSpec := { _root_.Go.OpenSpec.ofChange s with cond := some uptoSmall }

/-- 'braidlaw39.SketchTells', WHERE WHAT IT READS IS OF BULK AT MOST 1048576: true; the input reads as it did. -/
def sketchTellsUptoRow : OpenClaim := { program := "ytacddnkgkogabaadoor", sum := "5a519ff7a6d1da403574481d373eafa5d9a94bc211fb669deb40ec2314fda784", func := "braid/braidlaw39.SketchTells", spec := "sketchTells", unfollowed := true, recurses := true, named := ["braid/digest.constants"], plainKeys := false, apart := false, laid := [("braid/digest.constants", laid_braid_digest_constants)], narrowed := true }
def SketchTellsUptoSaid : Prop := sketchTellsUptoRow.holds Tryd.pinned (OpenSpec.upto sketchTellsSpec)

/-- 'braidlaw39.SketchPeels', WHERE WHAT IT READS IS OF BULK AT MOST 1048576: true; the input reads as it did. -/
def sketchPeelsUptoRow : OpenClaim := { program := "ytacddnkgkogabaadoor", sum := "5a519ff7a6d1da403574481d373eafa5d9a94bc211fb669deb40ec2314fda784", func := "braid/braidlaw39.SketchPeels", spec := "sketchPeels", unfollowed := true, recurses := true, named := ["braid/digest.constants"], plainKeys := false, apart := false, laid := [("braid/digest.constants", laid_braid_digest_constants)], narrowed := true }
def SketchPeelsUptoSaid : Prop := sketchPeelsUptoRow.holds Tryd.pinned (OpenSpec.upto sketchPeelsSpec)

/-- 'braidlaw39.SketchDiffers', WHERE WHAT IT READS IS OF BULK AT MOST 1048576: true; the input reads as it did. -/
def sketchDiffersUptoRow : OpenClaim := { program := "ytacddnkgkogabaadoor", sum := "5a519ff7a6d1da403574481d373eafa5d9a94bc211fb669deb40ec2314fda784", func := "braid/braidlaw39.SketchDiffers", spec := "sketchDiffers", unfollowed := true, recurses := true, named := ["braid/digest.constants"], plainKeys := false, apart := false, laid := [("braid/digest.constants", laid_braid_digest_constants)], narrowed := true }
def SketchDiffersUptoSaid : Prop := sketchDiffersUptoRow.holds Tryd.pinned (OpenSpec.upto sketchDiffersSpec)

/-- 'braidlaw39.SketchTwo', WHERE WHAT IT READS IS OF BULK AT MOST 1048576: true; the input reads as it did. -/
def sketchTwoUptoRow : OpenClaim := { program := "ytacddnkgkogabaadoor", sum := "5a519ff7a6d1da403574481d373eafa5d9a94bc211fb669deb40ec2314fda784", func := "braid/braidlaw39.SketchTwo", spec := "sketchTwo", unfollowed := true, recurses := true, named := ["braid/digest.constants"], plainKeys := false, apart := false, laid := [("braid/digest.constants", laid_braid_digest_constants)], narrowed := true }
def SketchTwoUptoSaid : Prop := sketchTwoUptoRow.holds Tryd.pinned (OpenSpec.upto sketchTwoSpec)

/-- 'braidlaw39.SketchNames', WHERE WHAT IT READS IS OF BULK AT MOST 1048576: true; the input reads as it did. -/
def sketchNamesUptoRow : OpenClaim := { program := "ytacddnkgkogabaadoor", sum := "5a519ff7a6d1da403574481d373eafa5d9a94bc211fb669deb40ec2314fda784", func := "braid/braidlaw39.SketchNames", spec := "sketchNames", unfollowed := true, recurses := true, named := ["braid/digest.constants"], plainKeys := false, apart := false, laid := [("braid/digest.constants", laid_braid_digest_constants)], narrowed := true }
def SketchNamesUptoSaid : Prop := sketchNamesUptoRow.holds Tryd.pinned (OpenSpec.upto sketchNamesSpec)

/-- 'braidlaw39.SketchBack', WHERE WHAT IT READS IS OF BULK AT MOST 1048576: true; the input reads as it did. -/
def sketchBackUptoRow : OpenClaim := { program := "ytacddnkgkogabaadoor", sum := "5a519ff7a6d1da403574481d373eafa5d9a94bc211fb669deb40ec2314fda784", func := "braid/braidlaw39.SketchBack", spec := "sketchBack", unfollowed := true, recurses := true, named := ["braid/digest.constants"], plainKeys := false, apart := false, laid := [("braid/digest.constants", laid_braid_digest_constants)], narrowed := true }
def SketchBackUptoSaid : Prop := sketchBackUptoRow.holds Tryd.pinned (OpenSpec.upto sketchBackSpec)

/-- 'braidlaw39.SketchOrder', WHERE WHAT IT READS IS OF BULK AT MOST 1048576: true; the input reads as it did. -/
def sketchOrderUptoRow : OpenClaim := { program := "ytacddnkgkogabaadoor", sum := "5a519ff7a6d1da403574481d373eafa5d9a94bc211fb669deb40ec2314fda784", func := "braid/braidlaw39.SketchOrder", spec := "sketchOrder", unfollowed := true, recurses := true, named := ["braid/digest.constants"], plainKeys := false, apart := false, laid := [("braid/digest.constants", laid_braid_digest_constants)], narrowed := true }
def SketchOrderUptoSaid : Prop := sketchOrderUptoRow.holds Tryd.pinned (OpenSpec.upto sketchOrderSpec)

end Rows
end Go.Proofs.YtacddnkgkogabaaDoor

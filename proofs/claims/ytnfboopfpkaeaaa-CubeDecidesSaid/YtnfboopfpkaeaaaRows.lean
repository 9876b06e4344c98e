/-
  NARROWER THAN 'FOR EVERY INPUT', by the rows' own cells (each row's printed sentence says how): CubeDecides: loops.
  DERIVED. THE GIVEN ROWS OF THIS SEAT. 7 by the template 'for every input the law returns true; each argument reads behind the call as it read before'; 0 by the template 'total and deterministic' (their statements: YtnfboopfpkaeaaaTotals.lean).
  GIVEN WITH THE SEED: the statements are not yours to turn. If you find one false, say at which input.
  Laid BY PROGRAM, IN A SANDBOX (cutbox-rows.mjs): the forced cells as the released guide's own fill.sh prints them over the translation 9b08244e91b75635… (all of the seat's roots in one cut). By AI agents, Wed Nov 11 2026. No macro, syntax, notation, axiom, sorry.
-/
import Derived.Test.YtnfboopfpkaeaaaChecked
import GoSem.Claim
import GoSem.ClaimJoined
import GoSem.ClaimMapViews
import Derived.JoinedTies
import Derived.KernelRfl
namespace Go.Proofs.Ytnfboopfpkaeaaa
/- THE CELL 'sum', in the pinned program and in every row, IS THE sha256 OF THE DUMP (.gsa) THAT YtnfboopfpkaeaaaProg.lean LOADS. Nothing in Lean hashes anything: it is a label: what it is worth is what the hold of that sum in a sandbox is worth. -/
noncomputable def Try.pinned : Pinned := { name := "ytnfboopfpkaeaaa", sum := "9b08244e91b75635328b680f05646d69a39420b9c096694519f1490174f06a58", checked := Try.checked }
namespace Rows
def none {H : Type} : Left H := { results := [], args := [] }

/-- 'staddalaw07.CubeDecides': WHATEVER THE INPUT: true; the input reads as it did. -/
def cubeDecidesSpec : ChangeSpec := { name := "cubeDecides", fn := fun _ => fun
  | [d1, d2, d3] => { results := [.lit (.bool true)], args := [d1, d2, d3] }
  | _ => none }
def cubeDecidesRow : OpenClaim := { program := "ytnfboopfpkaeaaa", sum := "9b08244e91b75635328b680f05646d69a39420b9c096694519f1490174f06a58", func := "stadda/staddalaw07.CubeDecides", spec := "cubeDecides", unfollowed := true, recurses := true, loops := true, plainKeys := false, apart := false }
def CubeDecidesSaid : Prop := cubeDecidesRow.holds Try.pinned (OpenSpec.ofChange cubeDecidesSpec)

/-- ITS FALSE NEIGHBOUR: 'it returns false'. Refute it at one input. -/
def cubeDecidesWrong : ChangeSpec := { name := "cubeDecides", fn := fun _ => fun
  | [d1, d2, d3] => { results := [.lit (.bool false)], args := [d1, d2, d3] }
  | _ => none }
def CubeDecidesWrongFalsely : Prop := cubeDecidesRow.holds Try.pinned (OpenSpec.ofChange cubeDecidesWrong)

/-- 'staddalaw07.CubeDeep': WHATEVER THE INPUT: true; the input reads as it did. -/
def cubeDeepSpec : ChangeSpec := { name := "cubeDeep", fn := fun _ => fun
  | [d] => { results := [.lit (.bool true)], args := [d] }
  | _ => none }
def cubeDeepRow : OpenClaim := { program := "ytnfboopfpkaeaaa", sum := "9b08244e91b75635328b680f05646d69a39420b9c096694519f1490174f06a58", func := "stadda/staddalaw07.CubeDeep", spec := "cubeDeep", unfollowed := true, recurses := true, plainKeys := false, apart := false }
def CubeDeepSaid : Prop := cubeDeepRow.holds Try.pinned (OpenSpec.ofChange cubeDeepSpec)

/-- ITS FALSE NEIGHBOUR: 'it returns false'. Refute it at one input. -/
def cubeDeepWrong : ChangeSpec := { name := "cubeDeep", fn := fun _ => fun
  | [d] => { results := [.lit (.bool false)], args := [d] }
  | _ => none }
def CubeDeepWrongFalsely : Prop := cubeDeepRow.holds Try.pinned (OpenSpec.ofChange cubeDeepWrong)

/-- 'staddalaw07.CubeForms': WHATEVER THE INPUT: true; the input reads as it did. -/
def cubeFormsSpec : ChangeSpec := { name := "cubeForms", fn := fun _ => fun
  | [d1, d2, d3] => { results := [.lit (.bool true)], args := [d1, d2, d3] }
  | _ => none }
def cubeFormsRow : OpenClaim := { program := "ytnfboopfpkaeaaa", sum := "9b08244e91b75635328b680f05646d69a39420b9c096694519f1490174f06a58", func := "stadda/staddalaw07.CubeForms", spec := "cubeForms", unfollowed := true, recurses := true, plainKeys := false, apart := false }
def CubeFormsSaid : Prop := cubeFormsRow.holds Try.pinned (OpenSpec.ofChange cubeFormsSpec)

/-- ITS FALSE NEIGHBOUR: 'it returns false'. Refute it at one input. -/
def cubeFormsWrong : ChangeSpec := { name := "cubeForms", fn := fun _ => fun
  | [d1, d2, d3] => { results := [.lit (.bool false)], args := [d1, d2, d3] }
  | _ => none }
def CubeFormsWrongFalsely : Prop := cubeFormsRow.holds Try.pinned (OpenSpec.ofChange cubeFormsWrong)

/-- 'staddalaw07.CubeParseval': WHATEVER THE INPUT: true; the input reads as it did. -/
def cubeParsevalSpec : ChangeSpec := { name := "cubeParseval", fn := fun _ => fun
  | [d1, d2] => { results := [.lit (.bool true)], args := [d1, d2] }
  | _ => none }
def cubeParsevalRow : OpenClaim := { program := "ytnfboopfpkaeaaa", sum := "9b08244e91b75635328b680f05646d69a39420b9c096694519f1490174f06a58", func := "stadda/staddalaw07.CubeParseval", spec := "cubeParseval", unfollowed := true, recurses := true, plainKeys := false, apart := false }
def CubeParsevalSaid : Prop := cubeParsevalRow.holds Try.pinned (OpenSpec.ofChange cubeParsevalSpec)

/-- ITS FALSE NEIGHBOUR: 'it returns false'. Refute it at one input. -/
def cubeParsevalWrong : ChangeSpec := { name := "cubeParseval", fn := fun _ => fun
  | [d1, d2] => { results := [.lit (.bool false)], args := [d1, d2] }
  | _ => none }
def CubeParsevalWrongFalsely : Prop := cubeParsevalRow.holds Try.pinned (OpenSpec.ofChange cubeParsevalWrong)

/-- 'staddalaw07.CubeHuang': WHATEVER THE INPUT: true; the input reads as it did. -/
def cubeHuangSpec : ChangeSpec := { name := "cubeHuang", fn := fun _ => fun
  | [d1, d2] => { results := [.lit (.bool true)], args := [d1, d2] }
  | _ => none }
def cubeHuangRow : OpenClaim := { program := "ytnfboopfpkaeaaa", sum := "9b08244e91b75635328b680f05646d69a39420b9c096694519f1490174f06a58", func := "stadda/staddalaw07.CubeHuang", spec := "cubeHuang", unfollowed := true, recurses := true, plainKeys := false, apart := false }
def CubeHuangSaid : Prop := cubeHuangRow.holds Try.pinned (OpenSpec.ofChange cubeHuangSpec)

/-- ITS FALSE NEIGHBOUR: 'it returns false'. Refute it at one input. -/
def cubeHuangWrong : ChangeSpec := { name := "cubeHuang", fn := fun _ => fun
  | [d1, d2] => { results := [.lit (.bool false)], args := [d1, d2] }
  | _ => none }
def CubeHuangWrongFalsely : Prop := cubeHuangRow.holds Try.pinned (OpenSpec.ofChange cubeHuangWrong)

/-- 'staddalaw07.CubeTwins': WHATEVER THE INPUT: true; the input reads as it did. -/
def cubeTwinsSpec : ChangeSpec := { name := "cubeTwins", fn := fun _ => fun
  | [d1, d2] => { results := [.lit (.bool true)], args := [d1, d2] }
  | _ => none }
def cubeTwinsRow : OpenClaim := { program := "ytnfboopfpkaeaaa", sum := "9b08244e91b75635328b680f05646d69a39420b9c096694519f1490174f06a58", func := "stadda/staddalaw07.CubeTwins", spec := "cubeTwins", unfollowed := true, recurses := true, plainKeys := false, apart := false }
def CubeTwinsSaid : Prop := cubeTwinsRow.holds Try.pinned (OpenSpec.ofChange cubeTwinsSpec)

/-- ITS FALSE NEIGHBOUR: 'it returns false'. Refute it at one input. -/
def cubeTwinsWrong : ChangeSpec := { name := "cubeTwins", fn := fun _ => fun
  | [d1, d2] => { results := [.lit (.bool false)], args := [d1, d2] }
  | _ => none }
def CubeTwinsWrongFalsely : Prop := cubeTwinsRow.holds Try.pinned (OpenSpec.ofChange cubeTwinsWrong)

/-- 'staddalaw07.CubeSees': WHATEVER THE INPUT: true; the input reads as it did. -/
def cubeSeesSpec : ChangeSpec := { name := "cubeSees", fn := fun _ => fun
  | [d1, d2, d3] => { results := [.lit (.bool true)], args := [d1, d2, d3] }
  | _ => none }
def cubeSeesRow : OpenClaim := { program := "ytnfboopfpkaeaaa", sum := "9b08244e91b75635328b680f05646d69a39420b9c096694519f1490174f06a58", func := "stadda/staddalaw07.CubeSees", spec := "cubeSees", unfollowed := true, recurses := true, plainKeys := false, apart := false }
def CubeSeesSaid : Prop := cubeSeesRow.holds Try.pinned (OpenSpec.ofChange cubeSeesSpec)

/-- ITS FALSE NEIGHBOUR: 'it returns false'. Refute it at one input. -/
def cubeSeesWrong : ChangeSpec := { name := "cubeSees", fn := fun _ => fun
  | [d1, d2, d3] => { results := [.lit (.bool false)], args := [d1, d2, d3] }
  | _ => none }
def CubeSeesWrongFalsely : Prop := cubeSeesRow.holds Try.pinned (OpenSpec.ofChange cubeSeesWrong)

/- THE SECOND FORM. 'bulk': how many values and letters a reading holds, each counted each time it is reached (what is shared counts as often as it is met; a slice's spare places count too). A statement '..UptoSaid' is the law's where the arguments, and the package variables that the reading takes, are together of bulk at most 1048576: NARROWER than '..Said'. Prove '..Said' where nothing that the law and all that it calls make is longer than what came in: it says more and counts as full. Else prove '..UptoSaid'. A law counts once. -/
mutual
def uptoBulk {H : Type} : DataW H → Nat
  | .lit (.string bytes) => bytes.length + 1
  | .lit _ => 1
  | .nil => 1
  | .ptr d => uptoBulk d + 1
  | .slice elems spare => uptoBulkAll elems + uptoBulkAll spare + 1
  | .agg parts => uptoBulkAll parts + 1
  | .iface _ d => uptoBulk d + 1
  | .map entries => uptoBulkEntries entries + 1
  | .held _ => 1
def uptoBulkAll {H : Type} : List (DataW H) → Nat
  | [] => 0
  | d :: r => uptoBulk d + uptoBulkAll r
def uptoBulkEntries {H : Type} : List (Lit × DataW H) → Nat
  | [] => 0
  | x :: r => uptoBulkEntry x + uptoBulkEntries r
def uptoBulkEntry {H : Type} : Lit × DataW H → Nat
  | (.string bytes, d) => bytes.length + uptoBulk d + 1
  | (_, d) => uptoBulk d + 1
 end
def uptoSmall : (H : Type) → List (DataW H) → Bool := fun _ ds => decide (uptoBulkAll ds ≤ 1048576)
def OpenSpec.upto (s : _root_.Go.ChangeSpec) : _root_.Go.OpenSpec := { _root_.Go.OpenSpec.ofChange s with cond := some uptoSmall }

/-- 'staddalaw07.CubeDecides', WHERE WHAT IT READS IS OF BULK AT MOST 1048576: true; the input reads as it did. -/
def cubeDecidesUptoRow : OpenClaim := { program := "ytnfboopfpkaeaaa", sum := "9b08244e91b75635328b680f05646d69a39420b9c096694519f1490174f06a58", func := "stadda/staddalaw07.CubeDecides", spec := "cubeDecides", unfollowed := true, recurses := true, loops := true, plainKeys := false, apart := false, narrowed := true }
def CubeDecidesUptoSaid : Prop := cubeDecidesUptoRow.holds Try.pinned (OpenSpec.upto cubeDecidesSpec)

/-- 'staddalaw07.CubeDeep', WHERE WHAT IT READS IS OF BULK AT MOST 1048576: true; the input reads as it did. -/
def cubeDeepUptoRow : OpenClaim := { program := "ytnfboopfpkaeaaa", sum := "9b08244e91b75635328b680f05646d69a39420b9c096694519f1490174f06a58", func := "stadda/staddalaw07.CubeDeep", spec := "cubeDeep", unfollowed := true, recurses := true, plainKeys := false, apart := false, narrowed := true }
def CubeDeepUptoSaid : Prop := cubeDeepUptoRow.holds Try.pinned (OpenSpec.upto cubeDeepSpec)

/-- 'staddalaw07.CubeForms', WHERE WHAT IT READS IS OF BULK AT MOST 1048576: true; the input reads as it did. -/
def cubeFormsUptoRow : OpenClaim := { program := "ytnfboopfpkaeaaa", sum := "9b08244e91b75635328b680f05646d69a39420b9c096694519f1490174f06a58", func := "stadda/staddalaw07.CubeForms", spec := "cubeForms", unfollowed := true, recurses := true, plainKeys := false, apart := false, narrowed := true }
def CubeFormsUptoSaid : Prop := cubeFormsUptoRow.holds Try.pinned (OpenSpec.upto cubeFormsSpec)

/-- 'staddalaw07.CubeParseval', WHERE WHAT IT READS IS OF BULK AT MOST 1048576: true; the input reads as it did. -/
def cubeParsevalUptoRow : OpenClaim := { program := "ytnfboopfpkaeaaa", sum := "9b08244e91b75635328b680f05646d69a39420b9c096694519f1490174f06a58", func := "stadda/staddalaw07.CubeParseval", spec := "cubeParseval", unfollowed := true, recurses := true, plainKeys := false, apart := false, narrowed := true }
def CubeParsevalUptoSaid : Prop := cubeParsevalUptoRow.holds Try.pinned (OpenSpec.upto cubeParsevalSpec)

/-- 'staddalaw07.CubeHuang', WHERE WHAT IT READS IS OF BULK AT MOST 1048576: true; the input reads as it did. -/
def cubeHuangUptoRow : OpenClaim := { program := "ytnfboopfpkaeaaa", sum := "9b08244e91b75635328b680f05646d69a39420b9c096694519f1490174f06a58", func := "stadda/staddalaw07.CubeHuang", spec := "cubeHuang", unfollowed := true, recurses := true, plainKeys := false, apart := false, narrowed := true }
def CubeHuangUptoSaid : Prop := cubeHuangUptoRow.holds Try.pinned (OpenSpec.upto cubeHuangSpec)

/-- 'staddalaw07.CubeTwins', WHERE WHAT IT READS IS OF BULK AT MOST 1048576: true; the input reads as it did. -/
def cubeTwinsUptoRow : OpenClaim := { program := "ytnfboopfpkaeaaa", sum := "9b08244e91b75635328b680f05646d69a39420b9c096694519f1490174f06a58", func := "stadda/staddalaw07.CubeTwins", spec := "cubeTwins", unfollowed := true, recurses := true, plainKeys := false, apart := false, narrowed := true }
def CubeTwinsUptoSaid : Prop := cubeTwinsUptoRow.holds Try.pinned (OpenSpec.upto cubeTwinsSpec)

/-- 'staddalaw07.CubeSees', WHERE WHAT IT READS IS OF BULK AT MOST 1048576: true; the input reads as it did. -/
def cubeSeesUptoRow : OpenClaim := { program := "ytnfboopfpkaeaaa", sum := "9b08244e91b75635328b680f05646d69a39420b9c096694519f1490174f06a58", func := "stadda/staddalaw07.CubeSees", spec := "cubeSees", unfollowed := true, recurses := true, plainKeys := false, apart := false, narrowed := true }
def CubeSeesUptoSaid : Prop := cubeSeesUptoRow.holds Try.pinned (OpenSpec.upto cubeSeesSpec)

end Rows
end Go.Proofs.Ytnfboopfpkaeaaa

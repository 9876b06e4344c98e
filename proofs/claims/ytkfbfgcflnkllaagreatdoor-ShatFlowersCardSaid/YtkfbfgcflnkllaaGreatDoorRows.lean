/-
  NARROWER THAN 'FOR EVERY INPUT', by the rows' own cells (each row's printed sentence says how): ShatChains: laid · ShatKleitman: laid · ShatPairs: laid · ShatTraces: laid · ShatPresses: laid · ShatFlowers: laid · ShatSauer: laid · ShatBollobas: laid · ShatErdos: laid · ShatCrosses: laid · ShatChecks: laid.
  DERIVED. THE GIVEN ROWS OF THIS SEAT. 11 by the template 'for every input the law returns true; each argument reads behind the call as it read before'; 0 by the template 'total and deterministic' (their statements: YtkfbfgcflnkllaaGreatDoorTotals.lean).
  GIVEN WITH THE SEED: the statements are not yours to turn. If you find one false, say at which input.
  Laid BY PROGRAM, IN A SANDBOX (cutbox-rows.mjs): the forced cells as the released guide's own fill.sh prints them over the translation 5bb4ca91fc74beab… (all of the seat's roots in one cut). By AI agents, Wed Nov 11 2026. No macro, syntax, notation, axiom, sorry.
-/
import Derived.Test.YtkfbfgcflnkllaaGreatDoorChecked
import GoSem.Claim
import GoSem.ClaimJoined
import GoSem.ClaimMapViews
import Derived.JoinedTies
import Derived.KernelRfl
namespace Go.Proofs.YtkfbfgcflnkllaaGreatDoor
/- THE CELL 'sum', in the pinned program and in every row, IS THE sha256 OF THE DUMP (.gsa) THAT YtkfbfgcflnkllaaGreatDoorProg.lean LOADS. Nothing in Lean hashes anything: it is a label: what it is worth is what the hold of that sum in a sandbox is worth. -/
noncomputable def Tryz.pinned : Pinned := { name := "ytkfbfgcflnkllaagreatdoor", sum := "5bb4ca91fc74beabf34320e64f494148026dd5e9c1f5c25f04238e0fcd2fea6d", checked := Tryz.checked }
namespace Rows
def none {H : Type} : Left H := { results := [], args := [] }

/- WHAT THE LISTED PACKAGE-LEVEL VARIABLES READ AS WHEN THE CALL BEGINS. Each datum BY PROGRAM (the guide's laid-datum.mjs) off the statement by which the dump's own 'gosem.cut.vars' lays the variable. In a bare row this is a premise. The card (YtkfbfgcflnkllaaGreatDoorCards.lean) ties it to the program's text. -/
def laid_math_bits_deBruijn32tab {H : Type} : DataW H := .agg [.lit (.int .u8 0), .lit (.int .u8 1), .lit (.int .u8 28), .lit (.int .u8 2), .lit (.int .u8 29), .lit (.int .u8 14), .lit (.int .u8 24), .lit (.int .u8 3), .lit (.int .u8 30), .lit (.int .u8 22), .lit (.int .u8 20), .lit (.int .u8 15), .lit (.int .u8 25), .lit (.int .u8 17), .lit (.int .u8 4), .lit (.int .u8 8), .lit (.int .u8 31), .lit (.int .u8 27), .lit (.int .u8 13), .lit (.int .u8 23), .lit (.int .u8 21), .lit (.int .u8 19), .lit (.int .u8 16), .lit (.int .u8 7), .lit (.int .u8 26), .lit (.int .u8 12), .lit (.int .u8 18), .lit (.int .u8 6), .lit (.int .u8 11), .lit (.int .u8 5), .lit (.int .u8 10), .lit (.int .u8 9)]
def laid_math_bits_deBruijn64tab {H : Type} : DataW H := .agg [.lit (.int .u8 0), .lit (.int .u8 1), .lit (.int .u8 56), .lit (.int .u8 2), .lit (.int .u8 57), .lit (.int .u8 49), .lit (.int .u8 28), .lit (.int .u8 3), .lit (.int .u8 61), .lit (.int .u8 58), .lit (.int .u8 42), .lit (.int .u8 50), .lit (.int .u8 38), .lit (.int .u8 29), .lit (.int .u8 17), .lit (.int .u8 4), .lit (.int .u8 62), .lit (.int .u8 47), .lit (.int .u8 59), .lit (.int .u8 36), .lit (.int .u8 45), .lit (.int .u8 43), .lit (.int .u8 51), .lit (.int .u8 22), .lit (.int .u8 53), .lit (.int .u8 39), .lit (.int .u8 33), .lit (.int .u8 30), .lit (.int .u8 24), .lit (.int .u8 18), .lit (.int .u8 12), .lit (.int .u8 5), .lit (.int .u8 63), .lit (.int .u8 55), .lit (.int .u8 48), .lit (.int .u8 27), .lit (.int .u8 60), .lit (.int .u8 41), .lit (.int .u8 37), .lit (.int .u8 16), .lit (.int .u8 46), .lit (.int .u8 35), .lit (.int .u8 44), .lit (.int .u8 21), .lit (.int .u8 52), .lit (.int .u8 32), .lit (.int .u8 23), .lit (.int .u8 11), .lit (.int .u8 54), .lit (.int .u8 26), .lit (.int .u8 40), .lit (.int .u8 15), .lit (.int .u8 34), .lit (.int .u8 20), .lit (.int .u8 31), .lit (.int .u8 10), .lit (.int .u8 25), .lit (.int .u8 14), .lit (.int .u8 19), .lit (.int .u8 9), .lit (.int .u8 13), .lit (.int .u8 8), .lit (.int .u8 7), .lit (.int .u8 6)]
def laid_internal_strconv_uint64pow10 {H : Type} : DataW H := .agg [.lit (.int .u64 1), .lit (.int .u64 10), .lit (.int .u64 100), .lit (.int .u64 1000), .lit (.int .u64 10000), .lit (.int .u64 100000), .lit (.int .u64 1000000), .lit (.int .u64 10000000), .lit (.int .u64 100000000), .lit (.int .u64 1000000000), .lit (.int .u64 10000000000), .lit (.int .u64 100000000000), .lit (.int .u64 1000000000000), .lit (.int .u64 10000000000000), .lit (.int .u64 100000000000000), .lit (.int .u64 1000000000000000), .lit (.int .u64 10000000000000000), .lit (.int .u64 100000000000000000), .lit (.int .u64 1000000000000000000), .lit (.int .u64 10000000000000000000)]

/-- 'staddalaw08.ShatChains': WHATEVER THE INPUT: true; the input reads as it did. -/
def shatChainsSpec : ChangeSpec := { name := "shatChains", fn := fun _ => fun
  | [d] => { results := [.lit (.bool true)], args := [d] }
  | _ => none }
def shatChainsRow : OpenClaim := { program := "ytkfbfgcflnkllaagreatdoor", sum := "5bb4ca91fc74beabf34320e64f494148026dd5e9c1f5c25f04238e0fcd2fea6d", func := "stadda/staddalaw08.ShatChains", spec := "shatChains", inPlace := ["math/bits.Add64", "math/bits.Sub64", "internal/abi.NoEscape", "internal/bytealg.MakeNoZero"], unfollowed := true, recurses := true, named := ["math/bits.divideError", "math/bits.overflowError", "internal/strconv.uint64pow10", "math/bits.deBruijn32tab", "math/bits.deBruijn64tab"], plainKeys := false, apart := false, laid := [("math/bits.deBruijn32tab", laid_math_bits_deBruijn32tab), ("math/bits.deBruijn64tab", laid_math_bits_deBruijn64tab), ("internal/strconv.uint64pow10", laid_internal_strconv_uint64pow10)] }
def ShatChainsSaid : Prop := shatChainsRow.holds Tryz.pinned (OpenSpec.ofChange shatChainsSpec)

/-- ITS FALSE NEIGHBOUR: 'it returns false'. Refute it at one input. -/
def shatChainsWrong : ChangeSpec := { name := "shatChains", fn := fun _ => fun
  | [d] => { results := [.lit (.bool false)], args := [d] }
  | _ => none }
def ShatChainsWrongFalsely : Prop := shatChainsRow.holds Tryz.pinned (OpenSpec.ofChange shatChainsWrong)

/-- 'staddalaw08.ShatKleitman': WHATEVER THE INPUT: true; the input reads as it did. -/
def shatKleitmanSpec : ChangeSpec := { name := "shatKleitman", fn := fun _ => fun
  | [d1, d2, d3] => { results := [.lit (.bool true)], args := [d1, d2, d3] }
  | _ => none }
def shatKleitmanRow : OpenClaim := { program := "ytkfbfgcflnkllaagreatdoor", sum := "5bb4ca91fc74beabf34320e64f494148026dd5e9c1f5c25f04238e0fcd2fea6d", func := "stadda/staddalaw08.ShatKleitman", spec := "shatKleitman", inPlace := ["math/bits.Add64", "math/bits.Sub64", "internal/abi.NoEscape", "internal/bytealg.MakeNoZero"], unfollowed := true, recurses := true, named := ["math/bits.divideError", "math/bits.overflowError", "internal/strconv.uint64pow10", "math/bits.deBruijn32tab", "math/bits.deBruijn64tab"], plainKeys := false, apart := false, laid := [("math/bits.deBruijn32tab", laid_math_bits_deBruijn32tab), ("math/bits.deBruijn64tab", laid_math_bits_deBruijn64tab), ("internal/strconv.uint64pow10", laid_internal_strconv_uint64pow10)] }
def ShatKleitmanSaid : Prop := shatKleitmanRow.holds Tryz.pinned (OpenSpec.ofChange shatKleitmanSpec)

/-- ITS FALSE NEIGHBOUR: 'it returns false'. Refute it at one input. -/
def shatKleitmanWrong : ChangeSpec := { name := "shatKleitman", fn := fun _ => fun
  | [d1, d2, d3] => { results := [.lit (.bool false)], args := [d1, d2, d3] }
  | _ => none }
def ShatKleitmanWrongFalsely : Prop := shatKleitmanRow.holds Tryz.pinned (OpenSpec.ofChange shatKleitmanWrong)

/-- 'staddalaw08.ShatPairs': WHATEVER THE INPUT: true; the input reads as it did. -/
def shatPairsSpec : ChangeSpec := { name := "shatPairs", fn := fun _ => fun
  | [d] => { results := [.lit (.bool true)], args := [d] }
  | _ => none }
def shatPairsRow : OpenClaim := { program := "ytkfbfgcflnkllaagreatdoor", sum := "5bb4ca91fc74beabf34320e64f494148026dd5e9c1f5c25f04238e0fcd2fea6d", func := "stadda/staddalaw08.ShatPairs", spec := "shatPairs", inPlace := ["math/bits.Add64", "math/bits.Sub64", "internal/abi.NoEscape", "internal/bytealg.MakeNoZero"], unfollowed := true, recurses := true, named := ["math/bits.divideError", "math/bits.overflowError", "internal/strconv.uint64pow10", "math/bits.deBruijn32tab", "math/bits.deBruijn64tab"], plainKeys := false, apart := false, laid := [("math/bits.deBruijn32tab", laid_math_bits_deBruijn32tab), ("math/bits.deBruijn64tab", laid_math_bits_deBruijn64tab), ("internal/strconv.uint64pow10", laid_internal_strconv_uint64pow10)] }
def ShatPairsSaid : Prop := shatPairsRow.holds Tryz.pinned (OpenSpec.ofChange shatPairsSpec)

/-- ITS FALSE NEIGHBOUR: 'it returns false'. Refute it at one input. -/
def shatPairsWrong : ChangeSpec := { name := "shatPairs", fn := fun _ => fun
  | [d] => { results := [.lit (.bool false)], args := [d] }
  | _ => none }
def ShatPairsWrongFalsely : Prop := shatPairsRow.holds Tryz.pinned (OpenSpec.ofChange shatPairsWrong)

/-- 'staddalaw08.ShatTraces': WHATEVER THE INPUT: true; the input reads as it did. -/
def shatTracesSpec : ChangeSpec := { name := "shatTraces", fn := fun _ => fun
  | [d1, d2, d3] => { results := [.lit (.bool true)], args := [d1, d2, d3] }
  | _ => none }
def shatTracesRow : OpenClaim := { program := "ytkfbfgcflnkllaagreatdoor", sum := "5bb4ca91fc74beabf34320e64f494148026dd5e9c1f5c25f04238e0fcd2fea6d", func := "stadda/staddalaw08.ShatTraces", spec := "shatTraces", inPlace := ["math/bits.Add64", "math/bits.Sub64", "internal/abi.NoEscape", "internal/bytealg.MakeNoZero"], unfollowed := true, recurses := true, named := ["math/bits.divideError", "math/bits.overflowError", "internal/strconv.uint64pow10", "math/bits.deBruijn32tab", "math/bits.deBruijn64tab"], plainKeys := false, apart := false, laid := [("math/bits.deBruijn32tab", laid_math_bits_deBruijn32tab), ("math/bits.deBruijn64tab", laid_math_bits_deBruijn64tab), ("internal/strconv.uint64pow10", laid_internal_strconv_uint64pow10)] }
def ShatTracesSaid : Prop := shatTracesRow.holds Tryz.pinned (OpenSpec.ofChange shatTracesSpec)

/-- ITS FALSE NEIGHBOUR: 'it returns false'. Refute it at one input. -/
def shatTracesWrong : ChangeSpec := { name := "shatTraces", fn := fun _ => fun
  | [d1, d2, d3] => { results := [.lit (.bool false)], args := [d1, d2, d3] }
  | _ => none }
def ShatTracesWrongFalsely : Prop := shatTracesRow.holds Tryz.pinned (OpenSpec.ofChange shatTracesWrong)

/-- 'staddalaw08.ShatPresses': WHATEVER THE INPUT: true; the input reads as it did. -/
def shatPressesSpec : ChangeSpec := { name := "shatPresses", fn := fun _ => fun
  | [d1, d2, d3] => { results := [.lit (.bool true)], args := [d1, d2, d3] }
  | _ => none }
def shatPressesRow : OpenClaim := { program := "ytkfbfgcflnkllaagreatdoor", sum := "5bb4ca91fc74beabf34320e64f494148026dd5e9c1f5c25f04238e0fcd2fea6d", func := "stadda/staddalaw08.ShatPresses", spec := "shatPresses", inPlace := ["math/bits.Add64", "math/bits.Sub64", "internal/abi.NoEscape", "internal/bytealg.MakeNoZero"], unfollowed := true, recurses := true, named := ["math/bits.divideError", "math/bits.overflowError", "internal/strconv.uint64pow10", "math/bits.deBruijn32tab", "math/bits.deBruijn64tab"], plainKeys := false, apart := false, laid := [("math/bits.deBruijn32tab", laid_math_bits_deBruijn32tab), ("math/bits.deBruijn64tab", laid_math_bits_deBruijn64tab), ("internal/strconv.uint64pow10", laid_internal_strconv_uint64pow10)] }
def ShatPressesSaid : Prop := shatPressesRow.holds Tryz.pinned (OpenSpec.ofChange shatPressesSpec)

/-- ITS FALSE NEIGHBOUR: 'it returns false'. Refute it at one input. -/
def shatPressesWrong : ChangeSpec := { name := "shatPresses", fn := fun _ => fun
  | [d1, d2, d3] => { results := [.lit (.bool false)], args := [d1, d2, d3] }
  | _ => none }
def ShatPressesWrongFalsely : Prop := shatPressesRow.holds Tryz.pinned (OpenSpec.ofChange shatPressesWrong)

/-- 'staddalaw08.ShatFlowers': WHATEVER THE INPUT: true; the input reads as it did. -/
def shatFlowersSpec : ChangeSpec := { name := "shatFlowers", fn := fun _ => fun
  | [d1, d2, d3] => { results := [.lit (.bool true)], args := [d1, d2, d3] }
  | _ => none }
def shatFlowersRow : OpenClaim := { program := "ytkfbfgcflnkllaagreatdoor", sum := "5bb4ca91fc74beabf34320e64f494148026dd5e9c1f5c25f04238e0fcd2fea6d", func := "stadda/staddalaw08.ShatFlowers", spec := "shatFlowers", inPlace := ["math/bits.Add64", "math/bits.Sub64", "internal/abi.NoEscape", "internal/bytealg.MakeNoZero"], unfollowed := true, recurses := true, named := ["math/bits.divideError", "math/bits.overflowError", "internal/strconv.uint64pow10", "math/bits.deBruijn32tab", "math/bits.deBruijn64tab"], plainKeys := false, apart := false, laid := [("math/bits.deBruijn32tab", laid_math_bits_deBruijn32tab), ("math/bits.deBruijn64tab", laid_math_bits_deBruijn64tab), ("internal/strconv.uint64pow10", laid_internal_strconv_uint64pow10)] }
def ShatFlowersSaid : Prop := shatFlowersRow.holds Tryz.pinned (OpenSpec.ofChange shatFlowersSpec)

/-- ITS FALSE NEIGHBOUR: 'it returns false'. Refute it at one input. -/
def shatFlowersWrong : ChangeSpec := { name := "shatFlowers", fn := fun _ => fun
  | [d1, d2, d3] => { results := [.lit (.bool false)], args := [d1, d2, d3] }
  | _ => none }
def ShatFlowersWrongFalsely : Prop := shatFlowersRow.holds Tryz.pinned (OpenSpec.ofChange shatFlowersWrong)

/-- 'staddalaw08.ShatSauer': WHATEVER THE INPUT: true; the input reads as it did. -/
def shatSauerSpec : ChangeSpec := { name := "shatSauer", fn := fun _ => fun
  | [d1, d2, d3] => { results := [.lit (.bool true)], args := [d1, d2, d3] }
  | _ => none }
def shatSauerRow : OpenClaim := { program := "ytkfbfgcflnkllaagreatdoor", sum := "5bb4ca91fc74beabf34320e64f494148026dd5e9c1f5c25f04238e0fcd2fea6d", func := "stadda/staddalaw08.ShatSauer", spec := "shatSauer", inPlace := ["math/bits.Add64", "math/bits.Sub64", "internal/abi.NoEscape", "internal/bytealg.MakeNoZero"], unfollowed := true, recurses := true, named := ["math/bits.divideError", "math/bits.overflowError", "internal/strconv.uint64pow10", "math/bits.deBruijn32tab", "math/bits.deBruijn64tab"], plainKeys := false, apart := false, laid := [("math/bits.deBruijn32tab", laid_math_bits_deBruijn32tab), ("math/bits.deBruijn64tab", laid_math_bits_deBruijn64tab), ("internal/strconv.uint64pow10", laid_internal_strconv_uint64pow10)] }
def ShatSauerSaid : Prop := shatSauerRow.holds Tryz.pinned (OpenSpec.ofChange shatSauerSpec)

/-- ITS FALSE NEIGHBOUR: 'it returns false'. Refute it at one input. -/
def shatSauerWrong : ChangeSpec := { name := "shatSauer", fn := fun _ => fun
  | [d1, d2, d3] => { results := [.lit (.bool false)], args := [d1, d2, d3] }
  | _ => none }
def ShatSauerWrongFalsely : Prop := shatSauerRow.holds Tryz.pinned (OpenSpec.ofChange shatSauerWrong)

/-- 'staddalaw08.ShatBollobas': WHATEVER THE INPUT: true; the input reads as it did. -/
def shatBollobasSpec : ChangeSpec := { name := "shatBollobas", fn := fun _ => fun
  | [d1, d2, d3] => { results := [.lit (.bool true)], args := [d1, d2, d3] }
  | _ => none }
def shatBollobasRow : OpenClaim := { program := "ytkfbfgcflnkllaagreatdoor", sum := "5bb4ca91fc74beabf34320e64f494148026dd5e9c1f5c25f04238e0fcd2fea6d", func := "stadda/staddalaw08.ShatBollobas", spec := "shatBollobas", inPlace := ["math/bits.Add64", "math/bits.Sub64", "internal/abi.NoEscape", "internal/bytealg.MakeNoZero"], unfollowed := true, recurses := true, named := ["math/bits.divideError", "math/bits.overflowError", "internal/strconv.uint64pow10", "math/bits.deBruijn32tab", "math/bits.deBruijn64tab"], plainKeys := false, apart := false, laid := [("math/bits.deBruijn32tab", laid_math_bits_deBruijn32tab), ("math/bits.deBruijn64tab", laid_math_bits_deBruijn64tab), ("internal/strconv.uint64pow10", laid_internal_strconv_uint64pow10)] }
def ShatBollobasSaid : Prop := shatBollobasRow.holds Tryz.pinned (OpenSpec.ofChange shatBollobasSpec)

/-- ITS FALSE NEIGHBOUR: 'it returns false'. Refute it at one input. -/
def shatBollobasWrong : ChangeSpec := { name := "shatBollobas", fn := fun _ => fun
  | [d1, d2, d3] => { results := [.lit (.bool false)], args := [d1, d2, d3] }
  | _ => none }
def ShatBollobasWrongFalsely : Prop := shatBollobasRow.holds Tryz.pinned (OpenSpec.ofChange shatBollobasWrong)

/-- 'staddalaw08.ShatErdos': WHATEVER THE INPUT: true; the input reads as it did. -/
def shatErdosSpec : ChangeSpec := { name := "shatErdos", fn := fun _ => fun
  | [d1, d2, d3] => { results := [.lit (.bool true)], args := [d1, d2, d3] }
  | _ => none }
def shatErdosRow : OpenClaim := { program := "ytkfbfgcflnkllaagreatdoor", sum := "5bb4ca91fc74beabf34320e64f494148026dd5e9c1f5c25f04238e0fcd2fea6d", func := "stadda/staddalaw08.ShatErdos", spec := "shatErdos", inPlace := ["math/bits.Add64", "math/bits.Sub64", "internal/abi.NoEscape", "internal/bytealg.MakeNoZero"], unfollowed := true, recurses := true, named := ["math/bits.divideError", "math/bits.overflowError", "internal/strconv.uint64pow10", "math/bits.deBruijn32tab", "math/bits.deBruijn64tab"], plainKeys := false, apart := false, laid := [("math/bits.deBruijn32tab", laid_math_bits_deBruijn32tab), ("math/bits.deBruijn64tab", laid_math_bits_deBruijn64tab), ("internal/strconv.uint64pow10", laid_internal_strconv_uint64pow10)] }
def ShatErdosSaid : Prop := shatErdosRow.holds Tryz.pinned (OpenSpec.ofChange shatErdosSpec)

/-- ITS FALSE NEIGHBOUR: 'it returns false'. Refute it at one input. -/
def shatErdosWrong : ChangeSpec := { name := "shatErdos", fn := fun _ => fun
  | [d1, d2, d3] => { results := [.lit (.bool false)], args := [d1, d2, d3] }
  | _ => none }
def ShatErdosWrongFalsely : Prop := shatErdosRow.holds Tryz.pinned (OpenSpec.ofChange shatErdosWrong)

/-- 'staddalaw08.ShatCrosses': WHATEVER THE INPUT: true; the input reads as it did. -/
def shatCrossesSpec : ChangeSpec := { name := "shatCrosses", fn := fun _ => fun
  | [d1, d2, d3] => { results := [.lit (.bool true)], args := [d1, d2, d3] }
  | _ => none }
def shatCrossesRow : OpenClaim := { program := "ytkfbfgcflnkllaagreatdoor", sum := "5bb4ca91fc74beabf34320e64f494148026dd5e9c1f5c25f04238e0fcd2fea6d", func := "stadda/staddalaw08.ShatCrosses", spec := "shatCrosses", inPlace := ["math/bits.Add64", "math/bits.Sub64", "internal/abi.NoEscape", "internal/bytealg.MakeNoZero"], unfollowed := true, recurses := true, named := ["math/bits.divideError", "math/bits.overflowError", "internal/strconv.uint64pow10", "math/bits.deBruijn32tab", "math/bits.deBruijn64tab"], plainKeys := false, apart := false, laid := [("math/bits.deBruijn32tab", laid_math_bits_deBruijn32tab), ("math/bits.deBruijn64tab", laid_math_bits_deBruijn64tab), ("internal/strconv.uint64pow10", laid_internal_strconv_uint64pow10)] }
def ShatCrossesSaid : Prop := shatCrossesRow.holds Tryz.pinned (OpenSpec.ofChange shatCrossesSpec)

/-- ITS FALSE NEIGHBOUR: 'it returns false'. Refute it at one input. -/
def shatCrossesWrong : ChangeSpec := { name := "shatCrosses", fn := fun _ => fun
  | [d1, d2, d3] => { results := [.lit (.bool false)], args := [d1, d2, d3] }
  | _ => none }
def ShatCrossesWrongFalsely : Prop := shatCrossesRow.holds Tryz.pinned (OpenSpec.ofChange shatCrossesWrong)

/-- 'staddalaw08.ShatChecks': WHATEVER THE INPUT: true; the input reads as it did. -/
def shatChecksSpec : ChangeSpec := { name := "shatChecks", fn := fun _ => fun
  | [d1, d2, d3] => { results := [.lit (.bool true)], args := [d1, d2, d3] }
  | _ => none }
def shatChecksRow : OpenClaim := { program := "ytkfbfgcflnkllaagreatdoor", sum := "5bb4ca91fc74beabf34320e64f494148026dd5e9c1f5c25f04238e0fcd2fea6d", func := "stadda/staddalaw08.ShatChecks", spec := "shatChecks", inPlace := ["math/bits.Add64", "math/bits.Sub64", "internal/abi.NoEscape", "internal/bytealg.MakeNoZero"], unfollowed := true, recurses := true, named := ["math/bits.divideError", "math/bits.overflowError", "internal/strconv.uint64pow10", "math/bits.deBruijn32tab", "math/bits.deBruijn64tab"], plainKeys := false, apart := false, laid := [("math/bits.deBruijn32tab", laid_math_bits_deBruijn32tab), ("math/bits.deBruijn64tab", laid_math_bits_deBruijn64tab), ("internal/strconv.uint64pow10", laid_internal_strconv_uint64pow10)] }
def ShatChecksSaid : Prop := shatChecksRow.holds Tryz.pinned (OpenSpec.ofChange shatChecksSpec)

/-- ITS FALSE NEIGHBOUR: 'it returns false'. Refute it at one input. -/
def shatChecksWrong : ChangeSpec := { name := "shatChecks", fn := fun _ => fun
  | [d1, d2, d3] => { results := [.lit (.bool false)], args := [d1, d2, d3] }
  | _ => none }
def ShatChecksWrongFalsely : Prop := shatChecksRow.holds Tryz.pinned (OpenSpec.ofChange shatChecksWrong)

/- THE SECOND FORM. 'bulk': how many values and letters a reading holds, each counted each time it is reached (what is shared counts as often as it is met; a slice's spare places count too). A statement '..UptoSaid' is the law's where the arguments, and the package variables that the reading takes, are together of bulk at most 1048576: NARROWER than '..Said'. Prove '..Said' where nothing that the law and all that it calls make is longer than what came in: it says more and counts as full. Else prove '..UptoSaid'. A law counts once. -/
mutual
def uptoBulk {H : Type} : DataW H → Nat
  | .lit (.string bytes) => bytes.length + 1
  | .lit _ => 1
  | .nil => 1
  | .ptr d => uptoBulk d + 1
  | .slice elems spare => uptoBulkAll elems + uptoBulkAll spare + 1
  | .agg parts => uptoBulkAll parts + 1
  | .iface _ d => uptoBulk d + 1
  | .map entries => uptoBulkEntries entries + 1
  | .held _ => 1
def uptoBulkAll {H : Type} : List (DataW H) → Nat
  | [] => 0
  | d :: r => uptoBulk d + uptoBulkAll r
def uptoBulkEntries {H : Type} : List (Lit × DataW H) → Nat
  | [] => 0
  | x :: r => uptoBulkEntry x + uptoBulkEntries r
def uptoBulkEntry {H : Type} : Lit × DataW H → Nat
  | (.string bytes, d) => bytes.length + uptoBulk d + 1
  | (_, d) => uptoBulk d + 1
 end
def uptoSmall : (H : Type) → List (DataW H) → Bool := fun _ ds => decide (uptoBulkAll ds ≤ 1048576)
def OpenSpec.upto (s : _root_.Go.ChangeSpec) : _root_.Go.OpenSpec := { _root_.Go.OpenSpec.ofChange s with cond := some uptoSmall }

/-- 'staddalaw08.ShatChains', WHERE WHAT IT READS IS OF BULK AT MOST 1048576: true; the input reads as it did. -/
def shatChainsUptoRow : OpenClaim := { program := "ytkfbfgcflnkllaagreatdoor", sum := "5bb4ca91fc74beabf34320e64f494148026dd5e9c1f5c25f04238e0fcd2fea6d", func := "stadda/staddalaw08.ShatChains", spec := "shatChains", inPlace := ["math/bits.Add64", "math/bits.Sub64", "internal/abi.NoEscape", "internal/bytealg.MakeNoZero"], unfollowed := true, recurses := true, named := ["math/bits.divideError", "math/bits.overflowError", "internal/strconv.uint64pow10", "math/bits.deBruijn32tab", "math/bits.deBruijn64tab"], plainKeys := false, apart := false, laid := [("math/bits.deBruijn32tab", laid_math_bits_deBruijn32tab), ("math/bits.deBruijn64tab", laid_math_bits_deBruijn64tab), ("internal/strconv.uint64pow10", laid_internal_strconv_uint64pow10)], narrowed := true }
def ShatChainsUptoSaid : Prop := shatChainsUptoRow.holds Tryz.pinned (OpenSpec.upto shatChainsSpec)

/-- 'staddalaw08.ShatKleitman', WHERE WHAT IT READS IS OF BULK AT MOST 1048576: true; the input reads as it did. -/
def shatKleitmanUptoRow : OpenClaim := { program := "ytkfbfgcflnkllaagreatdoor", sum := "5bb4ca91fc74beabf34320e64f494148026dd5e9c1f5c25f04238e0fcd2fea6d", func := "stadda/staddalaw08.ShatKleitman", spec := "shatKleitman", inPlace := ["math/bits.Add64", "math/bits.Sub64", "internal/abi.NoEscape", "internal/bytealg.MakeNoZero"], unfollowed := true, recurses := true, named := ["math/bits.divideError", "math/bits.overflowError", "internal/strconv.uint64pow10", "math/bits.deBruijn32tab", "math/bits.deBruijn64tab"], plainKeys := false, apart := false, laid := [("math/bits.deBruijn32tab", laid_math_bits_deBruijn32tab), ("math/bits.deBruijn64tab", laid_math_bits_deBruijn64tab), ("internal/strconv.uint64pow10", laid_internal_strconv_uint64pow10)], narrowed := true }
def ShatKleitmanUptoSaid : Prop := shatKleitmanUptoRow.holds Tryz.pinned (OpenSpec.upto shatKleitmanSpec)

/-- 'staddalaw08.ShatPairs', WHERE WHAT IT READS IS OF BULK AT MOST 1048576: true; the input reads as it did. -/
def shatPairsUptoRow : OpenClaim := { program := "ytkfbfgcflnkllaagreatdoor", sum := "5bb4ca91fc74beabf34320e64f494148026dd5e9c1f5c25f04238e0fcd2fea6d", func := "stadda/staddalaw08.ShatPairs", spec := "shatPairs", inPlace := ["math/bits.Add64", "math/bits.Sub64", "internal/abi.NoEscape", "internal/bytealg.MakeNoZero"], unfollowed := true, recurses := true, named := ["math/bits.divideError", "math/bits.overflowError", "internal/strconv.uint64pow10", "math/bits.deBruijn32tab", "math/bits.deBruijn64tab"], plainKeys := false, apart := false, laid := [("math/bits.deBruijn32tab", laid_math_bits_deBruijn32tab), ("math/bits.deBruijn64tab", laid_math_bits_deBruijn64tab), ("internal/strconv.uint64pow10", laid_internal_strconv_uint64pow10)], narrowed := true }
def ShatPairsUptoSaid : Prop := shatPairsUptoRow.holds Tryz.pinned (OpenSpec.upto shatPairsSpec)

/-- 'staddalaw08.ShatTraces', WHERE WHAT IT READS IS OF BULK AT MOST 1048576: true; the input reads as it did. -/
def shatTracesUptoRow : OpenClaim := { program := "ytkfbfgcflnkllaagreatdoor", sum := "5bb4ca91fc74beabf34320e64f494148026dd5e9c1f5c25f04238e0fcd2fea6d", func := "stadda/staddalaw08.ShatTraces", spec := "shatTraces", inPlace := ["math/bits.Add64", "math/bits.Sub64", "internal/abi.NoEscape", "internal/bytealg.MakeNoZero"], unfollowed := true, recurses := true, named := ["math/bits.divideError", "math/bits.overflowError", "internal/strconv.uint64pow10", "math/bits.deBruijn32tab", "math/bits.deBruijn64tab"], plainKeys := false, apart := false, laid := [("math/bits.deBruijn32tab", laid_math_bits_deBruijn32tab), ("math/bits.deBruijn64tab", laid_math_bits_deBruijn64tab), ("internal/strconv.uint64pow10", laid_internal_strconv_uint64pow10)], narrowed := true }
def ShatTracesUptoSaid : Prop := shatTracesUptoRow.holds Tryz.pinned (OpenSpec.upto shatTracesSpec)

/-- 'staddalaw08.ShatPresses', WHERE WHAT IT READS IS OF BULK AT MOST 1048576: true; the input reads as it did. -/
def shatPressesUptoRow : OpenClaim := { program := "ytkfbfgcflnkllaagreatdoor", sum := "5bb4ca91fc74beabf34320e64f494148026dd5e9c1f5c25f04238e0fcd2fea6d", func := "stadda/staddalaw08.ShatPresses", spec := "shatPresses", inPlace := ["math/bits.Add64", "math/bits.Sub64", "internal/abi.NoEscape", "internal/bytealg.MakeNoZero"], unfollowed := true, recurses := true, named := ["math/bits.divideError", "math/bits.overflowError", "internal/strconv.uint64pow10", "math/bits.deBruijn32tab", "math/bits.deBruijn64tab"], plainKeys := false, apart := false, laid := [("math/bits.deBruijn32tab", laid_math_bits_deBruijn32tab), ("math/bits.deBruijn64tab", laid_math_bits_deBruijn64tab), ("internal/strconv.uint64pow10", laid_internal_strconv_uint64pow10)], narrowed := true }
def ShatPressesUptoSaid : Prop := shatPressesUptoRow.holds Tryz.pinned (OpenSpec.upto shatPressesSpec)

/-- 'staddalaw08.ShatFlowers', WHERE WHAT IT READS IS OF BULK AT MOST 1048576: true; the input reads as it did. -/
def shatFlowersUptoRow : OpenClaim := { program := "ytkfbfgcflnkllaagreatdoor", sum := "5bb4ca91fc74beabf34320e64f494148026dd5e9c1f5c25f04238e0fcd2fea6d", func := "stadda/staddalaw08.ShatFlowers", spec := "shatFlowers", inPlace := ["math/bits.Add64", "math/bits.Sub64", "internal/abi.NoEscape", "internal/bytealg.MakeNoZero"], unfollowed := true, recurses := true, named := ["math/bits.divideError", "math/bits.overflowError", "internal/strconv.uint64pow10", "math/bits.deBruijn32tab", "math/bits.deBruijn64tab"], plainKeys := false, apart := false, laid := [("math/bits.deBruijn32tab", laid_math_bits_deBruijn32tab), ("math/bits.deBruijn64tab", laid_math_bits_deBruijn64tab), ("internal/strconv.uint64pow10", laid_internal_strconv_uint64pow10)], narrowed := true }
def ShatFlowersUptoSaid : Prop := shatFlowersUptoRow.holds Tryz.pinned (OpenSpec.upto shatFlowersSpec)

/-- 'staddalaw08.ShatSauer', WHERE WHAT IT READS IS OF BULK AT MOST 1048576: true; the input reads as it did. -/
def shatSauerUptoRow : OpenClaim := { program := "ytkfbfgcflnkllaagreatdoor", sum := "5bb4ca91fc74beabf34320e64f494148026dd5e9c1f5c25f04238e0fcd2fea6d", func := "stadda/staddalaw08.ShatSauer", spec := "shatSauer", inPlace := ["math/bits.Add64", "math/bits.Sub64", "internal/abi.NoEscape", "internal/bytealg.MakeNoZero"], unfollowed := true, recurses := true, named := ["math/bits.divideError", "math/bits.overflowError", "internal/strconv.uint64pow10", "math/bits.deBruijn32tab", "math/bits.deBruijn64tab"], plainKeys := false, apart := false, laid := [("math/bits.deBruijn32tab", laid_math_bits_deBruijn32tab), ("math/bits.deBruijn64tab", laid_math_bits_deBruijn64tab), ("internal/strconv.uint64pow10", laid_internal_strconv_uint64pow10)], narrowed := true }
def ShatSauerUptoSaid : Prop := shatSauerUptoRow.holds Tryz.pinned (OpenSpec.upto shatSauerSpec)

/-- 'staddalaw08.ShatBollobas', WHERE WHAT IT READS IS OF BULK AT MOST 1048576: true; the input reads as it did. -/
def shatBollobasUptoRow : OpenClaim := { program := "ytkfbfgcflnkllaagreatdoor", sum := "5bb4ca91fc74beabf34320e64f494148026dd5e9c1f5c25f04238e0fcd2fea6d", func := "stadda/staddalaw08.ShatBollobas", spec := "shatBollobas", inPlace := ["math/bits.Add64", "math/bits.Sub64", "internal/abi.NoEscape", "internal/bytealg.MakeNoZero"], unfollowed := true, recurses := true, named := ["math/bits.divideError", "math/bits.overflowError", "internal/strconv.uint64pow10", "math/bits.deBruijn32tab", "math/bits.deBruijn64tab"], plainKeys := false, apart := false, laid := [("math/bits.deBruijn32tab", laid_math_bits_deBruijn32tab), ("math/bits.deBruijn64tab", laid_math_bits_deBruijn64tab), ("internal/strconv.uint64pow10", laid_internal_strconv_uint64pow10)], narrowed := true }
def ShatBollobasUptoSaid : Prop := shatBollobasUptoRow.holds Tryz.pinned (OpenSpec.upto shatBollobasSpec)

/-- 'staddalaw08.ShatErdos', WHERE WHAT IT READS IS OF BULK AT MOST 1048576: true; the input reads as it did. -/
def shatErdosUptoRow : OpenClaim := { program := "ytkfbfgcflnkllaagreatdoor", sum := "5bb4ca91fc74beabf34320e64f494148026dd5e9c1f5c25f04238e0fcd2fea6d", func := "stadda/staddalaw08.ShatErdos", spec := "shatErdos", inPlace := ["math/bits.Add64", "math/bits.Sub64", "internal/abi.NoEscape", "internal/bytealg.MakeNoZero"], unfollowed := true, recurses := true, named := ["math/bits.divideError", "math/bits.overflowError", "internal/strconv.uint64pow10", "math/bits.deBruijn32tab", "math/bits.deBruijn64tab"], plainKeys := false, apart := false, laid := [("math/bits.deBruijn32tab", laid_math_bits_deBruijn32tab), ("math/bits.deBruijn64tab", laid_math_bits_deBruijn64tab), ("internal/strconv.uint64pow10", laid_internal_strconv_uint64pow10)], narrowed := true }
def ShatErdosUptoSaid : Prop := shatErdosUptoRow.holds Tryz.pinned (OpenSpec.upto shatErdosSpec)

/-- 'staddalaw08.ShatCrosses', WHERE WHAT IT READS IS OF BULK AT MOST 1048576: true; the input reads as it did. -/
def shatCrossesUptoRow : OpenClaim := { program := "ytkfbfgcflnkllaagreatdoor", sum := "5bb4ca91fc74beabf34320e64f494148026dd5e9c1f5c25f04238e0fcd2fea6d", func := "stadda/staddalaw08.ShatCrosses", spec := "shatCrosses", inPlace := ["math/bits.Add64", "math/bits.Sub64", "internal/abi.NoEscape", "internal/bytealg.MakeNoZero"], unfollowed := true, recurses := true, named := ["math/bits.divideError", "math/bits.overflowError", "internal/strconv.uint64pow10", "math/bits.deBruijn32tab", "math/bits.deBruijn64tab"], plainKeys := false, apart := false, laid := [("math/bits.deBruijn32tab", laid_math_bits_deBruijn32tab), ("math/bits.deBruijn64tab", laid_math_bits_deBruijn64tab), ("internal/strconv.uint64pow10", laid_internal_strconv_uint64pow10)], narrowed := true }
def ShatCrossesUptoSaid : Prop := shatCrossesUptoRow.holds Tryz.pinned (OpenSpec.upto shatCrossesSpec)

/-- 'staddalaw08.ShatChecks', WHERE WHAT IT READS IS OF BULK AT MOST 1048576: true; the input reads as it did. -/
def shatChecksUptoRow : OpenClaim := { program := "ytkfbfgcflnkllaagreatdoor", sum := "5bb4ca91fc74beabf34320e64f494148026dd5e9c1f5c25f04238e0fcd2fea6d", func := "stadda/staddalaw08.ShatChecks", spec := "shatChecks", inPlace := ["math/bits.Add64", "math/bits.Sub64", "internal/abi.NoEscape", "internal/bytealg.MakeNoZero"], unfollowed := true, recurses := true, named := ["math/bits.divideError", "math/bits.overflowError", "internal/strconv.uint64pow10", "math/bits.deBruijn32tab", "math/bits.deBruijn64tab"], plainKeys := false, apart := false, laid := [("math/bits.deBruijn32tab", laid_math_bits_deBruijn32tab), ("math/bits.deBruijn64tab", laid_math_bits_deBruijn64tab), ("internal/strconv.uint64pow10", laid_internal_strconv_uint64pow10)], narrowed := true }
def ShatChecksUptoSaid : Prop := shatChecksUptoRow.holds Tryz.pinned (OpenSpec.upto shatChecksSpec)

end Rows
end Go.Proofs.YtkfbfgcflnkllaaGreatDoor

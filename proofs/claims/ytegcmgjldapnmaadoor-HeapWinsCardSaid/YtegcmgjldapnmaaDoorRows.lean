/-
  NARROWER THAN 'FOR EVERY INPUT', by the rows' own cells (each row's printed sentence says how): HeapLeast: laid · HeapProducts: laid · HeapField: laid · HeapGraphs: laid · HeapPlays: laid · HeapPeriods: laid · HeapGoesOn: laid · HeapWins: laid.
  DERIVED. THE GIVEN ROWS OF THIS SEAT. 8 by the template 'for every input the law returns true; each argument reads behind the call as it read before'; 0 by the template 'total and deterministic' (their statements: YtegcmgjldapnmaaDoorTotals.lean).
  GIVEN WITH THE SEED: the statements are not yours to turn. If you find one false, say at which input.
  Laid BY PROGRAM, IN A SANDBOX (cutbox-rows.mjs): the forced cells as the released guide's own fill.sh prints them over the translation df6d5eb841b5b6a6… (all of the seat's roots in one cut). By AI agents, Wed Nov 11 2026. No macro, syntax, notation, axiom, sorry.
-/
import Derived.Test.YtegcmgjldapnmaaDoorChecked
import GoSem.PinnedTables
import GoSem.Claim
import GoSem.ClaimJoined
import GoSem.ClaimMapViews
import Derived.JoinedTies
import Derived.KernelRfl
namespace Go.Proofs.YtegcmgjldapnmaaDoor
/- THE CELL 'sum', in the pinned program and in every row, IS THE sha256 OF THE DUMP (.gsa) THAT YtegcmgjldapnmaaDoorProg.lean LOADS. Nothing in Lean hashes anything: it is a label: what it is worth is what the hold of that sum in a sandbox is worth. -/
noncomputable def Tryd.pinned : Pinned := { name := "ytegcmgjldapnmaadoor", sum := "df6d5eb841b5b6a68260d6afdde769828924df40c68f04d4390bcedc7d505a7d", checked := Tryd.checked }
namespace Rows
def none {H : Type} : Left H := { results := [], args := [] }

/- WHAT THE LISTED PACKAGE-LEVEL VARIABLES READ AS WHEN THE CALL BEGINS. Each datum BY PROGRAM (the guide's laid-datum.mjs) off the statement by which the dump's own 'gosem.cut.vars' lays the variable. In a bare row this is a premise. The card (YtegcmgjldapnmaaDoorCards.lean) ties it to the program's text. -/
def laid_unicode_utf8_acceptRanges {H : Type} : DataW H := .agg [.agg [.lit (.int .u8 128), .lit (.int .u8 191)], .agg [.lit (.int .u8 160), .lit (.int .u8 191)], .agg [.lit (.int .u8 128), .lit (.int .u8 159)], .agg [.lit (.int .u8 144), .lit (.int .u8 191)], .agg [.lit (.int .u8 128), .lit (.int .u8 143)], .agg [.lit (.int .u8 0), .lit (.int .u8 0)], .agg [.lit (.int .u8 0), .lit (.int .u8 0)], .agg [.lit (.int .u8 0), .lit (.int .u8 0)], .agg [.lit (.int .u8 0), .lit (.int .u8 0)], .agg [.lit (.int .u8 0), .lit (.int .u8 0)], .agg [.lit (.int .u8 0), .lit (.int .u8 0)], .agg [.lit (.int .u8 0), .lit (.int .u8 0)], .agg [.lit (.int .u8 0), .lit (.int .u8 0)], .agg [.lit (.int .u8 0), .lit (.int .u8 0)], .agg [.lit (.int .u8 0), .lit (.int .u8 0)], .agg [.lit (.int .u8 0), .lit (.int .u8 0)]]
/-- One of Go's own tables, pinned by name: the form's constant. -/
def laid_unicode_utf8_first : DataW Unit := Go.Pinned.utf8First

/-- 'staddalaw06.HeapLeast': WHATEVER THE INPUT: true; the input reads as it did. -/
def heapLeastSpec : ChangeSpec := { name := "heapLeast", fn := fun _ => fun
  | [d1, d2] => { results := [.lit (.bool true)], args := [d1, d2] }
  | _ => none }
def heapLeastRow : OpenClaim := { program := "ytegcmgjldapnmaadoor", sum := "df6d5eb841b5b6a68260d6afdde769828924df40c68f04d4390bcedc7d505a7d", func := "stadda/staddalaw06.HeapLeast", spec := "heapLeast", inPlace := ["internal/bytealg.IndexByteString", "internal/bytealg.IndexString"], unfollowed := true, recurses := true, named := ["unicode/utf8.first", "unicode/utf8.acceptRanges", "internal/bytealg.MaxLen"], apart := false, laid := [("unicode/utf8.acceptRanges", laid_unicode_utf8_acceptRanges), ("unicode/utf8.first", laid_unicode_utf8_first)] }
def HeapLeastSaid : Prop := heapLeastRow.holds Tryd.pinned (OpenSpec.ofChange heapLeastSpec)

/-- ITS FALSE NEIGHBOUR: 'it returns false'. Refute it at one input. -/
def heapLeastWrong : ChangeSpec := { name := "heapLeast", fn := fun _ => fun
  | [d1, d2] => { results := [.lit (.bool false)], args := [d1, d2] }
  | _ => none }
def HeapLeastWrongFalsely : Prop := heapLeastRow.holds Tryd.pinned (OpenSpec.ofChange heapLeastWrong)

/-- 'staddalaw06.HeapProducts': WHATEVER THE INPUT: true; the input reads as it did. -/
def heapProductsSpec : ChangeSpec := { name := "heapProducts", fn := fun _ => fun
  | [d1, d2, d3] => { results := [.lit (.bool true)], args := [d1, d2, d3] }
  | _ => none }
def heapProductsRow : OpenClaim := { program := "ytegcmgjldapnmaadoor", sum := "df6d5eb841b5b6a68260d6afdde769828924df40c68f04d4390bcedc7d505a7d", func := "stadda/staddalaw06.HeapProducts", spec := "heapProducts", inPlace := ["internal/bytealg.IndexByteString", "internal/bytealg.IndexString"], unfollowed := true, recurses := true, named := ["unicode/utf8.first", "unicode/utf8.acceptRanges", "internal/bytealg.MaxLen"], apart := false, laid := [("unicode/utf8.acceptRanges", laid_unicode_utf8_acceptRanges), ("unicode/utf8.first", laid_unicode_utf8_first)] }
def HeapProductsSaid : Prop := heapProductsRow.holds Tryd.pinned (OpenSpec.ofChange heapProductsSpec)

/-- ITS FALSE NEIGHBOUR: 'it returns false'. Refute it at one input. -/
def heapProductsWrong : ChangeSpec := { name := "heapProducts", fn := fun _ => fun
  | [d1, d2, d3] => { results := [.lit (.bool false)], args := [d1, d2, d3] }
  | _ => none }
def HeapProductsWrongFalsely : Prop := heapProductsRow.holds Tryd.pinned (OpenSpec.ofChange heapProductsWrong)

/-- 'staddalaw06.HeapField': WHATEVER THE INPUT: true; the input reads as it did. -/
def heapFieldSpec : ChangeSpec := { name := "heapField", fn := fun _ => fun
  | [d1, d2, d3] => { results := [.lit (.bool true)], args := [d1, d2, d3] }
  | _ => none }
def heapFieldRow : OpenClaim := { program := "ytegcmgjldapnmaadoor", sum := "df6d5eb841b5b6a68260d6afdde769828924df40c68f04d4390bcedc7d505a7d", func := "stadda/staddalaw06.HeapField", spec := "heapField", inPlace := ["internal/bytealg.IndexByteString", "internal/bytealg.IndexString"], unfollowed := true, recurses := true, named := ["unicode/utf8.first", "unicode/utf8.acceptRanges", "internal/bytealg.MaxLen"], apart := false, laid := [("unicode/utf8.acceptRanges", laid_unicode_utf8_acceptRanges), ("unicode/utf8.first", laid_unicode_utf8_first)] }
def HeapFieldSaid : Prop := heapFieldRow.holds Tryd.pinned (OpenSpec.ofChange heapFieldSpec)

/-- ITS FALSE NEIGHBOUR: 'it returns false'. Refute it at one input. -/
def heapFieldWrong : ChangeSpec := { name := "heapField", fn := fun _ => fun
  | [d1, d2, d3] => { results := [.lit (.bool false)], args := [d1, d2, d3] }
  | _ => none }
def HeapFieldWrongFalsely : Prop := heapFieldRow.holds Tryd.pinned (OpenSpec.ofChange heapFieldWrong)

/-- 'staddalaw06.HeapGraphs': WHATEVER THE INPUT: true; the input reads as it did. -/
def heapGraphsSpec : ChangeSpec := { name := "heapGraphs", fn := fun _ => fun
  | [d1, d2] => { results := [.lit (.bool true)], args := [d1, d2] }
  | _ => none }
def heapGraphsRow : OpenClaim := { program := "ytegcmgjldapnmaadoor", sum := "df6d5eb841b5b6a68260d6afdde769828924df40c68f04d4390bcedc7d505a7d", func := "stadda/staddalaw06.HeapGraphs", spec := "heapGraphs", inPlace := ["internal/bytealg.IndexByteString", "internal/bytealg.IndexString"], unfollowed := true, recurses := true, named := ["unicode/utf8.first", "unicode/utf8.acceptRanges", "internal/bytealg.MaxLen"], apart := false, laid := [("unicode/utf8.acceptRanges", laid_unicode_utf8_acceptRanges), ("unicode/utf8.first", laid_unicode_utf8_first)] }
def HeapGraphsSaid : Prop := heapGraphsRow.holds Tryd.pinned (OpenSpec.ofChange heapGraphsSpec)

/-- ITS FALSE NEIGHBOUR: 'it returns false'. Refute it at one input. -/
def heapGraphsWrong : ChangeSpec := { name := "heapGraphs", fn := fun _ => fun
  | [d1, d2] => { results := [.lit (.bool false)], args := [d1, d2] }
  | _ => none }
def HeapGraphsWrongFalsely : Prop := heapGraphsRow.holds Tryd.pinned (OpenSpec.ofChange heapGraphsWrong)

/-- 'staddalaw06.HeapPlays': WHATEVER THE INPUT: true; the input reads as it did. -/
def heapPlaysSpec : ChangeSpec := { name := "heapPlays", fn := fun _ => fun
  | [d] => { results := [.lit (.bool true)], args := [d] }
  | _ => none }
def heapPlaysRow : OpenClaim := { program := "ytegcmgjldapnmaadoor", sum := "df6d5eb841b5b6a68260d6afdde769828924df40c68f04d4390bcedc7d505a7d", func := "stadda/staddalaw06.HeapPlays", spec := "heapPlays", inPlace := ["internal/bytealg.IndexByteString", "internal/bytealg.IndexString"], unfollowed := true, recurses := true, named := ["unicode/utf8.first", "unicode/utf8.acceptRanges", "internal/bytealg.MaxLen"], apart := false, laid := [("unicode/utf8.acceptRanges", laid_unicode_utf8_acceptRanges), ("unicode/utf8.first", laid_unicode_utf8_first)] }
def HeapPlaysSaid : Prop := heapPlaysRow.holds Tryd.pinned (OpenSpec.ofChange heapPlaysSpec)

/-- ITS FALSE NEIGHBOUR: 'it returns false'. Refute it at one input. -/
def heapPlaysWrong : ChangeSpec := { name := "heapPlays", fn := fun _ => fun
  | [d] => { results := [.lit (.bool false)], args := [d] }
  | _ => none }
def HeapPlaysWrongFalsely : Prop := heapPlaysRow.holds Tryd.pinned (OpenSpec.ofChange heapPlaysWrong)

/-- 'staddalaw06.HeapPeriods': WHATEVER THE INPUT: true; the input reads as it did. -/
def heapPeriodsSpec : ChangeSpec := { name := "heapPeriods", fn := fun _ => fun
  | [d1, d2, d3] => { results := [.lit (.bool true)], args := [d1, d2, d3] }
  | _ => none }
def heapPeriodsRow : OpenClaim := { program := "ytegcmgjldapnmaadoor", sum := "df6d5eb841b5b6a68260d6afdde769828924df40c68f04d4390bcedc7d505a7d", func := "stadda/staddalaw06.HeapPeriods", spec := "heapPeriods", inPlace := ["internal/bytealg.IndexByteString", "internal/bytealg.IndexString"], unfollowed := true, recurses := true, named := ["unicode/utf8.first", "unicode/utf8.acceptRanges", "internal/bytealg.MaxLen"], apart := false, laid := [("unicode/utf8.acceptRanges", laid_unicode_utf8_acceptRanges), ("unicode/utf8.first", laid_unicode_utf8_first)] }
def HeapPeriodsSaid : Prop := heapPeriodsRow.holds Tryd.pinned (OpenSpec.ofChange heapPeriodsSpec)

/-- ITS FALSE NEIGHBOUR: 'it returns false'. Refute it at one input. -/
def heapPeriodsWrong : ChangeSpec := { name := "heapPeriods", fn := fun _ => fun
  | [d1, d2, d3] => { results := [.lit (.bool false)], args := [d1, d2, d3] }
  | _ => none }
def HeapPeriodsWrongFalsely : Prop := heapPeriodsRow.holds Tryd.pinned (OpenSpec.ofChange heapPeriodsWrong)

/-- 'staddalaw06.HeapGoesOn': WHATEVER THE INPUT: true; the input reads as it did. -/
def heapGoesOnSpec : ChangeSpec := { name := "heapGoesOn", fn := fun _ => fun
  | [d1, d2] => { results := [.lit (.bool true)], args := [d1, d2] }
  | _ => none }
def heapGoesOnRow : OpenClaim := { program := "ytegcmgjldapnmaadoor", sum := "df6d5eb841b5b6a68260d6afdde769828924df40c68f04d4390bcedc7d505a7d", func := "stadda/staddalaw06.HeapGoesOn", spec := "heapGoesOn", inPlace := ["internal/bytealg.IndexByteString", "internal/bytealg.IndexString"], unfollowed := true, recurses := true, named := ["unicode/utf8.first", "unicode/utf8.acceptRanges", "internal/bytealg.MaxLen"], apart := false, laid := [("unicode/utf8.acceptRanges", laid_unicode_utf8_acceptRanges), ("unicode/utf8.first", laid_unicode_utf8_first)] }
def HeapGoesOnSaid : Prop := heapGoesOnRow.holds Tryd.pinned (OpenSpec.ofChange heapGoesOnSpec)

/-- ITS FALSE NEIGHBOUR: 'it returns false'. Refute it at one input. -/
def heapGoesOnWrong : ChangeSpec := { name := "heapGoesOn", fn := fun _ => fun
  | [d1, d2] => { results := [.lit (.bool false)], args := [d1, d2] }
  | _ => none }
def HeapGoesOnWrongFalsely : Prop := heapGoesOnRow.holds Tryd.pinned (OpenSpec.ofChange heapGoesOnWrong)

/-- 'staddalaw06.HeapWins': WHATEVER THE INPUT: true; the input reads as it did. -/
def heapWinsSpec : ChangeSpec := { name := "heapWins", fn := fun _ => fun
  | [d1, d2] => { results := [.lit (.bool true)], args := [d1, d2] }
  | _ => none }
def heapWinsRow : OpenClaim := { program := "ytegcmgjldapnmaadoor", sum := "df6d5eb841b5b6a68260d6afdde769828924df40c68f04d4390bcedc7d505a7d", func := "stadda/staddalaw06.HeapWins", spec := "heapWins", inPlace := ["internal/bytealg.IndexByteString", "internal/bytealg.IndexString"], unfollowed := true, recurses := true, named := ["unicode/utf8.first", "unicode/utf8.acceptRanges", "internal/bytealg.MaxLen"], apart := false, laid := [("unicode/utf8.acceptRanges", laid_unicode_utf8_acceptRanges), ("unicode/utf8.first", laid_unicode_utf8_first)] }
def HeapWinsSaid : Prop := heapWinsRow.holds Tryd.pinned (OpenSpec.ofChange heapWinsSpec)

/-- ITS FALSE NEIGHBOUR: 'it returns false'. Refute it at one input. -/
def heapWinsWrong : ChangeSpec := { name := "heapWins", fn := fun _ => fun
  | [d1, d2] => { results := [.lit (.bool false)], args := [d1, d2] }
  | _ => none }
def HeapWinsWrongFalsely : Prop := heapWinsRow.holds Tryd.pinned (OpenSpec.ofChange heapWinsWrong)

/- THE SECOND FORM. 'bulk': how many values and letters a reading holds, each counted each time it is reached (what is shared counts as often as it is met; a slice's spare places count too). A statement '..UptoSaid' is the law's where the arguments, and the package variables that the reading takes, are together of bulk at most 1048576: NARROWER than '..Said'. Prove '..Said' where nothing that the law and all that it calls make is longer than what came in: it says more and counts as full. Else prove '..UptoSaid'. A law counts once. -/
mutual
def uptoBulk {H : Type} : DataW H → Nat
  | .lit (.string bytes) => bytes.length + 1
  | .lit _ => 1
  | .nil => 1
  | .ptr d => uptoBulk d + 1
  | .slice elems spare => uptoBulkAll elems + uptoBulkAll spare + 1
  | .agg parts => uptoBulkAll parts + 1
  | .iface _ d => uptoBulk d + 1
  | .map entries => uptoBulkEntries entries + 1
  | .held _ => 1
def uptoBulkAll {H : Type} : List (DataW H) → Nat
  | [] => 0
  | d :: r => uptoBulk d + uptoBulkAll r
def uptoBulkEntries {H : Type} : List (Lit × DataW H) → Nat
  | [] => 0
  | x :: r => uptoBulkEntry x + uptoBulkEntries r
def uptoBulkEntry {H : Type} : Lit × DataW H → Nat
  | (.string bytes, d) => bytes.length + uptoBulk d + 1
  | (_, d) => uptoBulk d + 1
 end
def uptoSmall : (H : Type) → List (DataW H) → Bool := fun _ ds => decide (uptoBulkAll ds ≤ 1048576)
def OpenSpec.upto (s : _root_.Go.ChangeSpec) : _root_.Go.OpenSpec := { _root_.Go.OpenSpec.ofChange s with cond := some uptoSmall }

/-- 'staddalaw06.HeapLeast', WHERE WHAT IT READS IS OF BULK AT MOST 1048576: true; the input reads as it did. -/
def heapLeastUptoRow : OpenClaim := { program := "ytegcmgjldapnmaadoor", sum := "df6d5eb841b5b6a68260d6afdde769828924df40c68f04d4390bcedc7d505a7d", func := "stadda/staddalaw06.HeapLeast", spec := "heapLeast", inPlace := ["internal/bytealg.IndexByteString", "internal/bytealg.IndexString"], unfollowed := true, recurses := true, named := ["unicode/utf8.first", "unicode/utf8.acceptRanges", "internal/bytealg.MaxLen"], apart := false, laid := [("unicode/utf8.acceptRanges", laid_unicode_utf8_acceptRanges), ("unicode/utf8.first", laid_unicode_utf8_first)], narrowed := true }
def HeapLeastUptoSaid : Prop := heapLeastUptoRow.holds Tryd.pinned (OpenSpec.upto heapLeastSpec)

/-- 'staddalaw06.HeapProducts', WHERE WHAT IT READS IS OF BULK AT MOST 1048576: true; the input reads as it did. -/
def heapProductsUptoRow : OpenClaim := { program := "ytegcmgjldapnmaadoor", sum := "df6d5eb841b5b6a68260d6afdde769828924df40c68f04d4390bcedc7d505a7d", func := "stadda/staddalaw06.HeapProducts", spec := "heapProducts", inPlace := ["internal/bytealg.IndexByteString", "internal/bytealg.IndexString"], unfollowed := true, recurses := true, named := ["unicode/utf8.first", "unicode/utf8.acceptRanges", "internal/bytealg.MaxLen"], apart := false, laid := [("unicode/utf8.acceptRanges", laid_unicode_utf8_acceptRanges), ("unicode/utf8.first", laid_unicode_utf8_first)], narrowed := true }
def HeapProductsUptoSaid : Prop := heapProductsUptoRow.holds Tryd.pinned (OpenSpec.upto heapProductsSpec)

/-- 'staddalaw06.HeapField', WHERE WHAT IT READS IS OF BULK AT MOST 1048576: true; the input reads as it did. -/
def heapFieldUptoRow : OpenClaim := { program := "ytegcmgjldapnmaadoor", sum := "df6d5eb841b5b6a68260d6afdde769828924df40c68f04d4390bcedc7d505a7d", func := "stadda/staddalaw06.HeapField", spec := "heapField", inPlace := ["internal/bytealg.IndexByteString", "internal/bytealg.IndexString"], unfollowed := true, recurses := true, named := ["unicode/utf8.first", "unicode/utf8.acceptRanges", "internal/bytealg.MaxLen"], apart := false, laid := [("unicode/utf8.acceptRanges", laid_unicode_utf8_acceptRanges), ("unicode/utf8.first", laid_unicode_utf8_first)], narrowed := true }
def HeapFieldUptoSaid : Prop := heapFieldUptoRow.holds Tryd.pinned (OpenSpec.upto heapFieldSpec)

/-- 'staddalaw06.HeapGraphs', WHERE WHAT IT READS IS OF BULK AT MOST 1048576: true; the input reads as it did. -/
def heapGraphsUptoRow : OpenClaim := { program := "ytegcmgjldapnmaadoor", sum := "df6d5eb841b5b6a68260d6afdde769828924df40c68f04d4390bcedc7d505a7d", func := "stadda/staddalaw06.HeapGraphs", spec := "heapGraphs", inPlace := ["internal/bytealg.IndexByteString", "internal/bytealg.IndexString"], unfollowed := true, recurses := true, named := ["unicode/utf8.first", "unicode/utf8.acceptRanges", "internal/bytealg.MaxLen"], apart := false, laid := [("unicode/utf8.acceptRanges", laid_unicode_utf8_acceptRanges), ("unicode/utf8.first", laid_unicode_utf8_first)], narrowed := true }
def HeapGraphsUptoSaid : Prop := heapGraphsUptoRow.holds Tryd.pinned (OpenSpec.upto heapGraphsSpec)

/-- 'staddalaw06.HeapPlays', WHERE WHAT IT READS IS OF BULK AT MOST 1048576: true; the input reads as it did. -/
def heapPlaysUptoRow : OpenClaim := { program := "ytegcmgjldapnmaadoor", sum := "df6d5eb841b5b6a68260d6afdde769828924df40c68f04d4390bcedc7d505a7d", func := "stadda/staddalaw06.HeapPlays", spec := "heapPlays", inPlace := ["internal/bytealg.IndexByteString", "internal/bytealg.IndexString"], unfollowed := true, recurses := true, named := ["unicode/utf8.first", "unicode/utf8.acceptRanges", "internal/bytealg.MaxLen"], apart := false, laid := [("unicode/utf8.acceptRanges", laid_unicode_utf8_acceptRanges), ("unicode/utf8.first", laid_unicode_utf8_first)], narrowed := true }
def HeapPlaysUptoSaid : Prop := heapPlaysUptoRow.holds Tryd.pinned (OpenSpec.upto heapPlaysSpec)

/-- 'staddalaw06.HeapPeriods', WHERE WHAT IT READS IS OF BULK AT MOST 1048576: true; the input reads as it did. -/
def heapPeriodsUptoRow : OpenClaim := { program := "ytegcmgjldapnmaadoor", sum := "df6d5eb841b5b6a68260d6afdde769828924df40c68f04d4390bcedc7d505a7d", func := "stadda/staddalaw06.HeapPeriods", spec := "heapPeriods", inPlace := ["internal/bytealg.IndexByteString", "internal/bytealg.IndexString"], unfollowed := true, recurses := true, named := ["unicode/utf8.first", "unicode/utf8.acceptRanges", "internal/bytealg.MaxLen"], apart := false, laid := [("unicode/utf8.acceptRanges", laid_unicode_utf8_acceptRanges), ("unicode/utf8.first", laid_unicode_utf8_first)], narrowed := true }
def HeapPeriodsUptoSaid : Prop := heapPeriodsUptoRow.holds Tryd.pinned (OpenSpec.upto heapPeriodsSpec)

/-- 'staddalaw06.HeapGoesOn', WHERE WHAT IT READS IS OF BULK AT MOST 1048576: true; the input reads as it did. -/
def heapGoesOnUptoRow : OpenClaim := { program := "ytegcmgjldapnmaadoor", sum := "df6d5eb841b5b6a68260d6afdde769828924df40c68f04d4390bcedc7d505a7d", func := "stadda/staddalaw06.HeapGoesOn", spec := "heapGoesOn", inPlace := ["internal/bytealg.IndexByteString", "internal/bytealg.IndexString"], unfollowed := true, recurses := true, named := ["unicode/utf8.first", "unicode/utf8.acceptRanges", "internal/bytealg.MaxLen"], apart := false, laid := [("unicode/utf8.acceptRanges", laid_unicode_utf8_acceptRanges), ("unicode/utf8.first", laid_unicode_utf8_first)], narrowed := true }
def HeapGoesOnUptoSaid : Prop := heapGoesOnUptoRow.holds Tryd.pinned (OpenSpec.upto heapGoesOnSpec)

/-- 'staddalaw06.HeapWins', WHERE WHAT IT READS IS OF BULK AT MOST 1048576: true; the input reads as it did. -/
def heapWinsUptoRow : OpenClaim := { program := "ytegcmgjldapnmaadoor", sum := "df6d5eb841b5b6a68260d6afdde769828924df40c68f04d4390bcedc7d505a7d", func := "stadda/staddalaw06.HeapWins", spec := "heapWins", inPlace := ["internal/bytealg.IndexByteString", "internal/bytealg.IndexString"], unfollowed := true, recurses := true, named := ["unicode/utf8.first", "unicode/utf8.acceptRanges", "internal/bytealg.MaxLen"], apart := false, laid := [("unicode/utf8.acceptRanges", laid_unicode_utf8_acceptRanges), ("unicode/utf8.first", laid_unicode_utf8_first)], narrowed := true }
def HeapWinsUptoSaid : Prop := heapWinsUptoRow.holds Tryd.pinned (OpenSpec.upto heapWinsSpec)

end Rows
end Go.Proofs.YtegcmgjldapnmaaDoor

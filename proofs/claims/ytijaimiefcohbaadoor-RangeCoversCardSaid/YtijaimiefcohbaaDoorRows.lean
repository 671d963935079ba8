/-
  NARROWER THAN 'FOR EVERY INPUT', by the rows' own cells (each row's printed sentence says how): RangeCovers: laid · RangeExact: laid · RangeMerges: laid · RangeSays: laid · RangeOwn: laid · RangeRows: laid · RangeTurned: laid · RangeWhole: laid.
  DERIVED. THE GIVEN ROWS OF THIS SEAT. 8 by the template 'for every input the law returns true; each argument reads behind the call as it read before'; 0 by the template 'total and deterministic' (their statements: YtijaimiefcohbaaDoorTotals.lean).
  GIVEN WITH THE SEED: the statements are not yours to turn. If you find one false, say at which input.
  Laid BY PROGRAM, IN A SANDBOX (cutbox-rows.mjs): the forced cells as the released guide's own fill.sh prints them over the translation 3b9b100979bfe640… (all of the seat's roots in one cut). By AI agents, Wed Nov 11 2026. No macro, syntax, notation, axiom, sorry.
-/
import Derived.Test.YtijaimiefcohbaaDoorChecked
import GoSem.Claim
import GoSem.ClaimJoined
import GoSem.ClaimMapViews
import Derived.JoinedTies
import Derived.KernelRfl
namespace Go.Proofs.YtijaimiefcohbaaDoor
/- THE CELL 'sum', in the pinned program and in every row, IS THE sha256 OF THE DUMP (.gsa) THAT YtijaimiefcohbaaDoorProg.lean LOADS. Nothing in Lean hashes anything: it is a label: what it is worth is what the hold of that sum in a sandbox is worth. -/
noncomputable def Tryd.pinned : Pinned := { name := "ytijaimiefcohbaadoor", sum := "3b9b100979bfe640a8446e587df4cf691e074cdf15d81f0b40f199dc03ca9624", checked := Tryd.checked }
namespace Rows
def none {H : Type} : Left H := { results := [], args := [] }

/- WHAT THE LISTED PACKAGE-LEVEL VARIABLES READ AS WHEN THE CALL BEGINS. Each datum BY PROGRAM (the guide's laid-datum.mjs) off the statement by which the dump's own 'gosem.cut.vars' lays the variable. In a bare row this is a premise. The card (YtijaimiefcohbaaDoorCards.lean) ties it to the program's text. -/
def laid_math_bits_deBruijn64tab {H : Type} : DataW H := .agg [.lit (.int .u8 0), .lit (.int .u8 1), .lit (.int .u8 56), .lit (.int .u8 2), .lit (.int .u8 57), .lit (.int .u8 49), .lit (.int .u8 28), .lit (.int .u8 3), .lit (.int .u8 61), .lit (.int .u8 58), .lit (.int .u8 42), .lit (.int .u8 50), .lit (.int .u8 38), .lit (.int .u8 29), .lit (.int .u8 17), .lit (.int .u8 4), .lit (.int .u8 62), .lit (.int .u8 47), .lit (.int .u8 59), .lit (.int .u8 36), .lit (.int .u8 45), .lit (.int .u8 43), .lit (.int .u8 51), .lit (.int .u8 22), .lit (.int .u8 53), .lit (.int .u8 39), .lit (.int .u8 33), .lit (.int .u8 30), .lit (.int .u8 24), .lit (.int .u8 18), .lit (.int .u8 12), .lit (.int .u8 5), .lit (.int .u8 63), .lit (.int .u8 55), .lit (.int .u8 48), .lit (.int .u8 27), .lit (.int .u8 60), .lit (.int .u8 41), .lit (.int .u8 37), .lit (.int .u8 16), .lit (.int .u8 46), .lit (.int .u8 35), .lit (.int .u8 44), .lit (.int .u8 21), .lit (.int .u8 52), .lit (.int .u8 32), .lit (.int .u8 23), .lit (.int .u8 11), .lit (.int .u8 54), .lit (.int .u8 26), .lit (.int .u8 40), .lit (.int .u8 15), .lit (.int .u8 34), .lit (.int .u8 20), .lit (.int .u8 31), .lit (.int .u8 10), .lit (.int .u8 25), .lit (.int .u8 14), .lit (.int .u8 19), .lit (.int .u8 9), .lit (.int .u8 13), .lit (.int .u8 8), .lit (.int .u8 7), .lit (.int .u8 6)]

/-- 'turnpikelaw4.RangeCovers': WHATEVER THE INPUT: true; the input reads as it did. -/
def rangeCoversSpec : ChangeSpec := { name := "rangeCovers", fn := fun _ => fun
  | [d1, d2, d3] => { results := [.lit (.bool true)], args := [d1, d2, d3] }
  | _ => none }
def rangeCoversRow : OpenClaim := { program := "ytijaimiefcohbaadoor", sum := "3b9b100979bfe640a8446e587df4cf691e074cdf15d81f0b40f199dc03ca9624", func := "turnpike/turnpikelaw4.RangeCovers", spec := "rangeCovers", inPlace := ["math/bits.Add64"], named := ["math/bits.deBruijn64tab"], apart := false, laid := [("math/bits.deBruijn64tab", laid_math_bits_deBruijn64tab)] }
def RangeCoversSaid : Prop := rangeCoversRow.holds Tryd.pinned (OpenSpec.ofChange rangeCoversSpec)

/-- ITS FALSE NEIGHBOUR: 'it returns false'. Refute it at one input. -/
def rangeCoversWrong : ChangeSpec := { name := "rangeCovers", fn := fun _ => fun
  | [d1, d2, d3] => { results := [.lit (.bool false)], args := [d1, d2, d3] }
  | _ => none }
def RangeCoversWrongFalsely : Prop := rangeCoversRow.holds Tryd.pinned (OpenSpec.ofChange rangeCoversWrong)

/-- 'turnpikelaw4.RangeExact': WHATEVER THE INPUT: true; the input reads as it did. -/
def rangeExactSpec : ChangeSpec := { name := "rangeExact", fn := fun _ => fun
  | [d1, d2, d3] => { results := [.lit (.bool true)], args := [d1, d2, d3] }
  | _ => none }
def rangeExactRow : OpenClaim := { program := "ytijaimiefcohbaadoor", sum := "3b9b100979bfe640a8446e587df4cf691e074cdf15d81f0b40f199dc03ca9624", func := "turnpike/turnpikelaw4.RangeExact", spec := "rangeExact", inPlace := ["math/bits.Add64"], named := ["math/bits.deBruijn64tab"], apart := false, laid := [("math/bits.deBruijn64tab", laid_math_bits_deBruijn64tab)] }
def RangeExactSaid : Prop := rangeExactRow.holds Tryd.pinned (OpenSpec.ofChange rangeExactSpec)

/-- ITS FALSE NEIGHBOUR: 'it returns false'. Refute it at one input. -/
def rangeExactWrong : ChangeSpec := { name := "rangeExact", fn := fun _ => fun
  | [d1, d2, d3] => { results := [.lit (.bool false)], args := [d1, d2, d3] }
  | _ => none }
def RangeExactWrongFalsely : Prop := rangeExactRow.holds Tryd.pinned (OpenSpec.ofChange rangeExactWrong)

/-- 'turnpikelaw4.RangeMerges': WHATEVER THE INPUT: true; the input reads as it did. -/
def rangeMergesSpec : ChangeSpec := { name := "rangeMerges", fn := fun _ => fun
  | [d1, d2] => { results := [.lit (.bool true)], args := [d1, d2] }
  | _ => none }
def rangeMergesRow : OpenClaim := { program := "ytijaimiefcohbaadoor", sum := "3b9b100979bfe640a8446e587df4cf691e074cdf15d81f0b40f199dc03ca9624", func := "turnpike/turnpikelaw4.RangeMerges", spec := "rangeMerges", inPlace := ["math/bits.Add64"], unfollowed := true, recurses := true, named := ["math/bits.deBruijn64tab"], apart := false, laid := [("math/bits.deBruijn64tab", laid_math_bits_deBruijn64tab)] }
def RangeMergesSaid : Prop := rangeMergesRow.holds Tryd.pinned (OpenSpec.ofChange rangeMergesSpec)

/-- ITS FALSE NEIGHBOUR: 'it returns false'. Refute it at one input. -/
def rangeMergesWrong : ChangeSpec := { name := "rangeMerges", fn := fun _ => fun
  | [d1, d2] => { results := [.lit (.bool false)], args := [d1, d2] }
  | _ => none }
def RangeMergesWrongFalsely : Prop := rangeMergesRow.holds Tryd.pinned (OpenSpec.ofChange rangeMergesWrong)

/-- 'turnpikelaw4.RangeSays': WHATEVER THE INPUT: true; the input reads as it did. -/
def rangeSaysSpec : ChangeSpec := { name := "rangeSays", fn := fun _ => fun
  | [d1, d2, d3] => { results := [.lit (.bool true)], args := [d1, d2, d3] }
  | _ => none }
def rangeSaysRow : OpenClaim := { program := "ytijaimiefcohbaadoor", sum := "3b9b100979bfe640a8446e587df4cf691e074cdf15d81f0b40f199dc03ca9624", func := "turnpike/turnpikelaw4.RangeSays", spec := "rangeSays", inPlace := ["math/bits.Add64"], unfollowed := true, recurses := true, named := ["math/bits.deBruijn64tab"], apart := false, laid := [("math/bits.deBruijn64tab", laid_math_bits_deBruijn64tab)] }
def RangeSaysSaid : Prop := rangeSaysRow.holds Tryd.pinned (OpenSpec.ofChange rangeSaysSpec)

/-- ITS FALSE NEIGHBOUR: 'it returns false'. Refute it at one input. -/
def rangeSaysWrong : ChangeSpec := { name := "rangeSays", fn := fun _ => fun
  | [d1, d2, d3] => { results := [.lit (.bool false)], args := [d1, d2, d3] }
  | _ => none }
def RangeSaysWrongFalsely : Prop := rangeSaysRow.holds Tryd.pinned (OpenSpec.ofChange rangeSaysWrong)

/-- 'turnpikelaw4.RangeOwn': WHATEVER THE INPUT: true; the input reads as it did. -/
def rangeOwnSpec : ChangeSpec := { name := "rangeOwn", fn := fun _ => fun
  | [d1, d2] => { results := [.lit (.bool true)], args := [d1, d2] }
  | _ => none }
def rangeOwnRow : OpenClaim := { program := "ytijaimiefcohbaadoor", sum := "3b9b100979bfe640a8446e587df4cf691e074cdf15d81f0b40f199dc03ca9624", func := "turnpike/turnpikelaw4.RangeOwn", spec := "rangeOwn", inPlace := ["math/bits.Add64"], unfollowed := true, recurses := true, named := ["math/bits.deBruijn64tab"], apart := false, laid := [("math/bits.deBruijn64tab", laid_math_bits_deBruijn64tab)] }
def RangeOwnSaid : Prop := rangeOwnRow.holds Tryd.pinned (OpenSpec.ofChange rangeOwnSpec)

/-- ITS FALSE NEIGHBOUR: 'it returns false'. Refute it at one input. -/
def rangeOwnWrong : ChangeSpec := { name := "rangeOwn", fn := fun _ => fun
  | [d1, d2] => { results := [.lit (.bool false)], args := [d1, d2] }
  | _ => none }
def RangeOwnWrongFalsely : Prop := rangeOwnRow.holds Tryd.pinned (OpenSpec.ofChange rangeOwnWrong)

/-- 'turnpikelaw4.RangeRows': WHATEVER THE INPUT: true; the input reads as it did. -/
def rangeRowsSpec : ChangeSpec := { name := "rangeRows", fn := fun _ => fun
  | [d1, d2] => { results := [.lit (.bool true)], args := [d1, d2] }
  | _ => none }
def rangeRowsRow : OpenClaim := { program := "ytijaimiefcohbaadoor", sum := "3b9b100979bfe640a8446e587df4cf691e074cdf15d81f0b40f199dc03ca9624", func := "turnpike/turnpikelaw4.RangeRows", spec := "rangeRows", inPlace := ["math/bits.Add64", "math/bits.Sub64"], unfollowed := true, recurses := true, named := ["math/bits.deBruijn64tab"], apart := false, laid := [("math/bits.deBruijn64tab", laid_math_bits_deBruijn64tab)] }
def RangeRowsSaid : Prop := rangeRowsRow.holds Tryd.pinned (OpenSpec.ofChange rangeRowsSpec)

/-- ITS FALSE NEIGHBOUR: 'it returns false'. Refute it at one input. -/
def rangeRowsWrong : ChangeSpec := { name := "rangeRows", fn := fun _ => fun
  | [d1, d2] => { results := [.lit (.bool false)], args := [d1, d2] }
  | _ => none }
def RangeRowsWrongFalsely : Prop := rangeRowsRow.holds Tryd.pinned (OpenSpec.ofChange rangeRowsWrong)

/-- 'turnpikelaw4.RangeTurned': WHATEVER THE INPUT: true; the input reads as it did. -/
def rangeTurnedSpec : ChangeSpec := { name := "rangeTurned", fn := fun _ => fun
  | [d1, d2, d3] => { results := [.lit (.bool true)], args := [d1, d2, d3] }
  | _ => none }
def rangeTurnedRow : OpenClaim := { program := "ytijaimiefcohbaadoor", sum := "3b9b100979bfe640a8446e587df4cf691e074cdf15d81f0b40f199dc03ca9624", func := "turnpike/turnpikelaw4.RangeTurned", spec := "rangeTurned", inPlace := ["math/bits.Add64", "math/bits.Sub64"], unfollowed := true, recurses := true, named := ["math/bits.deBruijn64tab"], apart := false, laid := [("math/bits.deBruijn64tab", laid_math_bits_deBruijn64tab)] }
def RangeTurnedSaid : Prop := rangeTurnedRow.holds Tryd.pinned (OpenSpec.ofChange rangeTurnedSpec)

/-- ITS FALSE NEIGHBOUR: 'it returns false'. Refute it at one input. -/
def rangeTurnedWrong : ChangeSpec := { name := "rangeTurned", fn := fun _ => fun
  | [d1, d2, d3] => { results := [.lit (.bool false)], args := [d1, d2, d3] }
  | _ => none }
def RangeTurnedWrongFalsely : Prop := rangeTurnedRow.holds Tryd.pinned (OpenSpec.ofChange rangeTurnedWrong)

/-- 'turnpikelaw4.RangeWhole': WHATEVER THE INPUT: true; the input reads as it did. -/
def rangeWholeSpec : ChangeSpec := { name := "rangeWhole", fn := fun _ => fun
  | [d1, d2] => { results := [.lit (.bool true)], args := [d1, d2] }
  | _ => none }
def rangeWholeRow : OpenClaim := { program := "ytijaimiefcohbaadoor", sum := "3b9b100979bfe640a8446e587df4cf691e074cdf15d81f0b40f199dc03ca9624", func := "turnpike/turnpikelaw4.RangeWhole", spec := "rangeWhole", inPlace := ["math/bits.Add64", "math/bits.Sub64"], unfollowed := true, recurses := true, named := ["math/bits.deBruijn64tab"], apart := false, laid := [("math/bits.deBruijn64tab", laid_math_bits_deBruijn64tab)] }
def RangeWholeSaid : Prop := rangeWholeRow.holds Tryd.pinned (OpenSpec.ofChange rangeWholeSpec)

/-- ITS FALSE NEIGHBOUR: 'it returns false'. Refute it at one input. -/
def rangeWholeWrong : ChangeSpec := { name := "rangeWhole", fn := fun _ => fun
  | [d1, d2] => { results := [.lit (.bool false)], args := [d1, d2] }
  | _ => none }
def RangeWholeWrongFalsely : Prop := rangeWholeRow.holds Tryd.pinned (OpenSpec.ofChange rangeWholeWrong)

/- THE SECOND FORM. 'bulk': how many values and letters a reading holds, each counted each time it is reached (what is shared counts as often as it is met; a slice's spare places count too). A statement '..UptoSaid' is the law's where the arguments, and the package variables that the reading takes, are together of bulk at most 1048576: NARROWER than '..Said'. Prove '..Said' where nothing that the law and all that it calls make is longer than what came in: it says more and counts as full. Else prove '..UptoSaid'. A law counts once. -/
mutual
def uptoBulk {H : Type} : DataW H → Nat
  | .lit (.string bytes) => bytes.length + 1
  | .lit _ => 1
  | .nil => 1
  | .ptr d => uptoBulk d + 1
  | .slice elems spare => uptoBulkAll elems + uptoBulkAll spare + 1
  | .agg parts => uptoBulkAll parts + 1
  | .iface _ d => uptoBulk d + 1
  | .map entries => uptoBulkEntries entries + 1
  | .held _ => 1
def uptoBulkAll {H : Type} : List (DataW H) → Nat
  | [] => 0
  | d :: r => uptoBulk d + uptoBulkAll r
def uptoBulkEntries {H : Type} : List (Lit × DataW H) → Nat
  | [] => 0
  | x :: r => uptoBulkEntry x + uptoBulkEntries r
def uptoBulkEntry {H : Type} : Lit × DataW H → Nat
  | (.string bytes, d) => bytes.length + uptoBulk d + 1
  | (_, d) => uptoBulk d + 1
 end
def uptoSmall : (H : Type) → List (DataW H) → Bool := fun _ ds => decide (uptoBulkAll ds ≤ 1048576)
def OpenSpec.upto (s : _root_.Go.ChangeSpec) : _root_.Go.OpenSpec := { _root_.Go.OpenSpec.ofChange s with cond := some uptoSmall }

/-- 'turnpikelaw4.RangeCovers', WHERE WHAT IT READS IS OF BULK AT MOST 1048576: true; the input reads as it did. -/
def rangeCoversUptoRow : OpenClaim := { program := "ytijaimiefcohbaadoor", sum := "3b9b100979bfe640a8446e587df4cf691e074cdf15d81f0b40f199dc03ca9624", func := "turnpike/turnpikelaw4.RangeCovers", spec := "rangeCovers", inPlace := ["math/bits.Add64"], named := ["math/bits.deBruijn64tab"], apart := false, laid := [("math/bits.deBruijn64tab", laid_math_bits_deBruijn64tab)], narrowed := true }
def RangeCoversUptoSaid : Prop := rangeCoversUptoRow.holds Tryd.pinned (OpenSpec.upto rangeCoversSpec)

/-- 'turnpikelaw4.RangeExact', WHERE WHAT IT READS IS OF BULK AT MOST 1048576: true; the input reads as it did. -/
def rangeExactUptoRow : OpenClaim := { program := "ytijaimiefcohbaadoor", sum := "3b9b100979bfe640a8446e587df4cf691e074cdf15d81f0b40f199dc03ca9624", func := "turnpike/turnpikelaw4.RangeExact", spec := "rangeExact", inPlace := ["math/bits.Add64"], named := ["math/bits.deBruijn64tab"], apart := false, laid := [("math/bits.deBruijn64tab", laid_math_bits_deBruijn64tab)], narrowed := true }
def RangeExactUptoSaid : Prop := rangeExactUptoRow.holds Tryd.pinned (OpenSpec.upto rangeExactSpec)

/-- 'turnpikelaw4.RangeMerges', WHERE WHAT IT READS IS OF BULK AT MOST 1048576: true; the input reads as it did. -/
def rangeMergesUptoRow : OpenClaim := { program := "ytijaimiefcohbaadoor", sum := "3b9b100979bfe640a8446e587df4cf691e074cdf15d81f0b40f199dc03ca9624", func := "turnpike/turnpikelaw4.RangeMerges", spec := "rangeMerges", inPlace := ["math/bits.Add64"], unfollowed := true, recurses := true, named := ["math/bits.deBruijn64tab"], apart := false, laid := [("math/bits.deBruijn64tab", laid_math_bits_deBruijn64tab)], narrowed := true }
def RangeMergesUptoSaid : Prop := rangeMergesUptoRow.holds Tryd.pinned (OpenSpec.upto rangeMergesSpec)

/-- 'turnpikelaw4.RangeSays', WHERE WHAT IT READS IS OF BULK AT MOST 1048576: true; the input reads as it did. -/
def rangeSaysUptoRow : OpenClaim := { program := "ytijaimiefcohbaadoor", sum := "3b9b100979bfe640a8446e587df4cf691e074cdf15d81f0b40f199dc03ca9624", func := "turnpike/turnpikelaw4.RangeSays", spec := "rangeSays", inPlace := ["math/bits.Add64"], unfollowed := true, recurses := true, named := ["math/bits.deBruijn64tab"], apart := false, laid := [("math/bits.deBruijn64tab", laid_math_bits_deBruijn64tab)], narrowed := true }
def RangeSaysUptoSaid : Prop := rangeSaysUptoRow.holds Tryd.pinned (OpenSpec.upto rangeSaysSpec)

/-- 'turnpikelaw4.RangeOwn', WHERE WHAT IT READS IS OF BULK AT MOST 1048576: true; the input reads as it did. -/
def rangeOwnUptoRow : OpenClaim := { program := "ytijaimiefcohbaadoor", sum := "3b9b100979bfe640a8446e587df4cf691e074cdf15d81f0b40f199dc03ca9624", func := "turnpike/turnpikelaw4.RangeOwn", spec := "rangeOwn", inPlace := ["math/bits.Add64"], unfollowed := true, recurses := true, named := ["math/bits.deBruijn64tab"], apart := false, laid := [("math/bits.deBruijn64tab", laid_math_bits_deBruijn64tab)], narrowed := true }
def RangeOwnUptoSaid : Prop := rangeOwnUptoRow.holds Tryd.pinned (OpenSpec.upto rangeOwnSpec)

/-- 'turnpikelaw4.RangeRows', WHERE WHAT IT READS IS OF BULK AT MOST 1048576: true; the input reads as it did. -/
def rangeRowsUptoRow : OpenClaim := { program := "ytijaimiefcohbaadoor", sum := "3b9b100979bfe640a8446e587df4cf691e074cdf15d81f0b40f199dc03ca9624", func := "turnpike/turnpikelaw4.RangeRows", spec := "rangeRows", inPlace := ["math/bits.Add64", "math/bits.Sub64"], unfollowed := true, recurses := true, named := ["math/bits.deBruijn64tab"], apart := false, laid := [("math/bits.deBruijn64tab", laid_math_bits_deBruijn64tab)], narrowed := true }
def RangeRowsUptoSaid : Prop := rangeRowsUptoRow.holds Tryd.pinned (OpenSpec.upto rangeRowsSpec)

/-- 'turnpikelaw4.RangeTurned', WHERE WHAT IT READS IS OF BULK AT MOST 1048576: true; the input reads as it did. -/
def rangeTurnedUptoRow : OpenClaim := { program := "ytijaimiefcohbaadoor", sum := "3b9b100979bfe640a8446e587df4cf691e074cdf15d81f0b40f199dc03ca9624", func := "turnpike/turnpikelaw4.RangeTurned", spec := "rangeTurned", inPlace := ["math/bits.Add64", "math/bits.Sub64"], unfollowed := true, recurses := true, named := ["math/bits.deBruijn64tab"], apart := false, laid := [("math/bits.deBruijn64tab", laid_math_bits_deBruijn64tab)], narrowed := true }
def RangeTurnedUptoSaid : Prop := rangeTurnedUptoRow.holds Tryd.pinned (OpenSpec.upto rangeTurnedSpec)

/-- 'turnpikelaw4.RangeWhole', WHERE WHAT IT READS IS OF BULK AT MOST 1048576: true; the input reads as it did. -/
def rangeWholeUptoRow : OpenClaim := { program := "ytijaimiefcohbaadoor", sum := "3b9b100979bfe640a8446e587df4cf691e074cdf15d81f0b40f199dc03ca9624", func := "turnpike/turnpikelaw4.RangeWhole", spec := "rangeWhole", inPlace := ["math/bits.Add64", "math/bits.Sub64"], unfollowed := true, recurses := true, named := ["math/bits.deBruijn64tab"], apart := false, laid := [("math/bits.deBruijn64tab", laid_math_bits_deBruijn64tab)], narrowed := true }
def RangeWholeUptoSaid : Prop := rangeWholeUptoRow.holds Tryd.pinned (OpenSpec.upto rangeWholeSpec)

end Rows
end Go.Proofs.YtijaimiefcohbaaDoor

/-
  DERIVED. GIVEN WITH THE SEED: THE CARDS: each row of YtijaimiefcohbaaDoorRows.lean that lists a variable, with what it lists TIED to the program's text (the seventh form; the later family's looks); each row that meets fmt, with fmt's text TOLD by the authors' own Lean function (tested against real Go, not proved from fmt's source: count such statements apart). THE CARD IS WHAT COUNTS. Prove the row's statement (the work); the ties are given (YtijaimiefcohbaaDoorTie.lean); close each card by the builder's one call (the guide's Derived/Test/ToyasCard.lean, 'card_holds'). Laid BY PROGRAM, IN A SANDBOX (cutbox-door.mjs). By AI agents, Wed Nov 11 2026. No macro, syntax, notation, axiom, sorry.
-/
import Derived.Test.YtijaimiefcohbaaDoorRows
import GoSem.ClaimSeven
namespace Go.Proofs.YtijaimiefcohbaaDoor
namespace Rows

/-- THE TIED CARD OF 'turnpikelaw4.RangeCovers'. -/
def rangeCoversCard : Claim7 := { stood := { row := rangeCoversRow, standIns := [], harness := (true, "3dadb48391cd98fb3ded45524cc2889ad66508e676a9bec1846dbaa2559107c4"), looks := false }, kinds := [], alts := [], laidByText := true, laidKinds := [.data], laidTests := true, laidLooks := .later }
def RangeCoversCardSaid : Prop := Claim7.holds Tryd.pinned (.plain (OpenSpec.ofChange rangeCoversSpec)) rangeCoversCard

/-- THE TIED CARD OF 'turnpikelaw4.RangeExact'. -/
def rangeExactCard : Claim7 := { stood := { row := rangeExactRow, standIns := [], harness := (true, "3dadb48391cd98fb3ded45524cc2889ad66508e676a9bec1846dbaa2559107c4"), looks := false }, kinds := [], alts := [], laidByText := true, laidKinds := [.data], laidTests := true, laidLooks := .later }
def RangeExactCardSaid : Prop := Claim7.holds Tryd.pinned (.plain (OpenSpec.ofChange rangeExactSpec)) rangeExactCard

/-- THE TIED CARD OF 'turnpikelaw4.RangeMerges'. -/
def rangeMergesCard : Claim7 := { stood := { row := rangeMergesRow, standIns := [], harness := (true, "3dadb48391cd98fb3ded45524cc2889ad66508e676a9bec1846dbaa2559107c4"), looks := false }, kinds := [], alts := [], laidByText := true, laidKinds := [.data], laidTests := true, laidLooks := .later }
def RangeMergesCardSaid : Prop := Claim7.holds Tryd.pinned (.plain (OpenSpec.ofChange rangeMergesSpec)) rangeMergesCard

/-- THE TIED CARD OF 'turnpikelaw4.RangeSays'. -/
def rangeSaysCard : Claim7 := { stood := { row := rangeSaysRow, standIns := [], harness := (true, "3dadb48391cd98fb3ded45524cc2889ad66508e676a9bec1846dbaa2559107c4"), looks := false }, kinds := [], alts := [], laidByText := true, laidKinds := [.data], laidTests := true, laidLooks := .later }
def RangeSaysCardSaid : Prop := Claim7.holds Tryd.pinned (.plain (OpenSpec.ofChange rangeSaysSpec)) rangeSaysCard

/-- THE TIED CARD OF 'turnpikelaw4.RangeOwn'. -/
def rangeOwnCard : Claim7 := { stood := { row := rangeOwnRow, standIns := [], harness := (true, "3dadb48391cd98fb3ded45524cc2889ad66508e676a9bec1846dbaa2559107c4"), looks := false }, kinds := [], alts := [], laidByText := true, laidKinds := [.data], laidTests := true, laidLooks := .later }
def RangeOwnCardSaid : Prop := Claim7.holds Tryd.pinned (.plain (OpenSpec.ofChange rangeOwnSpec)) rangeOwnCard

/-- THE TIED CARD OF 'turnpikelaw4.RangeRows'. -/
def rangeRowsCard : Claim7 := { stood := { row := rangeRowsRow, standIns := [], harness := (true, "3dadb48391cd98fb3ded45524cc2889ad66508e676a9bec1846dbaa2559107c4"), looks := false }, kinds := [], alts := [], laidByText := true, laidKinds := [.data], laidTests := true, laidLooks := .later }
def RangeRowsCardSaid : Prop := Claim7.holds Tryd.pinned (.plain (OpenSpec.ofChange rangeRowsSpec)) rangeRowsCard

/-- THE TIED CARD OF 'turnpikelaw4.RangeTurned'. -/
def rangeTurnedCard : Claim7 := { stood := { row := rangeTurnedRow, standIns := [], harness := (true, "3dadb48391cd98fb3ded45524cc2889ad66508e676a9bec1846dbaa2559107c4"), looks := false }, kinds := [], alts := [], laidByText := true, laidKinds := [.data], laidTests := true, laidLooks := .later }
def RangeTurnedCardSaid : Prop := Claim7.holds Tryd.pinned (.plain (OpenSpec.ofChange rangeTurnedSpec)) rangeTurnedCard

/-- THE TIED CARD OF 'turnpikelaw4.RangeWhole'. -/
def rangeWholeCard : Claim7 := { stood := { row := rangeWholeRow, standIns := [], harness := (true, "3dadb48391cd98fb3ded45524cc2889ad66508e676a9bec1846dbaa2559107c4"), looks := false }, kinds := [], alts := [], laidByText := true, laidKinds := [.data], laidTests := true, laidLooks := .later }
def RangeWholeCardSaid : Prop := Claim7.holds Tryd.pinned (.plain (OpenSpec.ofChange rangeWholeSpec)) rangeWholeCard

/-- THE SECOND FORM's CARD OF 'turnpikelaw4.RangeCovers'. -/
def rangeCoversUptoCard : Claim7 := { stood := { row := rangeCoversUptoRow, standIns := [], harness := (true, "3dadb48391cd98fb3ded45524cc2889ad66508e676a9bec1846dbaa2559107c4"), looks := false }, kinds := [], alts := [], laidByText := true, laidKinds := [.data], laidTests := true, laidLooks := .later }
def RangeCoversUptoCardSaid : Prop := Claim7.holds Tryd.pinned (.plain (OpenSpec.upto rangeCoversSpec)) rangeCoversUptoCard

/-- THE SECOND FORM's CARD OF 'turnpikelaw4.RangeExact'. -/
def rangeExactUptoCard : Claim7 := { stood := { row := rangeExactUptoRow, standIns := [], harness := (true, "3dadb48391cd98fb3ded45524cc2889ad66508e676a9bec1846dbaa2559107c4"), looks := false }, kinds := [], alts := [], laidByText := true, laidKinds := [.data], laidTests := true, laidLooks := .later }
def RangeExactUptoCardSaid : Prop := Claim7.holds Tryd.pinned (.plain (OpenSpec.upto rangeExactSpec)) rangeExactUptoCard

/-- THE SECOND FORM's CARD OF 'turnpikelaw4.RangeMerges'. -/
def rangeMergesUptoCard : Claim7 := { stood := { row := rangeMergesUptoRow, standIns := [], harness := (true, "3dadb48391cd98fb3ded45524cc2889ad66508e676a9bec1846dbaa2559107c4"), looks := false }, kinds := [], alts := [], laidByText := true, laidKinds := [.data], laidTests := true, laidLooks := .later }
def RangeMergesUptoCardSaid : Prop := Claim7.holds Tryd.pinned (.plain (OpenSpec.upto rangeMergesSpec)) rangeMergesUptoCard

/-- THE SECOND FORM's CARD OF 'turnpikelaw4.RangeSays'. -/
def rangeSaysUptoCard : Claim7 := { stood := { row := rangeSaysUptoRow, standIns := [], harness := (true, "3dadb48391cd98fb3ded45524cc2889ad66508e676a9bec1846dbaa2559107c4"), looks := false }, kinds := [], alts := [], laidByText := true, laidKinds := [.data], laidTests := true, laidLooks := .later }
def RangeSaysUptoCardSaid : Prop := Claim7.holds Tryd.pinned (.plain (OpenSpec.upto rangeSaysSpec)) rangeSaysUptoCard

/-- THE SECOND FORM's CARD OF 'turnpikelaw4.RangeOwn'. -/
def rangeOwnUptoCard : Claim7 := { stood := { row := rangeOwnUptoRow, standIns := [], harness := (true, "3dadb48391cd98fb3ded45524cc2889ad66508e676a9bec1846dbaa2559107c4"), looks := false }, kinds := [], alts := [], laidByText := true, laidKinds := [.data], laidTests := true, laidLooks := .later }
def RangeOwnUptoCardSaid : Prop := Claim7.holds Tryd.pinned (.plain (OpenSpec.upto rangeOwnSpec)) rangeOwnUptoCard

/-- THE SECOND FORM's CARD OF 'turnpikelaw4.RangeRows'. -/
def rangeRowsUptoCard : Claim7 := { stood := { row := rangeRowsUptoRow, standIns := [], harness := (true, "3dadb48391cd98fb3ded45524cc2889ad66508e676a9bec1846dbaa2559107c4"), looks := false }, kinds := [], alts := [], laidByText := true, laidKinds := [.data], laidTests := true, laidLooks := .later }
def RangeRowsUptoCardSaid : Prop := Claim7.holds Tryd.pinned (.plain (OpenSpec.upto rangeRowsSpec)) rangeRowsUptoCard

/-- THE SECOND FORM's CARD OF 'turnpikelaw4.RangeTurned'. -/
def rangeTurnedUptoCard : Claim7 := { stood := { row := rangeTurnedUptoRow, standIns := [], harness := (true, "3dadb48391cd98fb3ded45524cc2889ad66508e676a9bec1846dbaa2559107c4"), looks := false }, kinds := [], alts := [], laidByText := true, laidKinds := [.data], laidTests := true, laidLooks := .later }
def RangeTurnedUptoCardSaid : Prop := Claim7.holds Tryd.pinned (.plain (OpenSpec.upto rangeTurnedSpec)) rangeTurnedUptoCard

/-- THE SECOND FORM's CARD OF 'turnpikelaw4.RangeWhole'. -/
def rangeWholeUptoCard : Claim7 := { stood := { row := rangeWholeUptoRow, standIns := [], harness := (true, "3dadb48391cd98fb3ded45524cc2889ad66508e676a9bec1846dbaa2559107c4"), looks := false }, kinds := [], alts := [], laidByText := true, laidKinds := [.data], laidTests := true, laidLooks := .later }
def RangeWholeUptoCardSaid : Prop := Claim7.holds Tryd.pinned (.plain (OpenSpec.upto rangeWholeSpec)) rangeWholeUptoCard
end Rows
end Go.Proofs.YtijaimiefcohbaaDoor

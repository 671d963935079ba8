/- turnpikelaw4.RangeCovers: at every family and every two words the call returns true and leaves all that it was handed as it was; the table math/bits.deBruijn64tab is as the program's text lays it (the card ties it). -/
import Derived.Test.YtijaimiefcohbaaDoorS7
import Derived.Test.YtijaimiefcohbaaDoorTie
import Derived.Test.YtijaimiefcohbaaDoorCards
import Derived.SevenTiedAt
set_option linter.unusedSimpArgs false
set_option linter.unusedVariables false
set_option linter.constructorNameAsVariable false
namespace Go.Proofs.YtijaimiefcohbaaDoor
open Go
theorem rangeCovers_card : Rows.RangeCoversCardSaid :=
  Claim7.holds_tied_plain_at .later [] [.data] true (true, "3dadb48391cd98fb3ded45524cc2889ad66508e676a9bec1846dbaa2559107c4") false
    rangeCovers_holds (fun _ h => by cases h) (by kernel_rfl) (fun _ h => by cases h) rangeCovers_row_tie rfl ⟨rfl, rfl⟩ (by kernel_rfl) rfl
    (fun f fn hf hfn => by
      obtain rfl : f = 3 := Option.some.inj ((show Tryd.prog.funcNamed "turnpike/turnpikelaw4.RangeCovers" = some 3 by kernel_rfl).symm.trans hf) |>.symm
      obtain rfl : fn = Tryd.f3 := (Option.some.inj (Tryd.func3.symm.trans hfn)).symm
      exact ⟨by kernel_rfl, fun j t ht => by
        rw [Tryd.params3] at ht
        have hm : t ∈ [3, 24, 24] := List.mem_of_getElem? (by simpa using ht)
        have hall : ∀ t ∈ [3, 24, 24], Tryd.prog.wantsStandIn t = false := by decide +kernel
        exact hall t hm⟩)
    (by kernel_rfl)
#print axioms rangeCovers_card
end Go.Proofs.YtijaimiefcohbaaDoor

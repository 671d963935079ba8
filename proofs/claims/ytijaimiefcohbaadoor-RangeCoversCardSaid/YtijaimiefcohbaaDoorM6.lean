import Derived.Test.YtijaimiefcohbaaDoorM5
set_option linter.unusedSimpArgs false
set_option linter.unusedVariables false
set_option linter.constructorNameAsVariable false
namespace Go.Vx
open Go Go.RowKit
theorem maskW_bit (n : Int) (j : Nat) (hj : j < 128) : (maskW n).getLsbD j = !decide (n.toNat + j < 128) := by
  unfold maskW
  rw [BitVec.getLsbD_not, ones_shr_bit]
  simp only [hj, decide_true, Bool.true_and]
theorem maskW_low {n : Int} (h : n ≤ 0) : maskW n = maskW 0 := by
  unfold maskW
  rw [show n.toNat = (0 : Int).toNat by omega]
theorem maskW_high {n : Int} (h : 128 ≤ n) : maskW n = maskW 128 := by
  apply BitVec.eq_of_getLsbD_eq; intro j hj
  rw [maskW_bit _ _ hj, maskW_bit _ _ hj]
  congr 1
  rw [decide_eq_decide]
  constructor <;> intro h1 <;> omega
theorem put_mask {i : Int} (h0 : 0 ≤ i) (h1 : i < 128) : putW (maskW i) i 1 = maskW (i + 1) := by
  apply BitVec.eq_of_getLsbD_eq; intro j hj
  unfold putW
  have e : BitVec.ofInt 128 1 = 1#128 := by decide
  rw [e, BitVec.getLsbD_or, BitVec.getLsbD_and, BitVec.getLsbD_not, BitVec.getLsbD_shiftLeft, maskW_bit _ _ hj, maskW_bit _ _ hj, BitVec.getLsbD_one]
  simp only [hj, decide_true, Bool.true_and]
  by_cases h2 : j = (127 - i).toNat
  · have e1 : ¬ (j < (127 - i).toNat) := by omega
    have e2 : j - (127 - i).toNat = 0 := by omega
    have e3 : ¬ ((i + 1).toNat + j < 128) := by omega
    simp [e1, e2, e3]
  · by_cases h3 : j < (127 - i).toNat
    · have e3 : (i + 1).toNat + j < 128 := by omega
      have e4 : i.toNat + j < 128 := by omega
      simp [h3, e3, e4]
    · have e1 : ¬ (j - (127 - i).toNat = 0) := by omega
      have e3 : ¬ ((i + 1).toNat + j < 128) := by omega
      have e4 : ¬ (i.toNat + j < 128) := by omega
      simp [h3, e1, e3, e4]
theorem maskW_zero : maskW 0 = W 0#64 0#64 := by decide

theorem and_m {x y : Bool} (h : (match x with | true => y | false => false) = true) : x = true ∧ y = true := by
  cases x
  · cases h
  · exact ⟨rfl, h⟩
theorem and_n {x y : Bool} (h : ¬ (match x with | true => y | false => false) = true) : x = true → y = false := by
  intro hx
  subst hx
  simpa using h
end Go.Vx

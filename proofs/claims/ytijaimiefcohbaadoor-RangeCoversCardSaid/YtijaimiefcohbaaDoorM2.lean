import Derived.Test.YtijaimiefcohbaaDoorM1
set_option linter.unusedSimpArgs false
set_option linter.unusedVariables false
set_option linter.constructorNameAsVariable false
namespace Go.Vx
open Go Go.RowKit
theorem plsEq_W (a b c d : BitVec 64) : plsEq [.u a, .u b] [.u c, .u d] = decide (W a b = W c d) := by
  rw [Bool.eq_iff_iff, decide_eq_true_iff, W_inj]
  simp [plsEq, eq1]

theorem tzAux_char {f n k : Nat} (hk : k ≤ f) (h1 : ∀ j, j < k → n.testBit j = false) (h2 : k < f → n.testBit k = true) : tzAux f n = k := by
  obtain ⟨g1, g2⟩ := tzAux_bits f n
  have g3 := tzAux_le f n
  rcases Nat.lt_trichotomy (tzAux f n) k with h | h | h
  · have := g2 (by omega)
    rw [h1 _ h] at this; cases this
  · exact h
  · have := g1 _ h
    rw [h2 (by omega)] at this; cases this

theorem W_testBit (a b : BitVec 64) (i : Nat) : (W a b).toNat.testBit i = if i < 64 then b.toNat.testBit i else a.toNat.testBit (i - 64) := by
  rw [BitVec.testBit_toNat, W_bit]
  split <;> rw [BitVec.testBit_toNat]

theorem trail_lo (a : BitVec 64) {b : BitVec 64} (h : b ≠ 0) : (tz64 b : Int) = trailW (W a b) := by
  unfold trailW
  have hk := tz64_lt h
  obtain ⟨h1, h2⟩ := tzAux_bits 64 b.toNat
  congr 1
  refine (tzAux_char (by omega) (fun j hj => ?_) (fun _ => ?_)).symm
  · rw [W_testBit, if_pos (by omega)]; exact h1 j hj
  · rw [W_testBit, if_pos hk]; exact h2 hk

theorem trail_hi (a : BitVec 64) : wrap64 (64 + (tz64 a : Int)) = trailW (W a 0) := by
  unfold trailW
  obtain ⟨h1, h2⟩ := tzAux_bits 64 a.toNat
  have h3 := tzAux_le 64 a.toNat
  have e : tz64 a = tzAux 64 a.toNat := rfl
  rw [wrap64_of (by omega) (by omega), e]
  have : tzAux 128 (W a 0).toNat = 64 + tzAux 64 a.toNat := by
    refine tzAux_char (by omega) (fun j hj => ?_) (fun h => ?_)
    · rw [W_testBit]
      split
      · simp
      · exact h1 _ (by omega)
    · rw [W_testBit, if_neg (by omega), show 64 + tzAux 64 a.toNat - 64 = tzAux 64 a.toNat by omega]
      exact h2 (by omega)
  rw [this]; simp

theorem right_zero {f : Int} {w : BitVec 128} (h : rightW f w = 0) : (f = 32 ∨ f = 128) ∧ w &&& ~~~maskW f = 0 := by
  unfold rightW at h
  split at h
  · cases h
  · split at h
    · cases h
    · rename_i h1 h2
      exact ⟨by omega, by simpa using h2⟩
theorem W_one : W 0 1 = 1 := by decide
end Go.Vx

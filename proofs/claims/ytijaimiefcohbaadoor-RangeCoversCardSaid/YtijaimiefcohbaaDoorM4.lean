import Derived.Test.YtijaimiefcohbaaDoorM3
set_option linter.unusedSimpArgs false
set_option linter.unusedVariables false
set_option linter.constructorNameAsVariable false
namespace Go.Vx
open Go Go.RowKit
/-! ### masks, ends, neighbours -/
theorem trailW_bd (x : BitVec 128) : 0 ≤ trailW x ∧ trailW x ≤ 128 := by
  unfold trailW
  have := tzAux_le 128 x.toNat
  omega
theorem ones_shr_bit (n i : Nat) : (BitVec.allOnes 128 >>> n).getLsbD i = decide (n + i < 128) := by
  rw [BitVec.getLsbD_ushiftRight, BitVec.getLsbD_allOnes]
theorem maskW_not (n : Int) : ~~~maskW n = BitVec.allOnes 128 >>> n.toNat := by unfold maskW; rw [BitVec.not_not]
theorem mask_mask {f n : Int} (h : f ≤ n) : maskW f &&& ~~~maskW n = 0 := by
  rw [maskW_not]
  apply BitVec.eq_of_getLsbD_eq; intro i hi
  unfold maskW
  rw [BitVec.getLsbD_and, BitVec.getLsbD_not, ones_shr_bit, ones_shr_bit]
  by_cases h1 : n.toNat + i < 128
  · have : f.toNat + i < 128 := by omega
    simp [this, hi]
  · simp [h1]
theorem last_full {f n : Int} (w : BitVec 128) (h : f ≤ n) : lastW f w n = w := by
  unfold lastW; rw [mask_mask h]; simp
theorem le_last (f : Int) (w : BitVec 128) (n : Int) : w ≤ lastW f w n := by
  rw [BitVec.le_def]; unfold lastW; rw [BitVec.toNat_or]; exact Nat.left_le_or
theorem right_of {f : Int} {w : BitVec 128} (hf : f = 32 ∨ f = 128) (h : w &&& ~~~maskW f = 0) : rightW f w = 0 := by
  unfold rightW
  rw [if_neg (by omega), if_neg (by simpa using h)]
theorem right_last {f : Int} {w : BitVec 128} (h : rightW f w = 0) (n : Int) : rightW f (lastW f w n) = 0 := by
  obtain ⟨h1, h2⟩ := right_zero h
  refine right_of h1 ?_
  unfold lastW
  apply BitVec.eq_of_getLsbD_eq; intro i hi
  have := congrArg (fun x => BitVec.getLsbD x i) h2
  simp only [BitVec.getLsbD_and, BitVec.getLsbD_or, BitVec.getLsbD_not, hi, decide_true, Bool.true_and] at this ⊢
  cases h3 : (maskW f).getLsbD i <;> simp_all
/-- how far addresses stand from one another -/
def unitN (f : Int) : Nat := 2 ^ (128 - f).toNat
theorem right_mod {f : Int} {w : BitVec 128} (hf : f = 32 ∨ f = 128) : w &&& ~~~maskW f = 0 ↔ w.toNat % unitN f = 0 := by
  rw [maskW_not, ← BitVec.toNat_inj, BitVec.toNat_and]
  rcases hf with rfl | rfl
  · have : (BitVec.allOnes 128 >>> (32 : Int).toNat).toNat = 2 ^ 96 - 1 := by decide
    rw [this, Nat.and_two_pow_sub_one_eq_mod]
    rfl
  · have : (BitVec.allOnes 128 >>> (128 : Int).toNat).toNat = 2 ^ 0 - 1 := by decide
    rw [this, Nat.and_two_pow_sub_one_eq_mod]
    rfl
theorem unit_nat {f : Int} (hf : f = 32 ∨ f = 128) : (unitW f).toNat = unitN f := by
  rcases hf with rfl | rfl <;> decide
theorem mask_nat {f : Int} (hf : f = 32 ∨ f = 128) : (maskW f).toNat = 2 ^ 128 - unitN f := by
  rcases hf with rfl | rfl <;> decide
theorem next_ok {f : Int} {e last : BitVec 128} (he : rightW f e = 0) (hl : rightW f last = 0) (hle : e ≤ last) (hne : e ≠ last) :
    stopW f e = false ∧ rightW f (nextW f e) = 0 ∧ nextW f e ≤ last ∧ (nextW f e).toNat = e.toNat + unitN f := by
  obtain ⟨hf, h1⟩ := right_zero he
  obtain ⟨_, h2⟩ := right_zero hl
  have m1 := (right_mod hf).1 h1
  have m2 := (right_mod hf).1 h2
  rw [BitVec.le_def] at hle
  have hn : e.toNat ≠ last.toNat := fun h => hne (BitVec.eq_of_toNat_eq h)
  have hu : 0 < unitN f := Nat.two_pow_pos _
  have hlt := last.isLt
  have key : e.toNat + unitN f ≤ last.toNat := by
    rcases hf with rfl | rfl <;> simp only [unitN] at * <;> simp at * <;> omega
  have hst : stopW f e = false := by
    unfold stopW
    refine decide_eq_false fun h => ?_
    rcases h with h | h
    · exact h he
    · have := mask_nat hf
      rw [← h] at this
      omega
  have hnx : nextW f e = e + unitW f := by unfold nextW; rw [hst]; rfl
  have hnn : (nextW f e).toNat = e.toNat + unitN f := by
    rw [hnx, BitVec.toNat_add, unit_nat hf, Nat.mod_eq_of_lt (by omega)]
  refine ⟨hst, right_of hf ((right_mod hf).2 ?_), by rw [BitVec.le_def, hnn]; exact key, hnn⟩
  rw [hnn, Nat.add_mod_right, m1]

theorem cmp_pos (x y : BitVec 128) : 0 < cmpW x y ↔ ¬ x ≤ y := by
  unfold cmpW
  split
  · rename_i h; subst h; simp
  · rename_i h
    split
    · rename_i h1
      have : x ≤ y := by rw [BitVec.le_def]; rw [BitVec.lt_def] at h1; omega
      simp [this]
    · rename_i h1
      have : ¬ x ≤ y := by
        rw [BitVec.le_def]; rw [BitVec.lt_def] at h1
        have : x.toNat ≠ y.toNat := fun q => h (BitVec.eq_of_toNat_eq q)
        omega
      simp [this]
theorem len_stop {f : Int} {w last : BitVec 128} {n : Int} (h : lastW f w n ≤ last) : ∀ J, lenFrom f w last J n = n
  | 0 => rfl
  | J + 1 => by simp only [lenFrom, h, if_true]
theorem len_step {f : Int} {w last : BitVec 128} {n n0 : Int} (hw : w ≤ last) (hf : f ≤ 128) (h0 : 0 ≤ n0) (hn : n0 ≤ n) (h : ¬ lastW f w n ≤ last) :
    n < f ∧ lenFrom f w last (128 - (n - n0)).toNat n = lenFrom f w last (128 - (n + 1 - n0)).toNat (n + 1) := by
  have hlt : n < f := by
    rcases Int.lt_or_le n f with h1 | h1
    · exact h1
    · rw [last_full w h1] at h; exact absurd hw h
  refine ⟨hlt, ?_⟩
  have e : (128 - (n - n0)).toNat = (128 - (n + 1 - n0)).toNat + 1 := by omega
  rw [e]
  simp only [lenFrom, h, if_false]
theorem len_range {f : Int} {w last : BitVec 128} : 0 ≤ lenW f w last := by
  have key : ∀ J n, n ≤ lenFrom f w last J n := by
    intro J
    induction J with
    | zero => intro n; exact Int.le_refl _
    | succ J ih =>
      intro n
      simp only [lenFrom]
      split
      · exact Int.le_refl _
      · have := ih (n + 1); omega
  have := key 128 (128 - trailW w)
  have := trailW_bd w
  unfold lenW; omega
/-- one more round of the cover -/
theorem cover_round {f : Int} {last w : BitVec 128} {k : Nat} {n : Int} (hw : rightW f w = 0) (hl : rightW f last = 0) (hle : w ≤ last) (hk : last.toNat - w.toNat < k) (hn : lenW f w last = n) (hs : lastW f w n ≤ last) :
    ∃ k', k = k' + 1 ∧ coverF f last k w = (w, n) :: (if (!stopW f (lastW f w n) && (lastW f w n != last)) then coverF f last k' (nextW f (lastW f w n)) else []) ∧
      ((!stopW f (lastW f w n) && (lastW f w n != last)) = true → rightW f (nextW f (lastW f w n)) = 0 ∧ nextW f (lastW f w n) ≤ last ∧ last.toNat - (nextW f (lastW f w n)).toNat < k') := by
  obtain ⟨k', rfl⟩ : ∃ k', k = k' + 1 := ⟨k - 1, by omega⟩
  refine ⟨k', rfl, ?_, fun h => ?_⟩
  · simp only [coverF, hn]
    congr 1
    by_cases h1 : stopW f (lastW f w n) = true
    · simp [h1]
    · have h1' : stopW f (lastW f w n) = false := by simpa using h1
      by_cases h2 : lastW f w n = last
      · simp [h1', h2]
      · simp [h1', h2]
  · simp only [Bool.and_eq_true, bne_iff_ne] at h
    obtain ⟨h1, h2, h3, h4⟩ := next_ok (right_last hw n) hl hs h.2
    refine ⟨h2, h3, ?_⟩
    have h5 := le_last f w n
    rw [BitVec.le_def] at h5 h3
    have : 0 < unitN f := Nat.two_pow_pos _
    omega
end Go.Vx

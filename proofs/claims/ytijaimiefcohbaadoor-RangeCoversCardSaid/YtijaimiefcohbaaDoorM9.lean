import Derived.Test.YtijaimiefcohbaaDoorM8
set_option linter.unusedSimpArgs false
set_option linter.unusedVariables false
set_option linter.constructorNameAsVariable false
namespace Go.Vx
open Go Go.RowKit
def threeW (a b c d : BitVec 64) : List (List Pl) := [[.u 0, .u 0], [.u a, .u b], [.u c, .u d]]
def CovQ (f : Int) (x y : BitVec 128) (i : Int) : Prop := (i = 0 ∨ i = 1 ∨ i = 2 ∨ i = 3) ∧ (1 ≤ i → rightW f 0#128 = 0) ∧ (2 ≤ i → rightW f x = 0) ∧ (3 ≤ i → rightW f y = 0)
theorem cov0 (f : Int) (x y : BitVec 128) : CovQ f x y 0 := ⟨.inl rfl, by omega, by omega, by omega⟩
theorem cov_u (a b c d : BitVec 64) : W (uAt (threeW a b c d) 0 0) (uAt (threeW a b c d) 0 1) = 0#128 ∧ W (uAt (threeW a b c d) 1 0) (uAt (threeW a b c d) 1 1) = W a b ∧ W (uAt (threeW a b c d) 2 0) (uAt (threeW a b c d) 2 1) = W c d :=
  ⟨by rw [← W_zero]; rfl, rfl, rfl⟩
theorem cov_err {f i : Int} {a b c d : BitVec 64} (h : CovQ f (W a b) (W c d) i) (hi : i < 3)
    (hq : rightW f (W (uAt (threeW a b c d) i 0) (uAt (threeW a b c d) i 1)) ≠ 0) :
    coverE f (W a b) (W c d) = rightW f (W (uAt (threeW a b c d) i 0) (uAt (threeW a b c d) i 1)) ∧ coverR f (W a b) (W c d) = [] := by
  obtain ⟨u0, u1, u2⟩ := cov_u a b c d
  obtain ⟨h0, h1, h2, h3⟩ := h
  have key : coverE f (W a b) (W c d) = rightW f (W (uAt (threeW a b c d) i 0) (uAt (threeW a b c d) i 1)) := by
    unfold coverE
    rcases h0 with rfl | rfl | rfl | rfl
    · rw [u0] at hq ⊢; rw [if_pos hq]
    · rw [u1] at hq ⊢; rw [if_neg (by simp [h1 (by omega)]), if_pos hq]
    · rw [u2] at hq ⊢; rw [if_neg (by simp [h1 (by omega)]), if_neg (by simp [h2 (by omega)]), if_pos hq]
    · omega
  refine ⟨key, ?_⟩
  unfold coverR
  rw [if_neg (by rw [key]; exact hq)]
theorem cov_next {f i : Int} {a b c d : BitVec 64} (h : CovQ f (W a b) (W c d) i) (hi : i < 3)
    (hq : rightW f (W (uAt (threeW a b c d) i 0) (uAt (threeW a b c d) i 1)) = 0) : CovQ f (W a b) (W c d) (i + 1) := by
  obtain ⟨u0, u1, u2⟩ := cov_u a b c d
  obtain ⟨h0, h1, h2, h3⟩ := h
  rcases h0 with rfl | rfl | rfl | rfl
  · rw [u0] at hq; exact ⟨.inr (.inl rfl), fun _ => hq, by omega, by omega⟩
  · rw [u1] at hq; exact ⟨.inr (.inr (.inl rfl)), fun _ => h1 (by omega), fun _ => hq, by omega⟩
  · rw [u2] at hq; exact ⟨.inr (.inr (.inr rfl)), fun _ => h1 (by omega), fun _ => h2 (by omega), fun _ => hq⟩
  · omega
theorem cmp_neg (x y : BitVec 128) : cmpW x y < 0 ↔ x < y := by
  unfold cmpW
  split
  · rename_i h; subst h; simp
  · split
    · rename_i h; simp [h]
    · rename_i h; simp [h]
theorem cov_ord {f i : Int} {x y : BitVec 128} (h : CovQ f x y i) (hi : ¬ i < 3) (hq : cmpW y x < 0) : coverE f x y = 19 ∧ coverR f x y = [] := by
  obtain ⟨h0, h1, h2, h3⟩ := h
  rw [cmp_neg] at hq
  have key : coverE f x y = 19 := by
    unfold coverE
    rw [if_neg (by simp [h1 (by omega)]), if_neg (by simp [h2 (by omega)]), if_neg (by simp [h3 (by omega)]), if_pos hq]
  refine ⟨key, ?_⟩
  unfold coverR
  rw [if_neg (by rw [key]; omega)]
theorem cov_done {f i : Int} {x y : BitVec 128} (h : CovQ f x y i) (hi : ¬ i < 3) (hq : ¬ cmpW y x < 0) : coverE f x y = 0 ∧ coverR f x y = (coverL f x y).map prow ∧ rightW f x = 0 ∧ rightW f y = 0 ∧ x ≤ y ∧ (coverL f x y).length ≤ 1000000 := by
  obtain ⟨h0, h1, h2, h3⟩ := h
  rw [cmp_neg] at hq
  have key : coverE f x y = 0 := by
    unfold coverE
    rw [if_neg (by simp [h1 (by omega)]), if_neg (by simp [h2 (by omega)]), if_neg (by simp [h3 (by omega)]), if_neg hq]
  obtain ⟨g1, g2, g3⟩ := coverE_zero key
  have := cover_len g1 g2 g3
  have := (right_zero g1).1
  refine ⟨key, ?_, g1, g2, g3, by omega⟩
  unfold coverR
  rw [if_pos key]
end Go.Vx

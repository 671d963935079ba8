import Derived.Test.YtijaimiefcohbaaDoorM7
set_option linter.unusedSimpArgs false
set_option linter.unusedVariables false
set_option linter.constructorNameAsVariable false
namespace Go.Vx
open Go Go.RowKit
/-! ### how many prefixes a cover has -/
theorem tz_dvd : ∀ (f n k : Nat), k ≤ f → (2 ^ k ∣ n ↔ k ≤ tzAux f n)
  | f, n, 0, _ => by simp
  | 0, n, k + 1, h => absurd h (by omega)
  | f + 1, n, k + 1, h => by
    simp only [tzAux]
    have ih := tz_dvd f (n / 2) k (by omega)
    split
    · rename_i h1
      constructor
      · intro h2
        have : 2 ∣ n := Nat.dvd_trans ⟨2 ^ k, by rw [Nat.pow_succ, Nat.mul_comm]⟩ h2
        omega
      · intro h2; omega
    · rename_i h1
      rw [Nat.add_le_add_iff_right, ← ih, Nat.pow_succ]
      have : n = n / 2 * 2 := by omega
      constructor
      · intro h2
        rw [this] at h2
        exact Nat.dvd_of_mul_dvd_mul_right (by omega) h2
      · intro h2
        rw [this]
        exact Nat.mul_dvd_mul_right h2 2
theorem cut_dvd {w : BitVec 128} {x : Nat} (h : x ≤ 128) : cutW w (128 - x) = w ↔ 2 ^ x ∣ w.toNat := by
  rw [cut_iff (by omega) (by omega), tz_dvd 128 _ _ h]
  unfold trailW
  omega
theorem low_nat (n : Int) (h0 : 0 ≤ n) (h1 : n ≤ 128) : (~~~maskW n).toNat + 1 = 2 ^ (128 - n).toNat := by
  rw [maskW_not, BitVec.toNat_ushiftRight, BitVec.toNat_allOnes, Nat.shiftRight_eq_div_pow]
  have e : 2 ^ 128 = 2 ^ (128 - n).toNat * 2 ^ n.toNat := by
    rw [← Nat.pow_add]; congr 1; omega
  rw [e]
  obtain ⟨X, hX⟩ : ∃ X, 2 ^ (128 - n).toNat = X + 1 := ⟨2 ^ (128 - n).toNat - 1, by have := Nat.two_pow_pos (128 - n).toNat; omega⟩
  obtain ⟨Y, hY⟩ : ∃ Y, 2 ^ n.toNat = Y + 1 := ⟨2 ^ n.toNat - 1, by have := Nat.two_pow_pos n.toNat; omega⟩
  rw [hX, hY]
  have : (X + 1) * (Y + 1) - 1 = (Y + 1) * X + Y := by
    rw [Nat.add_mul, Nat.mul_comm X]; omega
  rw [this, Nat.mul_add_div (by omega), Nat.div_eq_of_lt (by omega)]
theorem last_nat {f : Int} {w : BitVec 128} {n : Int} (hf : f ≤ 128) (h0 : 0 ≤ n) (h1 : n ≤ f) (hc : cutW w n = w) :
    (lastW f w n).toNat + unitN f = w.toNat + 2 ^ (128 - n).toNat := by
  have e1 : (maskW f &&& ~~~maskW n) &&& ~~~maskW f = 0#128 := by
    apply BitVec.eq_of_getLsbD_eq; intro j hj
    simp only [BitVec.getLsbD_and, BitVec.getLsbD_not, hj, decide_true, Bool.true_and]
    cases (maskW f).getLsbD j <;> simp
  have e2 : (maskW f &&& ~~~maskW n) + ~~~maskW f = ~~~maskW n := by
    rw [BitVec.add_eq_or_of_and_eq_zero _ _ e1]
    apply BitVec.eq_of_getLsbD_eq; intro j hj
    simp only [BitVec.getLsbD_or, BitVec.getLsbD_and, BitVec.getLsbD_not, hj, decide_true, Bool.true_and, maskW_bit _ _ hj]
    by_cases h2 : f.toNat + j < 128
    · have : n.toNat + j < 128 := by omega
      simp [h2, this]
    · simp [h2]
  have e3 : w &&& (maskW f &&& ~~~maskW n) = 0#128 := by
    have := hc
    unfold cutW at this
    apply BitVec.eq_of_getLsbD_eq; intro j hj
    have := congrArg (fun x => BitVec.getLsbD x j) this
    simp only [BitVec.getLsbD_and, BitVec.getLsbD_not, hj, decide_true, Bool.true_and] at this ⊢
    cases h3 : (maskW n).getLsbD j <;> simp_all
  have t1 := BitVec.toNat_add_of_and_eq_zero e1
  rw [e2] at t1
  have t2 := BitVec.toNat_add_of_and_eq_zero e3
  rw [BitVec.add_eq_or_of_and_eq_zero _ _ e3] at t2
  have t3 : (lastW f w n).toNat = w.toNat + (maskW f &&& ~~~maskW n).toNat := t2
  have l1 := low_nat n h0 (by omega)
  have l2 := low_nat f (by omega) hf
  unfold unitN
  omega
theorem len_num {f : Int} {w last : BitVec 128} (hw : rightW f w = 0) (hl : rightW f last = 0) (hle : w ≤ last) :
    ∃ x : Nat, x ≤ 128 ∧ lenW f w last = 128 - x ∧ 2 ^ x ∣ w.toNat ∧ w.toNat + 2 ^ x ≤ last.toNat + unitN f ∧
      (∀ y, y ≤ 128 → 2 ^ y ∣ w.toNat → w.toNat + 2 ^ y ≤ last.toNat + unitN f → y ≤ x) ∧ (lastW f w (lenW f w last)).toNat + unitN f = w.toNat + 2 ^ x := by
  obtain ⟨hf, _⟩ := right_zero hw
  obtain ⟨g1, g2, g3, g4, g5⟩ := len_spec hw hle
  have ex : ∃ x : Nat, x = (128 - lenW f w last).toNat := ⟨_, rfl⟩
  obtain ⟨x, hx⟩ := ex
  have hn : lenW f w last = 128 - x := by omega
  have t := last_nat (by omega) g1 g2 g3
  rw [← hx] at t
  rw [BitVec.le_def] at g4
  refine ⟨x, by omega, hn, (cut_dvd (by omega)).1 (hn ▸ g3), by omega, fun y y0 y1 y2 => ?_, t⟩
  rcases Nat.lt_or_ge x y with hlt | hge
  · have c := (cut_dvd y0).2 y1
    have t2 := last_nat (f := f) (w := w) (n := 128 - y) (by omega) (by omega) (by omega) c
    have e : (128 - (128 - (y : Int))).toNat = y := by omega
    rw [e] at t2
    have := g5 (128 - y) (by omega) (by omega) c (by rw [BitVec.le_def]; omega)
    omega
  · exact hge
/-- one prefix of the cover, by numbers -/
theorem cover_num {f : Int} {w last : BitVec 128} (hw : rightW f w = 0) (hl : rightW f last = 0) (hle : w ≤ last) (k : Nat) :
    ∃ x : Nat, x ≤ 128 ∧ 2 ^ x ∣ w.toNat ∧ w.toNat + 2 ^ x ≤ last.toNat + unitN f ∧
      (∀ y, y ≤ 128 → 2 ^ y ∣ w.toNat → w.toNat + 2 ^ y ≤ last.toNat + unitN f → y ≤ x) ∧
      ((coverF f last k w).length ≤ 1 ∨ w.toNat + 2 ^ x ≤ last.toNat ∧ ∃ k' w', rightW f w' = 0 ∧ w' ≤ last ∧ w'.toNat = w.toNat + 2 ^ x ∧ (coverF f last k w).length = 1 + (coverF f last k' w').length) := by
  obtain ⟨x, h1, h2, h3, h4, h5, h6⟩ := len_num hw hl hle
  refine ⟨x, h1, h3, h4, h5, ?_⟩
  cases k with
  | zero => exact .inl (by simp [coverF])
  | succ k =>
    simp only [coverF]
    by_cases he : lastW f w (lenW f w last) = last
    · exact .inl (by simp [he])
    · obtain ⟨q1, q2, q3, q4⟩ := next_ok (right_last hw _) hl (len_spec hw hle).2.2.2.1 he
      refine .inr ⟨?_, k, _, q2, q3, by omega, ?_⟩
      · rw [BitVec.le_def] at q3; omega
      · simp [q1, he]; omega
theorem unit_le {f : Int} {w last : BitVec 128} (hle : w ≤ last) : unitN f ≤ last.toNat + unitN f - w.toNat := by
  rw [BitVec.le_def] at hle; omega
theorem count_down {f : Int} {last : BitVec 128} (hl : rightW f last = 0) (s : Nat) (hs : unitN f = 2 ^ s) : ∀ (j k : Nat) (w : BitVec 128), rightW f w = 0 → w ≤ last → s + j ≤ 128 →
    last.toNat + unitN f < w.toNat + 2 ^ (s + j) → 2 ^ (s + j) ∣ w.toNat → (coverF f last k w).length ≤ j
  | 0, k, w, hw, hle, hj, h1, h2 => by
    rw [BitVec.le_def] at hle
    rw [hs] at h1
    simp only [Nat.add_zero] at h1
    omega
  | j + 1, k, w, hw, hle, hj, h1, h2 => by
    have hd : 2 ^ (s + j) ∣ w.toNat := Nat.dvd_trans (Nat.pow_dvd_pow 2 (by omega)) h2
    rcases Nat.lt_or_ge (last.toNat + unitN f) (w.toNat + 2 ^ (s + j)) with h3 | h3
    · have := count_down hl s hs j k w hw hle (by omega) h3 hd
      omega
    · obtain ⟨x, x1, x2, x3, x4, x5⟩ := cover_num hw hl hle k
      have hx1 := x4 _ (by omega) hd h3
      have hx2 : x < s + (j + 1) := by
        rcases Nat.lt_or_ge x (s + (j + 1)) with h | h
        · exact h
        · have := Nat.pow_le_pow_right (n := 2) (by omega) h
          omega
      have hx : x = s + j := by omega
      subst hx
      rcases x5 with x5 | ⟨x5, k', w', w1, w2, w3, w4⟩
      · omega
      · have h4 : 2 ^ (s + j + 1) = 2 ^ (s + j) + 2 ^ (s + j) := by rw [Nat.pow_succ]; omega
        have h5 : s + (j + 1) = s + j + 1 := by omega
        rw [h5, h4] at h1
        have := count_down hl s hs j k' w' w1 w2 (by omega) (by omega) (by rw [w3]; exact Nat.dvd_add hd (Nat.dvd_refl _))
        omega
theorem count_up {f : Int} {last : BitVec 128} (hl : rightW f last = 0) (s F : Nat) (hs : unitN f = 2 ^ s) (hF : s + F = 128) (hF2 : 2 ≤ F) : ∀ (d i k : Nat) (w : BitVec 128), rightW f w = 0 → w ≤ last → i + d + 1 = F →
    0 < w.toNat → 2 ^ (s + i) ∣ w.toNat → (coverF f last k w).length ≤ d + (F - 1)
  | d, i, k, w, hw, hle, hi, h0, h1 => by
    have hlt := last.isLt
    have hle' := hle
    rw [BitVec.le_def] at hle'
    have big : ∀ v : Nat, 0 < v → v ≤ last.toNat → ¬ 2 ^ (s + F) ∣ v := by
      intro v v0 v1 v2
      have := Nat.le_of_dvd v0 v2
      rw [hF] at this
      omega
    by_cases hd : 2 ^ (s + (i + 1)) ∣ w.toNat
    · cases d with
      | zero => exact absurd (show 2 ^ (s + F) ∣ w.toNat by rw [show F = i + 1 by omega]; exact hd) (big _ h0 hle')
      | succ d =>
        have := count_up hl s F hs hF hF2 d (i + 1) k w hw hle (by omega) h0 hd
        omega
    · rcases Nat.lt_or_ge (last.toNat + unitN f) (w.toNat + 2 ^ (s + i)) with h3 | h3
      · have := count_down hl s hs i k w hw hle (by omega) h3 h1
        omega
      · obtain ⟨x, x1, x2, x3, x4, x5⟩ := cover_num hw hl hle k
        have hx1 := x4 _ (by omega) h1 h3
        have hx2 : x < s + (i + 1) := by
          rcases Nat.lt_or_ge x (s + (i + 1)) with h | h
          · exact h
          · exact absurd (Nat.dvd_trans (Nat.pow_dvd_pow 2 h) x2) hd
        have hx : x = s + i := by omega
        subst hx
        rcases x5 with x5 | ⟨x5, k', w', w1, w2, w3, w4⟩
        · omega
        · have h4 : 2 ^ (s + (i + 1)) = 2 ^ (s + i) * 2 := by rw [← Nat.add_assoc, Nat.pow_succ]
          have hd' : 2 ^ (s + (i + 1)) ∣ w'.toNat := by
            rw [w3, h4]
            obtain ⟨q, hq⟩ := h1
            rw [hq]
            have : q % 2 = 1 := by
              rcases Nat.mod_two_eq_zero_or_one q with h | h
              · refine absurd ?_ hd
                rw [h4, hq]
                exact Nat.mul_dvd_mul_left _ (Nat.dvd_of_mod_eq_zero h)
              · exact h
            have e : 2 ^ (s + i) * q + 2 ^ (s + i) = 2 ^ (s + i) * (q + 1) := by rw [Nat.mul_add]; omega
            rw [e]
            exact Nat.mul_dvd_mul_left _ (by omega)
          cases d with
          | zero => exact absurd (show 2 ^ (s + F) ∣ w'.toNat by rw [show F = i + 1 by omega]; exact hd') (big _ (by omega) (by rw [w3]; exact x5))
          | succ d =>
            have := count_up hl s F hs hF hF2 d (i + 1) k' w' w1 w2 (by omega) (by omega) hd'
            omega
/-- P405 -/
theorem cover_len {f : Int} {w last : BitVec 128} (hw : rightW f w = 0) (hl : rightW f last = 0) (hle : w ≤ last) : ((coverL f w last).length : Int) ≤ 2 * f - 2 := by
  obtain ⟨hf, hr⟩ := right_zero hw
  have hm := (right_mod hf).1 hr
  obtain ⟨F, hF⟩ : ∃ F : Nat, F = f.toNat := ⟨_, rfl⟩
  have hs : unitN f = 2 ^ (128 - F) := by unfold unitN; congr 1; omega
  have hsF : (128 - F) + F = 128 := by omega
  unfold coverL
  rcases Nat.eq_zero_or_pos w.toNat with h0 | h0
  · rcases Nat.lt_or_ge (last.toNat + unitN f) (2 ^ 128) with h1 | h1
    · have := count_down hl (128 - F) hs F (last.toNat - w.toNat + 1) w hw hle (by omega) (by rw [hsF, h0]; omega) (by rw [h0]; exact Nat.dvd_zero _)
      omega
    · obtain ⟨x, x1, x2, x3, x4, x5⟩ := cover_num hw hl hle (last.toNat - w.toNat + 1)
      have := x4 128 (Nat.le_refl _) (by rw [h0]; exact Nat.dvd_zero _) (by rw [h0]; omega)
      have hx : x = 128 := by omega
      subst hx
      rcases x5 with x5 | ⟨x5, _⟩
      · omega
      · have := last.isLt; omega
  · have := count_up hl (128 - F) F hs hsF (by omega) (F - 1) 0 (last.toNat - w.toNat + 1) w hw hle (by omega) h0 (by rw [Nat.add_zero, ← hs]; exact Nat.dvd_of_mod_eq_zero hm)
    omega
theorem coverE_zero {f : Int} {x y : BitVec 128} (h : coverE f x y = 0) : rightW f x = 0 ∧ rightW f y = 0 ∧ x ≤ y := by
  unfold coverE at h
  split at h
  · rename_i h1; exact absurd h h1
  split at h
  · rename_i h1; exact absurd h h1
  split at h
  · rename_i h1; exact absurd h h1
  split at h
  · cases h
  · rename_i h1 h2 h3 h4
    refine ⟨by simpa using h2, by simpa using h3, ?_⟩
    rw [BitVec.lt_def] at h4
    rw [BitVec.le_def]; omega
theorem coverR_len (f : Int) (x y : BitVec 128) : (coverR f x y).length ≤ 254 := by
  unfold coverR
  split
  · rename_i h
    obtain ⟨h1, h2, h3⟩ := coverE_zero h
    have := cover_len h1 h2 h3
    have := (right_zero h1).1
    rw [List.length_map]; omega
  · simp
end Go.Vx

import Derived.Test.YtijaimiefcohbaaDoorM9
set_option linter.unusedSimpArgs false
set_option linter.unusedVariables false
set_option linter.constructorNameAsVariable false
namespace Go.Vx
open Go Go.RowKit
theorem right_nought {f : Int} (hf : f = 32 ∨ f = 128) : rightW f 0#128 = 0 := right_of hf (by simp)
theorem right_eleven {f : Int} (hf : ¬ (f = 32 ∨ f = 128)) (x : BitVec 128) : rightW f x = 11 := by
  unfold rightW; rw [if_pos (by omega)]
theorem refE1 {f : Int} {x : BitVec 128} (y : BitVec 128) (h : rightW f x ≠ 0) : coverE f x y = rightW f x ∧ coverR f x y = [] := by
  have key : coverE f x y = rightW f x := by
    unfold coverE
    by_cases hf : f = 32 ∨ f = 128
    · rw [if_neg (by simp [right_nought hf]), if_pos h]
    · rw [right_eleven hf, right_eleven hf]; simp
  refine ⟨key, ?_⟩
  unfold coverR
  rw [if_neg (by rw [key]; exact h)]
theorem covQ_of {f : Int} {x y : BitVec 128} (h1 : rightW f x = 0) (h2 : rightW f y = 0) : CovQ f x y 3 :=
  ⟨by simp, fun _ => right_nought (right_zero h1).1, fun _ => h1, fun _ => h2⟩
theorem refE2 {f : Int} {x y : BitVec 128} (h1 : rightW f x = 0) (h : rightW f y ≠ 0) : coverE f x y = rightW f y ∧ coverR f x y = [] := by
  have key : coverE f x y = rightW f y := by
    unfold coverE
    rw [if_neg (by simp [right_nought (right_zero h1).1]), if_neg (by simp [h1]), if_pos h]
  refine ⟨key, ?_⟩
  unfold coverR
  rw [if_neg (by rw [key]; exact h)]
/-- a round of the reference's cover -/
theorem ref_round {f : Int} {last w : BitVec 128} {k : Nat} (hw : rightW f w = 0) (hl : rightW f last = 0) (hle : w ≤ last) (hk : last.toNat - w.toNat < k) :
    ∃ k', k = k' + 1 ∧ (lastW f w (lenW f w last) = last → coverF f last k w = [(w, lenW f w last)]) ∧
      (lastW f w (lenW f w last) ≠ last → coverF f last k w = (w, lenW f w last) :: coverF f last k' (nextW f (lastW f w (lenW f w last))) ∧
        rightW f (nextW f (lastW f w (lenW f w last))) = 0 ∧ nextW f (lastW f w (lenW f w last)) ≤ last ∧ last.toNat - (nextW f (lastW f w (lenW f w last))).toNat < k') := by
  have hs := (len_spec hw hle).2.2.2.1
  obtain ⟨k', h1, h2, h3⟩ := cover_round hw hl hle hk rfl hs
  refine ⟨k', h1, fun he => ?_, fun he => ?_⟩
  · rw [h2]; simp [he]
  · have hst := (next_ok (right_last hw _) hl hs he).1
    have hb : (!stopW f (lastW f w (lenW f w last)) && (lastW f w (lenW f w last) != last)) = true := by simp [hst, he]
    rw [h2, if_pos hb]
    exact ⟨rfl, h3 hb⟩
theorem ne_W {a b c d : BitVec 64} : (!plsEq [.u a, .u b] [.u c, .u d]) = true ↔ W a b ≠ W c d := by
  rw [plsEq_W]; simp
theorem eq_W {a b c d : BitVec 64} : plsEq [.u a, .u b] [.u c, .u d] = true ↔ W a b = W c d := by
  rw [plsEq_W]; simp
theorem ref_step {f n : Int} {x y w : BitVec 128} {L : List (List Pl)} {k : Nat} (hw : rightW f w = 0) (hl : rightW f y = 0) (hle : w ≤ y) (hk : y.toNat - w.toNat < k)
    (htot : (coverL f x y).map prow = L ++ (coverF f y k w).map prow) (hlen : (coverL f x y).length ≤ 1000000) (hend : lenW f w y = n) :
    L.length + 1 ≤ 1000000 ∧ cutW w n = w ∧ (lastW f w n = y → L ++ [prow (w, n)] = (coverL f x y).map prow) ∧
    (lastW f w n ≠ y → ∃ k', k' < k ∧ (coverL f x y).map prow = (L ++ [prow (w, n)]) ++ (coverF f y k' (nextW f (lastW f w n))).map prow ∧
      rightW f (nextW f (lastW f w n)) = 0 ∧ nextW f (lastW f w n) ≤ y ∧ y.toNat - (nextW f (lastW f w n)).toNat < k') := by
  subst hend
  obtain ⟨k', h1, h2, h3⟩ := ref_round hw hl hle hk
  have hl1 := congrArg List.length htot
  simp only [List.length_map, List.length_append] at hl1
  refine ⟨?_, (len_spec hw hle).2.2.1, fun h => ?_, fun h => ?_⟩
  · by_cases h : lastW f w (lenW f w y) = y
    · rw [h2 h] at hl1; simp at hl1; omega
    · rw [(h3 h).1] at hl1; simp at hl1; omega
  · rw [htot, h2 h]; rfl
  · obtain ⟨g1, g2, g3, g4⟩ := h3 h
    refine ⟨k', by omega, ?_, g2, g3, g4⟩
    rw [htot, g1, List.append_assoc]; rfl
theorem or_m {x y : Bool} (h : (match x with | true => true | false => y) = true) : x = true ∨ y = true := by
  cases x
  · exact .inr h
  · exact .inl rfl
theorem or_n {x y : Bool} (h : ¬ (match x with | true => true | false => y) = true) : x = false ∧ y = false := by
  cases x
  · exact ⟨rfl, Bool.eq_false_iff.2 h⟩
  · exact absurd rfl h
/-- why the reference's search stops -/
theorem ref_brk {f n m : Int} {last w : BitVec 128} (hw : rightW f w = 0) (hle : w ≤ last) (h1 : lenW f w last ≤ n) (hn : n ≤ f) (hm : m = n - 1)
    (h : ¬ cutW w m = w ∨ ¬ lastW f (cutW w m) m ≤ last) : lenW f w last = n := by
  subst hm
  refine len_end hw hle h1 hn (.inr ?_)
  by_cases g : cutW w (n - 1) = w
  · rw [g] at h
    rcases h with h | h
    · exact absurd rfl h
    · exact .inr h
  · exact .inl g
theorem ref_more {f n m : Int} {last w : BitVec 128} (hw : rightW f w = 0) (hle : w ≤ last) (h1 : lenW f w last ≤ n) (hn : n ≤ f) (hm : m = n - 1) (h0 : 0 < n)
    (h : cutW w m = w ∧ lastW f (cutW w m) m ≤ last) : lenW f w last ≤ m := by
  subst hm
  obtain ⟨g, h4⟩ := h
  rw [g] at h4
  exact len_down hw hle h1 hn h0 g h4
end Go.Vx

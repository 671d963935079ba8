import Derived.Test.YtijaimiefcohbaaDoorM6
set_option linter.unusedSimpArgs false
set_option linter.unusedVariables false
set_option linter.constructorNameAsVariable false
namespace Go.Vx
open Go Go.RowKit
/-! ### lists that are the same -/
def sameP : List (List Pl) → List (List Pl) → Bool
  | [], [] => true
  | x :: L, y :: M => plsEq x y && sameP L M
  | _, _ => false
def cSame (O : Th) : ConF := fun
  | [.c (.r [.u, .u, .i] L), .c (.r [.u, .u, .i] M)] => some (O.th fun _ => typed [.u, .u, .i] L ∧ typed [.u, .u, .i] M ∧ L.length ≤ 1000000 ∧ M.length ≤ 1000000, [.c (.b (O.th fun _ => sameP L M))])
  | _ => none
theorem row_at3 {L : List (List Pl)} (ht : typed [.u, .u, .i] L) {i : Int} (h0 : 0 ≤ i) (h1 : i < L.length) :
    L.drop i.toNat = [.u (uAt L i 0), .u (uAt L i 1), .i (iAt L i 2)] :: L.drop (i.toNat + 1) := by
  have hlt : i.toNat < L.length := by omega
  rw [List.drop_eq_getElem_cons hlt]
  congr 1
  have hk := ht _ (List.getElem_mem hlt)
  obtain ⟨x0, xs, e0, k0, hk⟩ := kd_cons hk
  obtain ⟨x1, xs1, e1, k1, hk⟩ := kd_cons hk
  obtain ⟨x2, xs2, e2, k2, hk⟩ := kd_cons hk
  obtain rfl := kd_nil hk
  subst e2; subst e1
  obtain ⟨a, rfl⟩ := kd_u k0
  obtain ⟨b, rfl⟩ := kd_u k1
  obtain ⟨c, rfl⟩ := kd_i k2
  have hg : L.getD i.toNat [] = [.u a, .u b, .i c] := by
    rw [List.getD_eq_getElem?_getD, List.getElem?_eq_getElem hlt, e0]; rfl
  simp only [uAt, iAt, hg, e0]
  rfl
theorem sameP_len : ∀ {L M : List (List Pl)}, L.length ≠ M.length → sameP L M = false
  | [], [], h => absurd rfl h
  | [], _ :: _, _ => rfl
  | _ :: _, [], _ => rfl
  | x :: L, y :: M, h => by
    simp only [sameP]
    rw [sameP_len (by simpa using h), Bool.and_false]
/-- the error of ranges.Cover -/
def coverE (f : Int) (x y : BitVec 128) : Int := if rightW f 0#128 ≠ 0 then rightW f 0#128 else if rightW f x ≠ 0 then rightW f x else if rightW f y ≠ 0 then rightW f y else if y < x then 19 else 0
def coverR (f : Int) (x y : BitVec 128) : List (List Pl) := if coverE f x y = 0 then (coverL f x y).map prow else []
def cCover (T : TypeId) (O : Th) : ConF := fun
  | [.c (.i f), .agg [.u a, .u b], .agg [.u c, .u d]] => some (True,
      [.row T [.u, .u, .i] (O.th fun _ => coverR f (W a b) (W c d)), .c (.i (O.th fun _ => coverE f (W a b) (W c d)))])
  | _ => none
theorem typed_prow (l : List (BitVec 128 × Int)) : typed [.u, .u, .i] (l.map prow) := by
  intro r hr
  obtain ⟨p, _, rfl⟩ := List.mem_map.1 hr
  rfl
theorem typed_coverR (f : Int) (x y : BitVec 128) : typed [.u, .u, .i] (coverR f x y) := by
  unfold coverR; split
  · exact typed_prow _
  · intro r hr; cases hr

/-! ### the length of a cover -/
theorem cut_iff {w : BitVec 128} {n : Int} (h0 : 0 ≤ n) (h1 : n ≤ 128) : cutW w n = w ↔ 128 - trailW w ≤ n := by
  obtain ⟨b1, b2⟩ := tzAux_bits 128 w.toNat
  have hle := tzAux_le 128 w.toNat
  unfold cutW trailW
  constructor
  · intro h
    rcases Int.lt_or_le n (128 - (tzAux 128 w.toNat : Int)) with h2 | h2
    · have h3 := b2 (by omega)
      rw [BitVec.testBit_toNat] at h3
      obtain ⟨t, ht⟩ : ∃ t, t = tzAux 128 w.toNat := ⟨_, rfl⟩
      rw [← ht] at h2 h3 hle
      have h5 := congrArg (fun x => BitVec.getLsbD x t) h
      rw [BitVec.getLsbD_and, maskW_bit _ _ (by omega), h3] at h5
      have h4 : n.toNat + t < 128 := by omega
      simp [h4] at h5
    · exact h2
  · intro h
    apply BitVec.eq_of_getLsbD_eq; intro j hj
    rw [BitVec.getLsbD_and, maskW_bit _ _ hj]
    by_cases h2 : n.toNat + j < 128
    · have := b1 j (by omega)
      rw [BitVec.testBit_toNat] at this
      simp [this]
    · simp [h2]
theorem last_anti (f : Int) (w : BitVec 128) {n m : Int} (h : n ≤ m) : lastW f w m ≤ lastW f w n := by
  have e : lastW f w n = lastW f w m ||| lastW f w n := by
    unfold lastW
    apply BitVec.eq_of_getLsbD_eq; intro j hj
    simp only [BitVec.getLsbD_or, BitVec.getLsbD_and, BitVec.getLsbD_not, maskW_bit _ _ hj, hj, decide_true, Bool.true_and, Bool.not_not]
    by_cases h1 : m.toNat + j < 128
    · have h2 : n.toNat + j < 128 := by omega
      simp only [h1, h2, decide_true]
      cases w.getLsbD j <;> simp
    · simp only [h1, decide_false]
      cases w.getLsbD j <;> simp
  rw [e, BitVec.le_def, BitVec.toNat_or]
  exact Nat.left_le_or
theorem lenFrom_le {f : Int} {w last : BitVec 128} : ∀ {J : Nat} {n m : Int}, n ≤ m → m ≤ n + J → lastW f w m ≤ last → lenFrom f w last J n ≤ m
  | 0, n, m, h1, _, _ => h1
  | J + 1, n, m, h1, h2, h3 => by
    simp only [lenFrom]
    split
    · exact h1
    · rename_i h4
      have : n ≠ m := fun h => h4 (h ▸ h3)
      exact lenFrom_le (by omega) (by omega) h3
theorem lenFrom_ok {f : Int} {w last : BitVec 128} : ∀ {J : Nat} {n m : Int}, n ≤ m → m ≤ n + J → lastW f w m ≤ last → lastW f w (lenFrom f w last J n) ≤ last
  | 0, n, m, h1, h2, h3 => by
    have : n = m := by omega
    subst this; exact h3
  | J + 1, n, m, h1, h2, h3 => by
    simp only [lenFrom]
    split
    · assumption
    · rename_i h4
      have : n ≠ m := fun h => h4 (h ▸ h3)
      exact lenFrom_ok (by omega) (by omega) h3
theorem lenFrom_ge {f : Int} {w last : BitVec 128} : ∀ (J : Nat) (n : Int), n ≤ lenFrom f w last J n
  | 0, n => Int.le_refl _
  | J + 1, n => by
    simp only [lenFrom]
    split
    · exact Int.le_refl _
    · have := lenFrom_ge (f := f) (w := w) (last := last) J (n + 1); omega
theorem right_cut {f : Int} {w : BitVec 128} (h : rightW f w = 0) : cutW w f = w := by
  obtain ⟨hf, h2⟩ := right_zero h
  unfold cutW
  apply BitVec.eq_of_getLsbD_eq; intro j hj
  have := congrArg (fun x => BitVec.getLsbD x j) h2
  simp only [BitVec.getLsbD_and, BitVec.getLsbD_not, hj, decide_true, Bool.true_and] at this ⊢
  cases h3 : (maskW f).getLsbD j <;> simp_all
/-- how long the next prefix is -/
theorem len_spec {f : Int} {w last : BitVec 128} (hw : rightW f w = 0) (hle : w ≤ last) :
    0 ≤ lenW f w last ∧ lenW f w last ≤ f ∧ cutW w (lenW f w last) = w ∧ lastW f w (lenW f w last) ≤ last ∧
    (∀ m, 0 ≤ m → m ≤ 128 → cutW w m = w → lastW f w m ≤ last → lenW f w last ≤ m) := by
  obtain ⟨hf, _⟩ := right_zero hw
  have hc := (cut_iff (w := w) (n := f) (by omega) (by omega)).1 (right_cut hw)
  have hb := trailW_bd w
  have hl : lastW f w f ≤ last := by rw [last_full w (Int.le_refl f)]; exact hle
  have h1 : lenW f w last ≤ f := lenFrom_le hc (by omega) hl
  have h2 : 128 - trailW w ≤ lenW f w last := lenFrom_ge _ _
  refine ⟨by omega, h1, (cut_iff (by omega) (by omega)).2 h2, lenFrom_ok hc (by omega) hl, fun m m0 m1 m2 m3 => ?_⟩
  exact lenFrom_le ((cut_iff m0 m1).1 m2) (by omega) m3
/-- the reference's way to it -/
theorem len_down {f n : Int} {w last : BitVec 128} (hw : rightW f w = 0) (hle : w ≤ last) (h1 : lenW f w last ≤ n) (hn : n ≤ f) (h0 : 0 < n)
    (h2 : cutW w (n - 1) = w) (h3 : lastW f w (n - 1) ≤ last) : lenW f w last ≤ n - 1 := by
  obtain ⟨hf, _⟩ := right_zero hw
  exact (len_spec hw hle).2.2.2.2 _ (by omega) (by omega) h2 h3
theorem len_end {f n : Int} {w last : BitVec 128} (hw : rightW f w = 0) (hle : w ≤ last) (h1 : lenW f w last ≤ n) (hn : n ≤ f)
    (h : n ≤ 0 ∨ cutW w (n - 1) ≠ w ∨ ¬ lastW f w (n - 1) ≤ last) : lenW f w last = n := by
  obtain ⟨hf, _⟩ := right_zero hw
  obtain ⟨g1, g2, g3, g4, g5⟩ := len_spec hw hle
  rcases Int.lt_or_le (lenW f w last) n with hlt | hge
  · rcases h with h | h | h
    · omega
    · refine absurd ((cut_iff (by omega) (by omega)).2 ?_) h
      have := (cut_iff (by omega) (by omega)).1 g3
      omega
    · refine absurd ?_ h
      have := last_anti f w (n := lenW f w last) (m := n - 1) (by omega)
      rw [BitVec.le_def] at this g4 ⊢; omega
  · omega
end Go.Vx

import Derived.Test.YtijaimiefcohbaaDoorS2
import Derived.Test.YtijaimiefcohbaaDoorS3
import Derived.Test.YtijaimiefcohbaaDoorM9
set_option linter.unusedSimpArgs false
set_option linter.unusedVariables false
set_option linter.constructorNameAsVariable false
namespace Go.Vx
open Go Go.Proofs Go.RowKit

def sameSt (O : Th) (L M : List (List Pl)) (i : Int) : St :=
  { slots := [(0, true, .a (.c (.p (.r [.u, .u, .i] L)))), (1, true, .a (.c (.p (.r [.u, .u, .i] M)))), (4, true, .a (.c (.p (.b false)))), (5, true, .a (.c (.p (.i i))))]
    ents := [], next := 0, nt := 26 }
def con14 (O : Th) : List (FuncId × Cn) := []
def cx14 (O : Th) : Cx := { tab := R.tab, eqs := R.eqs, con := con14 O, O := O }
theorem cx14_ok : CxOk Tryd.prog (cx14 Th.std) := cx_ok (con := con14) (by
  unfold Cons con14
  exact fun _ h => by cases h)
def k14 (O : Th) : Cn := cnF O true (cSame O)
set_option maxRecDepth 100000 in
theorem f14_ok : ConOk Tryd.prog 14 (k14 Th.std) := by
  refine con_ofF (cx := cx14) (g := cSame) cx14_ok follows Tryd.func14 rfl (by kernel_rfl) ?_
  intro O hO ds c rs hg hc
  unfold cSame at hg
  split at hg
  case h_2 => cases hg
  rename_i L M
  simp only [Option.some.injEq, Prod.mk.injEq] at hg
  obtain ⟨rfl, rfl⟩ := hg

  rw [O.eq] at hc
  obtain ⟨ht1, ht2, hl1, hl2⟩ := hc
  cbv
  repeat' (first | (with_reducible refine ifI ?_ ?_ <;> intro _ <;> cbv) | with_reducible refine And.intro ?_ ?_)
  all_goals (try (first | exact trivial | exact fun _ => trivial | exact fun h => h | rfl | exact fun _ => rfl | exact fun h => ⟨h, trivial⟩ | exact fun h => ⟨h, h, trivial⟩ | exact fun h => ⟨h, h, h, trivial⟩))
  · rename_i hq
    subst hO; dsimp only [Th.std] at *
    have hne : L.length ≠ M.length := by
      intro h
      rw [h] at hq
      simp at hq
    rw [sameP_len hne]
  · have hlen : L.length = M.length := by
      rename_i hq
      subst hO
      dsimp only [Th.std] at hq
      have hq2 : ((L.length : Nat) : Int) = ((M.length : Nat) : Int) := bne_eq_false_iff_eq.1 (by simpa only [Bool.not_eq_true] using hq)
      omega
    refine ⟨{ i : Int // 0 ≤ i ∧ i ≤ L.length ∧ sameP (L.drop i.toNat) (M.drop i.toNat) = sameP L M }, fun i => sameSt O L M i.1, fun i => (L.length - i.1).toNat, ⟨0, Int.le_refl _, Int.natCast_nonneg _, rfl⟩, ?_, ?_⟩
    · cbv
      repeat' (with_reducible refine And.intro ?_ ?_)
      all_goals (try (first | exact trivial | exact fun _ => trivial | exact fun h => h | rfl | exact fun _ => rfl | exact fun h => ⟨h, trivial⟩ | exact fun h => ⟨h, h, trivial⟩ | exact fun h => ⟨h, h, h, trivial⟩))
    · rintro ⟨i, h0, h1, h2⟩
      cbv
      repeat' (first | (with_reducible refine ifI ?_ ?_ <;> intro _ <;> cbv) | with_reducible refine And.intro ?_ ?_)
      all_goals (try (first | exact trivial | exact fun _ => trivial | exact fun h => h | rfl | exact fun _ => rfl | exact fun h => ⟨h, trivial⟩ | exact fun h => ⟨h, h, trivial⟩ | exact fun h => ⟨h, h, h, trivial⟩))
      all_goals (try (intros; subst hO; dsimp only [Th.std] at *; (try simp only [decide_eq_true_eq, Bool.not_eq_true, decide_eq_false_iff_not, forall_const, true_and, and_true] at *); (try simp only [ncast] at *); (try simp only [Int.ofNat_eq_natCast] at *); omega))
      · rename_i hq1 hq
        subst hO; dsimp only [Th.std] at *
        have hlt : i < (L.length : Int) := of_decide_eq_true hq1
        rw [row_at3 ht1 h0 hlt, row_at3 ht2 h0 (by omega)] at h2
        simp only [sameP] at h2
        rw [← h2]
        have hq' : plsEq [.u (uAt L i 0), .u (uAt L i 1), .i (iAt L i 2)] [.u (uAt M i 0), .u (uAt M i 1), .i (iAt M i 2)] = false := by simpa using hq
        rw [hq']
        rfl
      · rename_i hq1 hq
        have hlt : i < L.length := by
          subst hO
          exact of_decide_eq_true hq1
        have hq' : plsEq [.u (uAt L i 0), .u (uAt L i 1), .i (iAt L i 2)] [.u (uAt M i 0), .u (uAt M i 1), .i (iAt M i 2)] = true := by
          subst hO
          dsimp only [Th.std] at hq
          simpa using hq
        rw [row_at3 ht1 h0 hlt, row_at3 ht2 h0 (by omega)] at h2
        simp only [sameP, hq', Bool.true_and] at h2
        obtain ⟨i', hi'⟩ : ∃ x, x = i + 1 := ⟨_, rfl⟩
        have hw : wrap64 (i + 1) = i + 1 := wrap64_of (by omega) (by omega)
        have g1 : 0 ≤ i' := by omega
        have g2 : i' ≤ (L.length : Int) := by omega
        have g3 : sameP (L.drop i'.toNat) (M.drop i'.toNat) = sameP L M := by rw [show i'.toNat = i.toNat + 1 by omega]; exact h2
        refine ⟨⟨i', g1, g2, g3⟩, ?_, ?_⟩
        · show ((L.length : Int) - i').toNat < ((L.length : Int) - i).toNat
          omega
        · cbv
          repeat' (with_reducible refine And.intro ?_ ?_)
          all_goals (try (first | exact trivial | exact fun _ => trivial | exact fun h => h | rfl | exact fun _ => rfl | exact fun h => ⟨h, trivial⟩ | exact fun h => ⟨h, h, trivial⟩ | exact fun h => ⟨h, h, h, trivial⟩))
          all_goals (subst hO; dsimp only [Th.std] at *; rw [hi', hw])
      · rename_i hq1
        subst hO; dsimp only [Th.std] at *
        have : ¬ i < (L.length : Int) := fun h => hq1 (decide_eq_true h)
        have h1' : i ≤ (L.length : Int) := h1
        have this' : ¬ i < (L.length : Int) := this
        have e : i.toNat = L.length := by omega
        rw [e, List.drop_length, hlen, List.drop_length] at h2
        rw [← h2]
        rfl

def CoverSt (O : Th) (f : Int) (a b c d : BitVec 64) (i : Int) : St :=
  { slots := [(0, true, .a (.c (.p (.i f)))), (4, true, .a (.c (.ptr 0 0))), (5, true, .a (.c (.ptr 1 0))), (14, true, .a (.c (.hdr 2 3))), (15, true, .a (.c (.p (.i 3)))), (16, true, .a (.c (.p (.i i))))]
    ents := [(0, .cells [.p (.u a), .p (.u b)] 24), (1, .cells [.p (.u c), .p (.u d)] 24), (2, .own 24 [.u, .u] (threeW a b c d))], next := 3, nt := 35 }
def con11 (O : Th) : List (FuncId × Cn) := [(37, k37 O), (38, k38 O), (39, k39 O)]
def cx11 (O : Th) : Cx := { tab := R.tab, eqs := R.eqs, con := con11 O, O := O }
theorem cx11_ok : CxOk Tryd.prog (cx11 Th.std) := cx_ok (con := con11) (by
  unfold Cons con11
  refine List.forall_mem_cons.2 ⟨f37_ok, ?_⟩
  refine List.forall_mem_cons.2 ⟨f38_ok, ?_⟩
  refine List.forall_mem_cons.2 ⟨f39_ok, ?_⟩
  exact fun _ h => by cases h)
def k11 (O : Th) : Cn := cnF O true (cCover 39 O)
set_option maxRecDepth 100000 in
theorem f11_ok : ConOk Tryd.prog 11 (k11 Th.std) := by
  refine con_ofF (cx := cx11) (g := cCover 39) cx11_ok follows Tryd.func11 rfl (by kernel_rfl) ?_
  intro O hO ds c rs hg hc
  unfold cCover at hg
  split at hg
  case h_2 => cases hg
  rename_i f a b c d
  simp only [Option.some.injEq, Prod.mk.injEq] at hg
  obtain ⟨rfl, rfl⟩ := hg

  cbv
  refine ⟨{ i : Int // CovQ f (W a b) (W c d) i }, fun i => CoverSt O f a b c d i.1, fun i => (3 - i.1).toNat, ⟨0, cov0 f (W a b) (W c d)⟩, ?_, ?_⟩
  · cbv
    repeat' (with_reducible refine And.intro ?_ ?_)
    all_goals (try (first | exact trivial | exact fun _ => trivial | exact fun h => h | rfl | exact fun _ => rfl | exact fun h => ⟨h, trivial⟩ | exact fun h => ⟨h, h, trivial⟩ | exact fun h => ⟨h, h, h, trivial⟩))
    all_goals (subst hO; first | rfl | trivial)
  · rintro ⟨i, hQ⟩
    cbv
    repeat' (first | (with_reducible refine ifI ?_ ?_ <;> intro _ <;> cbv) | with_reducible refine And.intro ?_ ?_)
    all_goals (try (first | exact trivial | exact fun _ => trivial | exact fun h => h | rfl | exact fun _ => rfl | exact fun h => ⟨h, trivial⟩ | exact fun h => ⟨h, h, trivial⟩ | exact fun h => ⟨h, h, h, trivial⟩))
    all_goals (obtain ⟨hi0, hi1⟩ : 0 ≤ i ∧ i ≤ 3 := by have := hQ.1; omega)
    all_goals (try (intros; subst hO; dsimp only [Th.std] at *; (try simp only [decide_eq_true_eq, Bool.not_eq_true, decide_eq_false_iff_not, forall_const, true_and, and_true] at *); (try simp only [ncast] at *); (try simp only [Int.ofNat_eq_natCast] at *); omega))
    · subst hO; dsimp only [Th.std] at *; (try simp only [ncast] at *); (try simp only [Int.ofNat_eq_natCast] at *); dsimp only [List.length]; have := of_decide_eq_true (by assumption); omega
    · subst hO; dsimp only [Th.std] at *; (try simp only [ncast] at *); (try simp only [Int.ofNat_eq_natCast] at *); dsimp only [List.length]; have := of_decide_eq_true (by assumption); omega
    · rename_i q1 q2
      subst hO; dsimp only [Th.std] at *
      rw [(cov_err hQ (of_decide_eq_true q1) (bne_iff_ne.1 q2)).2]; rfl
    · rename_i q1 q2
      subst hO; dsimp only [Th.std] at *
      exact (cov_err hQ (of_decide_eq_true q1) (bne_iff_ne.1 q2)).1.symm
    · rename_i q1 q2
      subst hO; dsimp only [Th.std] at *
      exact (cov_err hQ (of_decide_eq_true q1) (bne_iff_ne.1 q2)).2
    · rename_i q1 q2
      have hQ' : CovQ f (W a b) (W c d) (i + 1) := by
        subst hO; dsimp only [Th.std] at *
        exact cov_next hQ (of_decide_eq_true q1) (bne_eq_false_iff_eq.1 (Bool.eq_false_iff.2 q2))
      have hi : i < 3 := by subst hO; dsimp only [Th.std] at *; exact of_decide_eq_true q1
      obtain ⟨i', hi'⟩ : ∃ x, x = i + 1 := ⟨_, rfl⟩
      refine ⟨⟨i', hi' ▸ hQ'⟩, ?_, ?_⟩
      · show (3 - i').toNat < (3 - i).toNat
        omega
      · cbv
        repeat' (with_reducible refine And.intro ?_ ?_)
        all_goals (try (first | exact trivial | exact fun _ => trivial | exact fun h => h | rfl | exact fun _ => rfl | exact fun h => ⟨h, trivial⟩ | exact fun h => ⟨h, h, trivial⟩ | exact fun h => ⟨h, h, h, trivial⟩))
        all_goals (subst hO; dsimp only [Th.std] at *; rw [hi', wrap64_of (by omega) (by omega)])
    · rename_i q1 q2
      subst hO; dsimp only [Th.std] at *
      rw [(cov_ord hQ (fun h => q1 (decide_eq_true h)) (of_decide_eq_true q2)).2]; rfl
    · rename_i q1 q2
      subst hO; dsimp only [Th.std] at *
      exact (cov_ord hQ (fun h => q1 (decide_eq_true h)) (of_decide_eq_true q2)).1.symm
    · rename_i q1 q2
      subst hO; dsimp only [Th.std] at *
      exact (cov_ord hQ (fun h => q1 (decide_eq_true h)) (of_decide_eq_true q2)).2
    all_goals (rename_i q1 q2
               subst hO; dsimp only [Th.std] at *
               obtain ⟨g1, g2, g3⟩ := cov_done hQ (fun h => q1 (decide_eq_true h)) (fun h => q2 (decide_eq_true h))
               first
                 | with_reducible exact g3
                 | (rw [g2]; done)
                 | exact g1.symm)
end Go.Vx

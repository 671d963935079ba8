import Derived.Test.YtijaimiefcohbaaDoorS5
import Derived.Test.YtijaimiefcohbaaDoorM11
set_option linter.unusedSimpArgs false
set_option linter.unusedVariables false
set_option linter.constructorNameAsVariable false
namespace Go.Vx
open Go Go.Proofs Go.RowKit
def con13 (O : Th) : List (FuncId × Cn) := [(11, k11 O)]
def cx13 (O : Th) : Cx := { tab := R.tab, eqs := R.eqs, con := con13 O, O := O }
theorem cx13_ok : CxOk Tryd.prog (cx13 Th.std) := cx_ok (con := con13) (by
  unfold Cons con13
  refine List.forall_mem_cons.2 ⟨f11_ok, ?_⟩
  exact fun _ h => by cases h)
def k13 (O : Th) : Cn := cnF O true (cKnown O)
set_option maxHeartbeats 4000000 in
set_option maxRecDepth 100000 in
theorem f13_ok : ConOk Tryd.prog 13 (k13 Th.std) := by
  refine con_ofF (cx := cx13) (g := cKnown) cx13_ok follows Tryd.func13 rfl (by kernel_rfl) ?_
  intro O hO ds c rs hg hc
  unfold cKnown at hg
  split at hg
  case h_2 => cases hg
  skip
  simp only [Option.some.injEq, Prod.mk.injEq] at hg
  obtain ⟨rfl, rfl⟩ := hg
  cbv
  repeat' (first | (with_reducible refine ifI ?_ ?_ <;> intro _ <;> cbv) | with_reducible refine And.intro ?_ ?_)
  all_goals (try (first | exact trivial | exact fun _ => trivial | exact fun h => h | rfl | exact fun _ => rfl | exact fun h => ⟨h, trivial⟩ | exact fun h => ⟨h, h, trivial⟩ | exact fun h => ⟨h, h, h, trivial⟩ | (intro hh; (try dsimp only); (repeat' (first | exact trivial | exact hh | rfl | with_reducible refine And.intro ?_ ?_ | (intro h2; first | rfl | (rw [h2]; done) | exact h2))); done)))
  all_goals (subst hO; dsimp only [Th.std] at *; simp only [raw64, BitVec.ofNat_eq_ofNat, known_err, known_rows])
  all_goals simp [uAt, iAt, plsEq, eq1]
def con3 (O : Th) : List (FuncId × Cn) := [(11, k11 O), (12, k12 O), (13, k13 O), (14, k14 O)]
def cx3 (O : Th) : Cx := { tab := R.tab, eqs := R.eqs, con := con3 O, O := O }
theorem cx3_ok : CxOk Tryd.prog (cx3 Th.std) := cx_ok (con := con3) (by
  unfold Cons con3
  refine List.forall_mem_cons.2 ⟨f11_ok, ?_⟩
  refine List.forall_mem_cons.2 ⟨f12_ok, ?_⟩
  refine List.forall_mem_cons.2 ⟨f13_ok, ?_⟩
  refine List.forall_mem_cons.2 ⟨f14_ok, ?_⟩
  exact fun _ h => by cases h)
def k3 (O : Th) : Cn := cnF O true (cTrue3 O)
set_option maxHeartbeats 4000000 in
set_option maxRecDepth 100000 in
theorem f3_ok : ConOk Tryd.prog 3 (k3 Th.std) := by
  refine con_ofF (cx := cx3) (g := cTrue3) cx3_ok follows Tryd.func3 rfl (by kernel_rfl) ?_
  intro O hO ds c rs hg hc
  unfold cTrue3 at hg
  split at hg
  case h_2 => cases hg
  rename_i f a b c d
  simp only [Option.some.injEq, Prod.mk.injEq] at hg
  obtain ⟨rfl, rfl⟩ := hg
  cbv
  repeat' (first | (with_reducible refine ifI ?_ ?_ <;> intro _ <;> cbv) | with_reducible refine And.intro ?_ ?_)
  all_goals (try (first | exact trivial | exact fun _ => trivial | exact fun h => h | rfl | exact fun _ => rfl | exact fun h => ⟨h, trivial⟩ | exact fun h => ⟨h, h, trivial⟩ | exact fun h => ⟨h, h, h, trivial⟩ | (intro hh; (try dsimp only); (repeat' (first | exact trivial | exact hh | rfl | with_reducible refine And.intro ?_ ?_ | (intro h2; first | rfl | (rw [h2]; done) | exact h2))); done)))
  all_goals (subst hO; dsimp only [Th.std] at *; simp only [List.take_length, sameP_self _ (typed_coverR f (W a b) (W c d)), Nat.le_trans (coverR_len f (W a b) (W c d)) (show 254 ≤ 1000000 by decide), typed_coverR, BEq.rfl, Nat.le_refl, and_self, implies_true])
end Go.Vx

import Derived.Test.YtijaimiefcohbaaDoorM10
set_option linter.unusedSimpArgs false
set_option linter.unusedVariables false
set_option linter.constructorNameAsVariable false
namespace Go.Vx
open Go Go.RowKit
theorem sameP_self : ∀ (L : List (List Pl)), typed [.u, .u, .i] L → sameP L L = true
  | [], _ => rfl
  | x :: L, h => by
    simp only [sameP, sameP_self L (fun r hr => h r (List.mem_cons_of_mem _ hr)), Bool.and_true]
    have hk := h x List.mem_cons_self
    obtain ⟨x0, xs, e0, k0, hk⟩ := kd_cons hk
    obtain ⟨x1, xs1, e1, k1, hk⟩ := kd_cons hk
    obtain ⟨x2, xs2, e2, k2, hk⟩ := kd_cons hk
    obtain rfl := kd_nil hk
    subst e2; subst e1; subst e0
    obtain ⟨a, rfl⟩ := kd_u k0
    obtain ⟨b, rfl⟩ := kd_u k1
    obtain ⟨c, rfl⟩ := kd_i k2
    simp [plsEq, eq1]
/-- the chapter's first example -/
theorem known_len : lenW 32 (W 720575940379279360#64 0#64) (W 720577035595939840#64 0#64) = 24 := by kernel_rfl
theorem known_last : lastW 32 (W 720575940379279360#64 0#64) 24 = W 720577035595939840#64 0#64 := by kernel_rfl
theorem known_err : coverE 32 (W 720575940379279360#64 0#64) (W 720577035595939840#64 0#64) = 0 := by kernel_rfl
theorem known_rows : coverR 32 (W 720575940379279360#64 0#64) (W 720577035595939840#64 0#64) = [[.u 720575940379279360#64, .u 0#64, .i 24]] := by
  unfold coverR
  rw [if_pos known_err]
  unfold coverL
  simp only [coverF, known_len, known_last, decide_true, Bool.or_true, if_true]
  simp only [List.map_cons, List.map_nil, prow, hi_W, lo_W]
def cKnown (O : Th) : ConF := fun | [] => some (True, [.c (.b (O.th fun _ => true))]) | _ => none
def cTrue3 (O : Th) : ConF := fun | [.c (.i f), .agg [.u a, .u b], .agg [.u c, .u d]] => some (True, [.c (.b (O.th fun _ => true))]) | _ => none
end Go.Vx

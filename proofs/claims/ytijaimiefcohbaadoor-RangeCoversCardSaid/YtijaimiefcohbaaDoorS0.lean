import Derived.Test.YtijaimiefcohbaaDoorX20
import Derived.Test.YtijaimiefcohbaaDoorProg
set_option linter.unusedSimpArgs false
set_option linter.unusedVariables false
set_option linter.constructorNameAsVariable false
namespace Go.Vx
open Go Go.Proofs Go.RowKit
theorem follows : Tryd.prog.follows .mixedOrders = true := by kernel_rfl
def R.tab : List (TypeId × TI) := [(3, ⟨false, 1, 8, [.i 0], [], [], none, false, 0, none, some .i64, none⟩),
  (4, ⟨false, 1, 1, [.b false], [], [], none, false, 0, none, none, none⟩),
  (22, ⟨false, 1, 8, [.u 0], [], [], none, false, 0, none, some .u64, none⟩),
  (24, ⟨true, 2, 16, [.u 0, .u 0], [], [(0, 22), (1, 22)], none, false, 0, none, none, some [(0, 1), (1, 1)]⟩),
  (25, ⟨false, 1, 24, [.n [.u, .u, .i]], [.u, .u, .i], [], some 39, true, 1, none, none, none⟩),
  (26, ⟨false, 1, 8, [.i 0], [], [], none, false, 0, none, some .i64, none⟩),
  (39, ⟨true, 3, 24, [.u 0, .u 0, .i 0], [], [(0, 24), (2, 3)], none, false, 0, none, none, some [(0, 2), (2, 1)]⟩),
  (53, ⟨false, 1, 24, [.n [.u, .u, .u, .u, .i]], [.u, .u, .u, .u, .i], [], some 58, true, 1, none, none, none⟩),
  (58, ⟨true, 5, 40, [.u 0, .u 0, .u 0, .u 0, .i 0], [], [(0, 24), (2, 24), (4, 3)], none, false, 0, none, none, some [(0, 2), (2, 2), (4, 1)]⟩),
  (59, ⟨false, 1, 8, [.v .nilFunc], [], [], none, false, 3, none, none, none⟩),
  (64, ⟨true, 3, 24, [.u 0, .u 0, .u 0], [], [], some 22, false, 0, some 3, none, none⟩),
  (73, ⟨false, 1, 24, [.n [.u, .u]], [.u, .u], [], some 24, true, 1, none, none, none⟩),
  (83, ⟨false, 1, 8, [.v .nilFunc], [], [], none, false, 3, none, none, none⟩),
  (87, ⟨false, 1, 8, [.v (.pointer none)], [], [], none, false, 2, none, none, none⟩),
  (98, ⟨false, 1, 8, [.u 0], [], [], none, false, 0, none, some .u64, none⟩),
  (102, ⟨false, 1, 8, [.i 0], [], [], none, false, 0, none, some .i64, none⟩),
  (112, ⟨false, 1, 8, [.u 0], [], [], none, false, 0, none, some .u64, none⟩),
  (116, ⟨false, 1, 8, [.v (.pointer none)], [], [], none, false, 2, none, none, none⟩)]
theorem R.tab_ok : ∀ p ∈ R.tab, tinfo Tryd.prog p.1 p.2.ks p.2.zero = some p.2 := by
  unfold R.tab
  refine List.forall_mem_cons.2 ⟨by kernel_rfl, ?_⟩
  refine List.forall_mem_cons.2 ⟨by kernel_rfl, ?_⟩
  refine List.forall_mem_cons.2 ⟨by kernel_rfl, ?_⟩
  refine List.forall_mem_cons.2 ⟨by kernel_rfl, ?_⟩
  refine List.forall_mem_cons.2 ⟨by kernel_rfl, ?_⟩
  refine List.forall_mem_cons.2 ⟨by kernel_rfl, ?_⟩
  refine List.forall_mem_cons.2 ⟨by kernel_rfl, ?_⟩
  refine List.forall_mem_cons.2 ⟨by kernel_rfl, ?_⟩
  refine List.forall_mem_cons.2 ⟨by kernel_rfl, ?_⟩
  refine List.forall_mem_cons.2 ⟨by kernel_rfl, ?_⟩
  refine List.forall_mem_cons.2 ⟨by kernel_rfl, ?_⟩
  refine List.forall_mem_cons.2 ⟨by kernel_rfl, ?_⟩
  refine List.forall_mem_cons.2 ⟨by kernel_rfl, ?_⟩
  refine List.forall_mem_cons.2 ⟨by kernel_rfl, ?_⟩
  refine List.forall_mem_cons.2 ⟨by kernel_rfl, ?_⟩
  refine List.forall_mem_cons.2 ⟨by kernel_rfl, ?_⟩
  refine List.forall_mem_cons.2 ⟨by kernel_rfl, ?_⟩
  refine List.forall_mem_cons.2 ⟨by kernel_rfl, ?_⟩
  exact fun _ h => by cases h
theorem eqA24 (d : Nat) (w : World) (x0 : Int) (x1 : Int) (y0 : Int) (y1 : Int) :
    (Op.equalIn (d + 2) 24 (.agg #[.int .u64 x0, .int .u64 x1]) (.agg #[.int .u64 y0, .int .u64 y1])).run Tryd.prog w = .ok (((x0 == y0) && (x1 == y1))) w := by
  refine ef_struct Tryd.underlying24 (by kernel_rfl) ?_
  refine ef_cons (by rfl) (by go_simp; rfl) (by go_simp; rfl) (by go_simp) ?_
  exact ef_last (by rfl) (by go_simp; rfl) (by go_simp; rfl) (by go_simp)
theorem eq24 : EqOk Tryd.prog 24 [.u, .u] := eqOk_of (by kernel_rfl) fun xs ys hx hy w => by
  obtain ⟨x0, xs, rfl, kx0, hx⟩ := kd_cons hx
  obtain ⟨x1, xs, rfl, kx1, hx⟩ := kd_cons hx
  obtain rfl := kd_nil hx
  obtain ⟨x0, rfl⟩ := kd_u kx0
  obtain ⟨x1, rfl⟩ := kd_u kx1
  obtain ⟨y0, ys, rfl, ky0, hy⟩ := kd_cons hy
  obtain ⟨y1, ys, rfl, ky1, hy⟩ := kd_cons hy
  obtain rfl := kd_nil hy
  obtain ⟨y0, rfl⟩ := kd_u ky0
  obtain ⟨y1, rfl⟩ := kd_u ky1
  refine (eqA24 _ w _ _ _ _).trans ?_
  simp only [plsEq, eq1, beq_toNat, Bool.and_assoc]
theorem eqA39 (d : Nat) (w : World) (x0 : Int) (x1 : Int) (x2 : Int) (y0 : Int) (y1 : Int) (y2 : Int) :
    (Op.equalIn (d + 3) 39 (.agg #[.int .u64 x0, .int .u64 x1, .int .i64 x2]) (.agg #[.int .u64 y0, .int .u64 y1, .int .i64 y2])).run Tryd.prog w = .ok (((((x0 == y0) && (x1 == y1))) && (x2 == y2))) w := by
  refine ef_struct Tryd.underlying39 (by kernel_rfl) ?_
  refine ef_cons (by rfl) (by go_simp) (by go_simp) (eqA24 (d + 0) w _ _ _ _) ?_
  exact ef_last (by rfl) (by go_simp; rfl) (by go_simp; rfl) (by go_simp)
theorem eq39 : EqOk Tryd.prog 39 [.u, .u, .i] := eqOk_of (by kernel_rfl) fun xs ys hx hy w => by
  obtain ⟨x0, xs, rfl, kx0, hx⟩ := kd_cons hx
  obtain ⟨x1, xs, rfl, kx1, hx⟩ := kd_cons hx
  obtain ⟨x2, xs, rfl, kx2, hx⟩ := kd_cons hx
  obtain rfl := kd_nil hx
  obtain ⟨x0, rfl⟩ := kd_u kx0
  obtain ⟨x1, rfl⟩ := kd_u kx1
  obtain ⟨x2, rfl⟩ := kd_i kx2
  obtain ⟨y0, ys, rfl, ky0, hy⟩ := kd_cons hy
  obtain ⟨y1, ys, rfl, ky1, hy⟩ := kd_cons hy
  obtain ⟨y2, ys, rfl, ky2, hy⟩ := kd_cons hy
  obtain rfl := kd_nil hy
  obtain ⟨y0, rfl⟩ := kd_u ky0
  obtain ⟨y1, rfl⟩ := kd_u ky1
  obtain ⟨y2, rfl⟩ := kd_i ky2
  refine (eqA39 _ w _ _ _ _ _ _).trans ?_
  simp only [plsEq, eq1, beq_toNat, Bool.and_assoc]
theorem eqA58 (d : Nat) (w : World) (x0 : Int) (x1 : Int) (x2 : Int) (x3 : Int) (x4 : Int) (y0 : Int) (y1 : Int) (y2 : Int) (y3 : Int) (y4 : Int) :
    (Op.equalIn (d + 3) 58 (.agg #[.int .u64 x0, .int .u64 x1, .int .u64 x2, .int .u64 x3, .int .i64 x4]) (.agg #[.int .u64 y0, .int .u64 y1, .int .u64 y2, .int .u64 y3, .int .i64 y4])).run Tryd.prog w = .ok (((((x0 == y0) && (x1 == y1))) && ((((x2 == y2) && (x3 == y3))) && (x4 == y4)))) w := by
  refine ef_struct Tryd.underlying58 (by kernel_rfl) ?_
  refine ef_cons (by rfl) (by go_simp) (by go_simp) (eqA24 (d + 0) w _ _ _ _) ?_
  refine ef_cons (by rfl) (by go_simp) (by go_simp) (eqA24 (d + 0) w _ _ _ _) ?_
  exact ef_last (by rfl) (by go_simp; rfl) (by go_simp; rfl) (by go_simp)
theorem eq58 : EqOk Tryd.prog 58 [.u, .u, .u, .u, .i] := eqOk_of (by kernel_rfl) fun xs ys hx hy w => by
  obtain ⟨x0, xs, rfl, kx0, hx⟩ := kd_cons hx
  obtain ⟨x1, xs, rfl, kx1, hx⟩ := kd_cons hx
  obtain ⟨x2, xs, rfl, kx2, hx⟩ := kd_cons hx
  obtain ⟨x3, xs, rfl, kx3, hx⟩ := kd_cons hx
  obtain ⟨x4, xs, rfl, kx4, hx⟩ := kd_cons hx
  obtain rfl := kd_nil hx
  obtain ⟨x0, rfl⟩ := kd_u kx0
  obtain ⟨x1, rfl⟩ := kd_u kx1
  obtain ⟨x2, rfl⟩ := kd_u kx2
  obtain ⟨x3, rfl⟩ := kd_u kx3
  obtain ⟨x4, rfl⟩ := kd_i kx4
  obtain ⟨y0, ys, rfl, ky0, hy⟩ := kd_cons hy
  obtain ⟨y1, ys, rfl, ky1, hy⟩ := kd_cons hy
  obtain ⟨y2, ys, rfl, ky2, hy⟩ := kd_cons hy
  obtain ⟨y3, ys, rfl, ky3, hy⟩ := kd_cons hy
  obtain ⟨y4, ys, rfl, ky4, hy⟩ := kd_cons hy
  obtain rfl := kd_nil hy
  obtain ⟨y0, rfl⟩ := kd_u ky0
  obtain ⟨y1, rfl⟩ := kd_u ky1
  obtain ⟨y2, rfl⟩ := kd_u ky2
  obtain ⟨y3, rfl⟩ := kd_u ky3
  obtain ⟨y4, rfl⟩ := kd_i ky4
  refine (eqA58 _ w _ _ _ _ _ _ _ _ _ _).trans ?_
  simp only [plsEq, eq1, beq_toNat, Bool.and_assoc]
def R.eqs : List (TypeId × List Kd) := [(24, [.u, .u]), (39, [.u, .u, .i]), (58, [.u, .u, .u, .u, .i])]
theorem R.eqs_ok : ∀ p ∈ R.eqs, EqOk Tryd.prog p.1 p.2 := by
  unfold R.eqs
  refine List.forall_mem_cons.2 ⟨eq24, ?_⟩
  refine List.forall_mem_cons.2 ⟨eq39, ?_⟩
  refine List.forall_mem_cons.2 ⟨eq58, ?_⟩
  exact fun _ h => by cases h
set_option maxRecDepth 100000 in
theorem R.tb_ok : TbOk Tryd.prog { tab := R.tab, eqs := R.eqs, O := Th.std } := ⟨fun T ti h => R.tab_ok _ (lookup_mem' h), fun T ks h => R.eqs_ok _ (lookup_mem' h)⟩
/-- contracts at hand -/
def Cons (con : Th → List (FuncId × Cn)) : Prop := ∀ p ∈ con Th.std, ConOk Tryd.prog p.1 p.2
set_option maxRecDepth 100000 in
theorem cx_ok {con : Th → List (FuncId × Cn)} (h : Cons con) : CxOk Tryd.prog { tab := R.tab, eqs := R.eqs, con := con Th.std, O := Th.std } :=
  ⟨R.tb_ok, fun f fn hf => h _ (lookup_mem' hf)⟩
end Go.Vx

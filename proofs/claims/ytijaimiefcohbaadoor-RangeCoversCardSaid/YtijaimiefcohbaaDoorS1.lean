import Derived.Test.YtijaimiefcohbaaDoorS0
import Derived.Test.YtijaimiefcohbaaDoorM6
set_option linter.unusedSimpArgs false
set_option linter.unusedVariables false
set_option linter.constructorNameAsVariable false
namespace Go.Vx
open Go Go.Proofs Go.RowKit
def con64 (O : Th) : List (FuncId × Cn) := []
def cx64 (O : Th) : Cx := { tab := R.tab, eqs := R.eqs, con := con64 O, O := O }
theorem cx64_ok : CxOk Tryd.prog (cx64 Th.std) := cx_ok (con := con64) (by
  unfold Cons con64
  exact fun _ h => by cases h)
def k64 (O : Th) : Cn := cnF O true (cAnd O)
set_option maxRecDepth 100000 in
theorem f64_ok : ConOk Tryd.prog 64 (k64 Th.std) := by
  refine con_ofF (cx := cx64) (g := cAnd) cx64_ok follows Tryd.func64 rfl (by kernel_rfl) ?_
  intro O hO ds c rs hg hc
  unfold cAnd at hg
  split at hg
  case h_2 => cases hg
  rename_i a b c d
  simp only [Option.some.injEq, Prod.mk.injEq] at hg
  obtain ⟨rfl, rfl⟩ := hg
  cbv
  repeat' (first | (with_reducible refine ifI ?_ ?_ <;> intro _ <;> cbv) | with_reducible refine And.intro ?_ ?_)
  all_goals (try (first | exact trivial | exact fun _ => trivial | exact fun h => h | rfl | exact fun _ => rfl | exact fun h => ⟨h, trivial⟩ | exact fun h => ⟨h, h, trivial⟩ | exact fun h => ⟨h, h, h, trivial⟩))
  all_goals (subst hO; dsimp only [Th.std] at *)
  all_goals (try simp only [decide_eq_true_eq, Int.not_le, Int.not_lt, forall_const, true_and, and_true, List.cons.injEq, Cel.p.injEq, Pl.u.injEq, Pl.i.injEq, Pl.b.injEq, AV.c.injEq, raw64] at *)
  all_goals (try simp only [W_hi_lo, W_inj, and_self])
  all_goals simp [hi_and, lo_and]
def con73 (O : Th) : List (FuncId × Cn) := []
def cx73 (O : Th) : Cx := { tab := R.tab, eqs := R.eqs, con := con73 O, O := O }
theorem cx73_ok : CxOk Tryd.prog (cx73 Th.std) := cx_ok (con := con73) (by
  unfold Cons con73
  exact fun _ h => by cases h)
def k73 (O : Th) : Cn := cnF O true (cOr O)
set_option maxRecDepth 100000 in
theorem f73_ok : ConOk Tryd.prog 73 (k73 Th.std) := by
  refine con_ofF (cx := cx73) (g := cOr) cx73_ok follows Tryd.func73 rfl (by kernel_rfl) ?_
  intro O hO ds c rs hg hc
  unfold cOr at hg
  split at hg
  case h_2 => cases hg
  rename_i a b c d
  simp only [Option.some.injEq, Prod.mk.injEq] at hg
  obtain ⟨rfl, rfl⟩ := hg
  cbv
  repeat' (first | (with_reducible refine ifI ?_ ?_ <;> intro _ <;> cbv) | with_reducible refine And.intro ?_ ?_)
  all_goals (try (first | exact trivial | exact fun _ => trivial | exact fun h => h | rfl | exact fun _ => rfl | exact fun h => ⟨h, trivial⟩ | exact fun h => ⟨h, h, trivial⟩ | exact fun h => ⟨h, h, h, trivial⟩))
  all_goals (subst hO; dsimp only [Th.std] at *)
  all_goals (try simp only [decide_eq_true_eq, Int.not_le, Int.not_lt, forall_const, true_and, and_true, List.cons.injEq, Cel.p.injEq, Pl.u.injEq, Pl.i.injEq, Pl.b.injEq, AV.c.injEq, raw64] at *)
  all_goals (try simp only [W_hi_lo, W_inj, and_self])
  all_goals simp [hi_or, lo_or]
def con65 (O : Th) : List (FuncId × Cn) := []
def cx65 (O : Th) : Cx := { tab := R.tab, eqs := R.eqs, con := con65 O, O := O }
theorem cx65_ok : CxOk Tryd.prog (cx65 Th.std) := cx_ok (con := con65) (by
  unfold Cons con65
  exact fun _ h => by cases h)
def k65 (O : Th) : Cn := cnF O true (cNot O)
set_option maxRecDepth 100000 in
theorem f65_ok : ConOk Tryd.prog 65 (k65 Th.std) := by
  refine con_ofF (cx := cx65) (g := cNot) cx65_ok follows Tryd.func65 rfl (by kernel_rfl) ?_
  intro O hO ds c rs hg hc
  unfold cNot at hg
  split at hg
  case h_2 => cases hg
  rename_i a b
  simp only [Option.some.injEq, Prod.mk.injEq] at hg
  obtain ⟨rfl, rfl⟩ := hg
  cbv
  repeat' (first | (with_reducible refine ifI ?_ ?_ <;> intro _ <;> cbv) | with_reducible refine And.intro ?_ ?_)
  all_goals (try (first | exact trivial | exact fun _ => trivial | exact fun h => h | rfl | exact fun _ => rfl | exact fun h => ⟨h, trivial⟩ | exact fun h => ⟨h, h, trivial⟩ | exact fun h => ⟨h, h, h, trivial⟩))
  all_goals (subst hO; dsimp only [Th.std] at *)
  all_goals (try simp only [decide_eq_true_eq, Int.not_le, Int.not_lt, forall_const, true_and, and_true, List.cons.injEq, Cel.p.injEq, Pl.u.injEq, Pl.i.injEq, Pl.b.injEq, AV.c.injEq, raw64] at *)
  all_goals (try simp only [W_hi_lo, W_inj, and_self])
  all_goals simp [hi_not, lo_not]
def con80 (O : Th) : List (FuncId × Cn) := []
def cx80 (O : Th) : Cx := { tab := R.tab, eqs := R.eqs, con := con80 O, O := O }
theorem cx80_ok : CxOk Tryd.prog (cx80 Th.std) := cx_ok (con := con80) (by
  unfold Cons con80
  exact fun _ h => by cases h)
def k80 (O : Th) : Cn := cnF O true (cOnes O)
set_option maxRecDepth 100000 in
theorem f80_ok : ConOk Tryd.prog 80 (k80 Th.std) := by
  refine con_ofF (cx := cx80) (g := cOnes) cx80_ok follows Tryd.func80 rfl (by kernel_rfl) ?_
  intro O hO ds c rs hg hc
  unfold cOnes at hg
  split at hg
  case h_2 => cases hg
  skip
  simp only [Option.some.injEq, Prod.mk.injEq] at hg
  obtain ⟨rfl, rfl⟩ := hg
  cbv
  repeat' (first | (with_reducible refine ifI ?_ ?_ <;> intro _ <;> cbv) | with_reducible refine And.intro ?_ ?_)
  all_goals (try (first | exact trivial | exact fun _ => trivial | exact fun h => h | rfl | exact fun _ => rfl | exact fun h => ⟨h, trivial⟩ | exact fun h => ⟨h, h, trivial⟩ | exact fun h => ⟨h, h, h, trivial⟩))
  all_goals (subst hO; dsimp only [Th.std] at *)
  all_goals (try simp only [decide_eq_true_eq, Int.not_le, Int.not_lt, forall_const, true_and, and_true, List.cons.injEq, Cel.p.injEq, Pl.u.injEq, Pl.i.injEq, Pl.b.injEq, AV.c.injEq, raw64] at *)
  all_goals (try simp only [W_hi_lo, W_inj, and_self])
  all_goals decide
def con58 (O : Th) : List (FuncId × Cn) := []
def cx58 (O : Th) : Cx := { tab := R.tab, eqs := R.eqs, con := con58 O, O := O }
theorem cx58_ok : CxOk Tryd.prog (cx58 Th.std) := cx_ok (con := con58) (by
  unfold Cons con58
  exact fun _ h => by cases h)
def k58 (O : Th) : Cn := cnF O true (cShr O)
set_option maxRecDepth 100000 in
theorem f58_ok : ConOk Tryd.prog 58 (k58 Th.std) := by
  refine con_ofF (cx := cx58) (g := cShr) cx58_ok follows Tryd.func58 rfl (by kernel_rfl) ?_
  intro O hO ds c rs hg hc
  unfold cShr at hg
  split at hg
  case h_2 => cases hg
  rename_i a b n
  simp only [Option.some.injEq, Prod.mk.injEq] at hg
  obtain ⟨rfl, rfl⟩ := hg
  cbv
  repeat' (first | (with_reducible refine ifI ?_ ?_ <;> intro _ <;> cbv) | with_reducible refine And.intro ?_ ?_)
  all_goals (try (first | exact trivial | exact fun _ => trivial | exact fun h => h | rfl | exact fun _ => rfl | exact fun h => ⟨h, trivial⟩ | exact fun h => ⟨h, h, trivial⟩ | exact fun h => ⟨h, h, h, trivial⟩))
  all_goals (subst hO; dsimp only [Th.std] at *)
  all_goals (try simp only [decide_eq_true_eq, Int.not_le, Int.not_lt, forall_const, true_and, and_true, List.cons.injEq, Cel.p.injEq, Pl.u.injEq, Pl.i.injEq, Pl.b.injEq, AV.c.injEq, raw64] at *)
  all_goals (try simp only [W_hi_lo, W_inj, and_self])
  all_goals first
    | exact ((shr_end a b n).1 (by omega)).1
    | exact ((shr_end a b n).1 (by omega)).2
    | exact ((shr_end a b n).2.1 (by omega) (by omega)).1
    | exact ((shr_end a b n).2.1 (by omega) (by omega)).2
    | exact ((shr_end a b n).2.2.1 (by omega) (by omega)).1
    | exact ((shr_end a b n).2.2.1 (by omega) (by omega)).2
    | exact ((shr_end a b n).2.2.2 (by omega)).1
    | exact ((shr_end a b n).2.2.2 (by omega)).2
    | (rw [wrap64_of (by omega) (by omega)]; omega)
    | omega
def con92 (O : Th) : List (FuncId × Cn) := []
def cx92 (O : Th) : Cx := { tab := R.tab, eqs := R.eqs, con := con92 O, O := O }
theorem cx92_ok : CxOk Tryd.prog (cx92 Th.std) := cx_ok (con := con92) (by
  unfold Cons con92
  exact fun _ h => by cases h)
def k92 (O : Th) : Cn := cnF O true (cShl O)
set_option maxRecDepth 100000 in
theorem f92_ok : ConOk Tryd.prog 92 (k92 Th.std) := by
  refine con_ofF (cx := cx92) (g := cShl) cx92_ok follows Tryd.func92 rfl (by kernel_rfl) ?_
  intro O hO ds c rs hg hc
  unfold cShl at hg
  split at hg
  case h_2 => cases hg
  rename_i a b n
  simp only [Option.some.injEq, Prod.mk.injEq] at hg
  obtain ⟨rfl, rfl⟩ := hg
  cbv
  repeat' (first | (with_reducible refine ifI ?_ ?_ <;> intro _ <;> cbv) | with_reducible refine And.intro ?_ ?_)
  all_goals (try (first | exact trivial | exact fun _ => trivial | exact fun h => h | rfl | exact fun _ => rfl | exact fun h => ⟨h, trivial⟩ | exact fun h => ⟨h, h, trivial⟩ | exact fun h => ⟨h, h, h, trivial⟩))
  all_goals (subst hO; dsimp only [Th.std] at *)
  all_goals (try simp only [decide_eq_true_eq, Int.not_le, Int.not_lt, forall_const, true_and, and_true, List.cons.injEq, Cel.p.injEq, Pl.u.injEq, Pl.i.injEq, Pl.b.injEq, AV.c.injEq, raw64] at *)
  all_goals (try simp only [W_hi_lo, W_inj, and_self])
  all_goals first
    | exact ((shl_end a b n).1 (by omega)).1
    | exact ((shl_end a b n).1 (by omega)).2
    | exact ((shl_end a b n).2.1 (by omega) (by omega)).1
    | exact ((shl_end a b n).2.1 (by omega) (by omega)).2
    | exact ((shl_end a b n).2.2.1 (by omega) (by omega)).1
    | exact ((shl_end a b n).2.2.1 (by omega) (by omega)).2
    | exact ((shl_end a b n).2.2.2 (by omega)).1
    | exact ((shl_end a b n).2.2.2 (by omega)).2
    | (rw [wrap64_of (by omega) (by omega)]; omega)
    | omega
def con66 (O : Th) : List (FuncId × Cn) := [(58, k58 O), (65, k65 O), (80, k80 O)]
def cx66 (O : Th) : Cx := { tab := R.tab, eqs := R.eqs, con := con66 O, O := O }
theorem cx66_ok : CxOk Tryd.prog (cx66 Th.std) := cx_ok (con := con66) (by
  unfold Cons con66
  refine List.forall_mem_cons.2 ⟨f58_ok, ?_⟩
  refine List.forall_mem_cons.2 ⟨f65_ok, ?_⟩
  refine List.forall_mem_cons.2 ⟨f80_ok, ?_⟩
  exact fun _ h => by cases h)
def k66 (O : Th) : Cn := cnF O true (cMask O)
set_option maxRecDepth 100000 in
theorem f66_ok : ConOk Tryd.prog 66 (k66 Th.std) := by
  refine con_ofF (cx := cx66) (g := cMask) cx66_ok follows Tryd.func66 rfl (by kernel_rfl) ?_
  intro O hO ds c rs hg hc
  unfold cMask at hg
  split at hg
  case h_2 => cases hg
  rename_i n
  simp only [Option.some.injEq, Prod.mk.injEq] at hg
  obtain ⟨rfl, rfl⟩ := hg
  cbv
  repeat' (first | (with_reducible refine ifI ?_ ?_ <;> intro _ <;> cbv) | with_reducible refine And.intro ?_ ?_)
  all_goals (try (first | exact trivial | exact fun _ => trivial | exact fun h => h | rfl | exact fun _ => rfl | exact fun h => ⟨h, trivial⟩ | exact fun h => ⟨h, h, trivial⟩ | exact fun h => ⟨h, h, h, trivial⟩))
  all_goals (subst hO; dsimp only [Th.std] at *)
  all_goals (try simp only [decide_eq_true_eq, Int.not_le, Int.not_lt, forall_const, true_and, and_true, List.cons.injEq, Cel.p.injEq, Pl.u.injEq, Pl.i.injEq, Pl.b.injEq, AV.c.injEq, raw64] at *)
  all_goals (try simp only [W_hi_lo, W_inj, and_self])
  all_goals simp [maskW]
def con38 (O : Th) : List (FuncId × Cn) := []
def cx38 (O : Th) : Cx := { tab := R.tab, eqs := R.eqs, con := con38 O, O := O }
theorem cx38_ok : CxOk Tryd.prog (cx38 Th.std) := cx_ok (con := con38) (by
  unfold Cons con38
  exact fun _ h => by cases h)
def k38 (O : Th) : Cn := cnF O true (cCmp O)
set_option maxRecDepth 100000 in
theorem f38_ok : ConOk Tryd.prog 38 (k38 Th.std) := by
  refine con_ofF (cx := cx38) (g := cCmp) cx38_ok follows Tryd.func38 rfl (by kernel_rfl) ?_
  intro O hO ds c rs hg hc
  unfold cCmp at hg
  split at hg
  case h_2 => cases hg
  rename_i a b c d
  simp only [Option.some.injEq, Prod.mk.injEq] at hg
  obtain ⟨rfl, rfl⟩ := hg
  cbv
  repeat' (first | (with_reducible refine ifI ?_ ?_ <;> intro _ <;> cbv) | with_reducible refine And.intro ?_ ?_)
  all_goals (try (first | exact trivial | exact fun _ => trivial | exact fun h => h | rfl | exact fun _ => rfl | exact fun h => ⟨h, trivial⟩ | exact fun h => ⟨h, h, trivial⟩ | exact fun h => ⟨h, h, h, trivial⟩))
  all_goals (subst hO; dsimp only [Th.std] at *)
  all_goals (try simp only [decide_eq_true_eq, Int.not_le, Int.not_lt, forall_const, true_and, and_true, List.cons.injEq, Cel.p.injEq, Pl.u.injEq, Pl.i.injEq, Pl.b.injEq, AV.c.injEq, raw64] at *)
  all_goals (try simp only [W_hi_lo, W_inj, and_self])
  all_goals (repeat (rename_i q; revert q))
  all_goals (cases h1 : decide (a < c) <;> cases h2 : (a == c) <;> cases h3 : decide (b < d) <;> cases h4 : (b == d) <;>
    (first | have g1 := of_decide_eq_true h1 | have g1 := of_decide_eq_false h1) <;> (first | have g2 := beq_iff_eq.1 h2 | have g2 := beq_eq_false_iff_ne.1 h2) <;>
    (first | have g3 := of_decide_eq_true h3 | have g3 := of_decide_eq_false h3) <;> (first | have g4 := beq_iff_eq.1 h4 | have g4 := beq_eq_false_iff_ne.1 h4) <;>
    simp [h1, h2, h3, h4, g1, g2, g3, g4, plsEq, eq1, cmpW, W_inj, W_lt, -BitVec.not_lt])
  all_goals (try exact absurd (g2 ▸ g1) (BitVec.lt_irrefl _))
  all_goals (subst g4; exact absurd g3 (BitVec.lt_irrefl _))
set_option maxRecDepth 100000 in
theorem f59_ok : ConOk Tryd.prog 59 (cnF Th.std true (fAdd64 Th.std)) := add64_ok Tryd.func59 (by kernel_rfl) (by kernel_rfl) (by kernel_rfl) (by kernel_rfl)
set_option maxRecDepth 100000 in
theorem f77_ok : ConOk Tryd.prog 77 (cnF Th.std true (fSub64 Th.std)) := sub64_ok Tryd.func77 (by kernel_rfl) (by kernel_rfl) (by kernel_rfl) (by kernel_rfl)
def con74 (O : Th) : List (FuncId × Cn) := [(59, (fun O => cnF O true (fAdd64 O)) O)]
def cx74 (O : Th) : Cx := { tab := R.tab, eqs := R.eqs, con := con74 O, O := O }
theorem cx74_ok : CxOk Tryd.prog (cx74 Th.std) := cx_ok (con := con74) (by
  unfold Cons con74
  refine List.forall_mem_cons.2 ⟨f59_ok, ?_⟩
  exact fun _ h => by cases h)
def k74 (O : Th) : Cn := cnF O true (cAdd O)
set_option maxRecDepth 100000 in
theorem f74_ok : ConOk Tryd.prog 74 (k74 Th.std) := by
  refine con_ofF (cx := cx74) (g := cAdd) cx74_ok follows Tryd.func74 rfl (by kernel_rfl) ?_
  intro O hO ds c rs hg hc
  unfold cAdd at hg
  split at hg
  case h_2 => cases hg
  rename_i a b c d
  simp only [Option.some.injEq, Prod.mk.injEq] at hg
  obtain ⟨rfl, rfl⟩ := hg
  cbv
  repeat' (first | (with_reducible refine ifI ?_ ?_ <;> intro _ <;> cbv) | with_reducible refine And.intro ?_ ?_)
  all_goals (try (first | exact trivial | exact fun _ => trivial | exact fun h => h | rfl | exact fun _ => rfl | exact fun h => ⟨h, trivial⟩ | exact fun h => ⟨h, h, trivial⟩ | exact fun h => ⟨h, h, h, trivial⟩))
  all_goals (subst hO; dsimp only [Th.std] at *)
  all_goals (try simp only [decide_eq_true_eq, Int.not_le, Int.not_lt, forall_const, true_and, and_true, List.cons.injEq, Cel.p.injEq, Pl.u.injEq, Pl.i.injEq, Pl.b.injEq, AV.c.injEq, raw64] at *)
  all_goals (try simp only [W_hi_lo, W_inj, and_self])
  all_goals first | exact carry_le _ _ _ | exact add_hi _ _ _ _ | exact add_lo _ _ _ _ | exact add_over _ _ _ _ | decide
section
set_option maxRecDepth 100000
theorem tz_calls (x v : Int) (w : World) (hx : x ≠ 0)
    (hi : 0 ≤ IntKind.u64.wrap (bits BinOp.and IntKind.u64 x (IntKind.u64.wrap (-x)) * 285870213051353865) / 288230376151711744 ∧ IntKind.u64.wrap (bits BinOp.and IntKind.u64 x (IntKind.u64.wrap (-x)) * 285870213051353865) / 288230376151711744 < 64)
    (hc : w.cell? { block := 0, off := (IntKind.u64.wrap (bits BinOp.and IntKind.u64 x (IntKind.u64.wrap (-x)) * 285870213051353865) / 288230376151711744).toNat } = some (.int .u8 v)) (hv : 0 ≤ v ∧ v < 64) :
    Calls Tryd.prog 81 #[.int .u64 x] w fun e w' => e = .returned (.int .i64 v) ∧ w' = w := by
  have hx' : (x == 0) = false := by simpa using hx
  have hvw : IntKind.i64.wrap v = v := by rw [IntKind.wrap_i64]; omega
  go_enter Tryd.func81, Tryd.ntmps81
  go_wp2
  go_ret
  exact ⟨rfl, rfl⟩
theorem tz_calls0 (w : World) :
    Calls Tryd.prog 81 #[.int .u64 0] w fun e w' => e = .returned (.int .i64 64) ∧ w' = w := by
  go_enter Tryd.func81, Tryd.ntmps81
  go_wp2
  go_ret
  exact ⟨rfl, rfl⟩
theorem tz_glob : Tryd.prog.globalNamed "math/bits.deBruijn64tab" = some 0 := by kernel_rfl
theorem tz_ok : ConOk Tryd.prog 81 (cnF Th.std true (fTz Th.std)) := by
  refine con_of_flat fun w Z args ds c rs hgl hfz hargs hg hc => ?_
  unfold fTz at hg
  split at hg
  case h_2 => cases hg
  rename_i x
  simp only [Option.some.injEq, Prod.mk.injEq] at hg
  obtain ⟨-, rfl⟩ := hg
  dsimp only [Th.std]
  cases hargs; rename_i h1 h; cases h
  cases h1; rename_i h1; cases h1; rename_i h1; cases h1
  have fin : ∀ v : Int, Calls Tryd.prog 81 #[.int .u64 x.toNat] w (fun e w' => e = .returned (.int .i64 v) ∧ w' = w) → CallR Tryd.prog 81 [Value.int .u64 x.toNat].toArray w fun u w' => u = pack [.int .i64 v] ∧ w' = w := by
    intro v h
    exact .inl ⟨callFunc_enter Tryd.func81 rfl (by kernel_rfl) _ _, Calls.mono h fun e w' ⟨h1, h2⟩ => ⟨_, h1, rfl, h2⟩⟩
  refine ⟨rfl, [.int .i64 (tz64 x : Int)], .cons (.c (.p (.i _))) .nil, fin _ ?_⟩
  by_cases hx : x = 0
  · subst hx
    rw [tz64_zero]
    exact tz_calls0 w
  · obtain ⟨m, hm, ht, key⟩ := tz_idx hx
    have hk := tz64_lt hx
    refine tz_calls (x.toNat : Int) (tz64 x : Int) w ?_ ?_ ?_ ⟨Int.natCast_nonneg _, by omega⟩
    · intro h
      refine hx (BitVec.eq_of_toNat_eq ?_)
      rw [Int.natCast_eq_zero.1 h]; rfl
    · rw [key]; exact ⟨Int.natCast_nonneg _, by omega⟩
    · rw [key]
      refine hfz.cell (hgl "math/bits.deBruijn64tab" _ 0 tz_known tz_glob _ _ ?_)
      rw [List.getElem?_map, Int.toNat_natCast, ht]
      rfl
end
def con67 (O : Th) : List (FuncId × Cn) := [(81, (fun O => cnF O true (fTz O)) O)]
def cx67 (O : Th) : Cx := { tab := R.tab, eqs := R.eqs, con := con67 O, O := O }
theorem cx67_ok : CxOk Tryd.prog (cx67 Th.std) := cx_ok (con := con67) (by
  unfold Cons con67
  refine List.forall_mem_cons.2 ⟨tz_ok, ?_⟩
  exact fun _ h => by cases h)
def k67 (O : Th) : Cn := cnF O true (cTrail O)
set_option maxRecDepth 100000 in
theorem f67_ok : ConOk Tryd.prog 67 (k67 Th.std) := by
  refine con_ofF (cx := cx67) (g := cTrail) cx67_ok follows Tryd.func67 rfl (by kernel_rfl) ?_
  intro O hO ds c rs hg hc
  unfold cTrail at hg
  split at hg
  case h_2 => cases hg
  rename_i a b
  simp only [Option.some.injEq, Prod.mk.injEq] at hg
  obtain ⟨rfl, rfl⟩ := hg
  cbv
  repeat' (first | (with_reducible refine ifI ?_ ?_ <;> intro _ <;> cbv) | with_reducible refine And.intro ?_ ?_)
  all_goals (try (first | exact trivial | exact fun _ => trivial | exact fun h => h | rfl | exact fun _ => rfl | exact fun h => ⟨h, trivial⟩ | exact fun h => ⟨h, h, trivial⟩ | exact fun h => ⟨h, h, h, trivial⟩))
  all_goals (subst hO; dsimp only [Th.std] at *)
  all_goals (try simp only [decide_eq_true_eq, Int.not_le, Int.not_lt, forall_const, true_and, and_true, List.cons.injEq, Cel.p.injEq, Pl.u.injEq, Pl.i.injEq, Pl.b.injEq, AV.c.injEq, raw64] at *)
  all_goals (try simp only [W_hi_lo, W_inj, and_self])
  · rename_i h; exact trail_lo a (by simpa using h)
  · rename_i h
    have : b = 0 := by simpa using h
    subst this; exact trail_hi a
def con37 (O : Th) : List (FuncId × Cn) := [(64, k64 O), (65, k65 O), (66, k66 O)]
def cx37 (O : Th) : Cx := { tab := R.tab, eqs := R.eqs, con := con37 O, O := O }
theorem cx37_ok : CxOk Tryd.prog (cx37 Th.std) := cx_ok (con := con37) (by
  unfold Cons con37
  refine List.forall_mem_cons.2 ⟨f64_ok, ?_⟩
  refine List.forall_mem_cons.2 ⟨f65_ok, ?_⟩
  refine List.forall_mem_cons.2 ⟨f66_ok, ?_⟩
  exact fun _ h => by cases h)
def k37 (O : Th) : Cn := cnF O true (cRight O)
set_option maxRecDepth 100000 in
theorem f37_ok : ConOk Tryd.prog 37 (k37 Th.std) := by
  refine con_ofF (cx := cx37) (g := cRight) cx37_ok follows Tryd.func37 rfl (by kernel_rfl) ?_
  intro O hO ds c rs hg hc
  unfold cRight at hg
  split at hg
  case h_2 => cases hg
  rename_i f a b
  simp only [Option.some.injEq, Prod.mk.injEq] at hg
  obtain ⟨rfl, rfl⟩ := hg
  cbv
  repeat' (first | (with_reducible refine ifI ?_ ?_ <;> intro _ <;> cbv) | with_reducible refine And.intro ?_ ?_)
  all_goals (try (first | exact trivial | exact fun _ => trivial | exact fun h => h | rfl | exact fun _ => rfl | exact fun h => ⟨h, trivial⟩ | exact fun h => ⟨h, h, trivial⟩ | exact fun h => ⟨h, h, h, trivial⟩))
  all_goals (subst hO; dsimp only [Th.std] at *)
  all_goals (try simp only [decide_eq_true_eq, Int.not_le, Int.not_lt, forall_const, true_and, and_true, List.cons.injEq, Cel.p.injEq, Pl.u.injEq, Pl.i.injEq, Pl.b.injEq, AV.c.injEq, raw64] at *)
  all_goals (try simp only [W_hi_lo, W_inj, and_self])
  all_goals (repeat (rename_i q; revert q))
  all_goals (repeat' (first | split | intro _))
  all_goals (by_cases h1 : f = 32 <;> by_cases h2 : f = 128 <;> by_cases h3 : W a b &&& ~~~maskW f = 0#128 <;> simp_all [plsEq_W, rightW, W_zero])
def con75 (O : Th) : List (FuncId × Cn) := [(92, k92 O)]
def cx75 (O : Th) : Cx := { tab := R.tab, eqs := R.eqs, con := con75 O, O := O }
theorem cx75_ok : CxOk Tryd.prog (cx75 Th.std) := cx_ok (con := con75) (by
  unfold Cons con75
  refine List.forall_mem_cons.2 ⟨f92_ok, ?_⟩
  exact fun _ h => by cases h)
def k75 (O : Th) : Cn := cnF O true (cUnit O)
set_option maxRecDepth 100000 in
theorem f75_ok : ConOk Tryd.prog 75 (k75 Th.std) := by
  refine con_ofF (cx := cx75) (g := cUnit) cx75_ok follows Tryd.func75 rfl (by kernel_rfl) ?_
  intro O hO ds c rs hg hc
  unfold cUnit at hg
  split at hg
  case h_2 => cases hg
  rename_i f
  simp only [Option.some.injEq, Prod.mk.injEq] at hg
  obtain ⟨rfl, rfl⟩ := hg
  cbv
  repeat' (first | (with_reducible refine ifI ?_ ?_ <;> intro _ <;> cbv) | with_reducible refine And.intro ?_ ?_)
  all_goals (try (first | exact trivial | exact fun _ => trivial | exact fun h => h | rfl | exact fun _ => rfl | exact fun h => ⟨h, trivial⟩ | exact fun h => ⟨h, h, trivial⟩ | exact fun h => ⟨h, h, h, trivial⟩))
  all_goals (subst hO; dsimp only [Th.std] at *)
  all_goals (try simp only [decide_eq_true_eq, Int.not_le, Int.not_lt, forall_const, true_and, and_true, List.cons.injEq, Cel.p.injEq, Pl.u.injEq, Pl.i.injEq, Pl.b.injEq, AV.c.injEq, raw64] at *)
  all_goals (try simp only [W_hi_lo, W_inj, and_self])
  all_goals (rcases hc with rfl | rfl <;> kernel_rfl)
def con55 (O : Th) : List (FuncId × Cn) := [(37, k37 O), (66, k66 O), (74, k74 O), (75, k75 O)]
def cx55 (O : Th) : Cx := { tab := R.tab, eqs := R.eqs, con := con55 O, O := O }
theorem cx55_ok : CxOk Tryd.prog (cx55 Th.std) := cx_ok (con := con55) (by
  unfold Cons con55
  refine List.forall_mem_cons.2 ⟨f37_ok, ?_⟩
  refine List.forall_mem_cons.2 ⟨f66_ok, ?_⟩
  refine List.forall_mem_cons.2 ⟨f74_ok, ?_⟩
  refine List.forall_mem_cons.2 ⟨f75_ok, ?_⟩
  exact fun _ h => by cases h)
def k55 (O : Th) : Cn := cnF O true (cNext O)
set_option maxRecDepth 100000 in
theorem f55_ok : ConOk Tryd.prog 55 (k55 Th.std) := by
  refine con_ofF (cx := cx55) (g := cNext) cx55_ok follows Tryd.func55 rfl (by kernel_rfl) ?_
  intro O hO ds c rs hg hc
  unfold cNext at hg
  split at hg
  case h_2 => cases hg
  rename_i f a b
  simp only [Option.some.injEq, Prod.mk.injEq] at hg
  obtain ⟨rfl, rfl⟩ := hg
  cbv
  repeat' (first | (with_reducible refine ifI ?_ ?_ <;> intro _ <;> cbv) | with_reducible refine And.intro ?_ ?_)
  all_goals (try (first | exact trivial | exact fun _ => trivial | exact fun h => h | rfl | exact fun _ => rfl | exact fun h => ⟨h, trivial⟩ | exact fun h => ⟨h, h, trivial⟩ | exact fun h => ⟨h, h, h, trivial⟩))
  all_goals (subst hO; dsimp only [Th.std] at *)
  all_goals (try simp only [decide_eq_true_eq, Int.not_le, Int.not_lt, forall_const, true_and, and_true, List.cons.injEq, Cel.p.injEq, Pl.u.injEq, Pl.i.injEq, Pl.b.injEq, AV.c.injEq, raw64] at *)
  all_goals (try simp only [W_hi_lo, W_inj, and_self])
  all_goals (repeat (rename_i q; revert q))
  all_goals (by_cases h1 : rightW f (W a b) = 0 <;> by_cases h2 : W a b = maskW f <;>
    (first | have h3 := bne_eq_false_iff_eq.2 h1 | have h3 := bne_iff_ne.2 h1) <;>
    (try simp only [h3]) <;> intros <;> first | exact (right_zero h1).1 | simp_all [plsEq_W, nextW, stopW, hi_zero, lo_zero])
def con54 (O : Th) : List (FuncId × Cn) := [(64, k64 O), (65, k65 O), (66, k66 O), (73, k73 O)]
def cx54 (O : Th) : Cx := { tab := R.tab, eqs := R.eqs, con := con54 O, O := O }
theorem cx54_ok : CxOk Tryd.prog (cx54 Th.std) := cx_ok (con := con54) (by
  unfold Cons con54
  refine List.forall_mem_cons.2 ⟨f64_ok, ?_⟩
  refine List.forall_mem_cons.2 ⟨f65_ok, ?_⟩
  refine List.forall_mem_cons.2 ⟨f66_ok, ?_⟩
  refine List.forall_mem_cons.2 ⟨f73_ok, ?_⟩
  exact fun _ h => by cases h)
def k54 (O : Th) : Cn := cnF O true (cLast O)
set_option maxRecDepth 100000 in
theorem f54_ok : ConOk Tryd.prog 54 (k54 Th.std) := by
  refine con_ofF (cx := cx54) (g := cLast) cx54_ok follows Tryd.func54 rfl (by kernel_rfl) ?_
  intro O hO ds c rs hg hc
  unfold cLast at hg
  split at hg
  case h_2 => cases hg
  rename_i f a b n
  simp only [Option.some.injEq, Prod.mk.injEq] at hg
  obtain ⟨rfl, rfl⟩ := hg
  cbv
  repeat' (first | (with_reducible refine ifI ?_ ?_ <;> intro _ <;> cbv) | with_reducible refine And.intro ?_ ?_)
  all_goals (try (first | exact trivial | exact fun _ => trivial | exact fun h => h | rfl | exact fun _ => rfl | exact fun h => ⟨h, trivial⟩ | exact fun h => ⟨h, h, trivial⟩ | exact fun h => ⟨h, h, h, trivial⟩))
  all_goals (subst hO; dsimp only [Th.std] at *)
  all_goals (try simp only [decide_eq_true_eq, Int.not_le, Int.not_lt, forall_const, true_and, and_true, List.cons.injEq, Cel.p.injEq, Pl.u.injEq, Pl.i.injEq, Pl.b.injEq, AV.c.injEq, raw64] at *)
  all_goals (try simp only [W_hi_lo, W_inj, and_self])
  all_goals rfl
end Go.Vx

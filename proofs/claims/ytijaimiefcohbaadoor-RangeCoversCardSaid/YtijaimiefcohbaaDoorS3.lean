import Derived.Test.YtijaimiefcohbaaDoorS1
set_option linter.unusedSimpArgs false
set_option linter.unusedVariables false
set_option linter.constructorNameAsVariable false
namespace Go.Vx
open Go Go.Proofs Go.RowKit
def con16 (O : Th) : List (FuncId × Cn) := []
def cx16 (O : Th) : Cx := { tab := R.tab, eqs := R.eqs, con := con16 O, O := O }
theorem cx16_ok : CxOk Tryd.prog (cx16 Th.std) := cx_ok (con := con16) (by
  unfold Cons con16
  exact fun _ h => by cases h)
def k16 (O : Th) : Cn := cnF O true (cAnd O)
set_option maxRecDepth 100000 in
theorem f16_ok : ConOk Tryd.prog 16 (k16 Th.std) := by
  refine con_ofF (cx := cx16) (g := cAnd) cx16_ok follows Tryd.func16 rfl (by kernel_rfl) ?_
  intro O hO ds c rs hg hc
  unfold cAnd at hg
  split at hg
  case h_2 => cases hg
  rename_i a b c d
  simp only [Option.some.injEq, Prod.mk.injEq] at hg
  obtain ⟨rfl, rfl⟩ := hg
  cbv
  repeat' (first | (with_reducible refine ifI ?_ ?_ <;> intro _ <;> cbv) | with_reducible refine And.intro ?_ ?_)
  all_goals (try (first | exact trivial | exact fun _ => trivial | exact fun h => h | rfl | exact fun _ => rfl | exact fun h => ⟨h, trivial⟩ | exact fun h => ⟨h, h, trivial⟩ | exact fun h => ⟨h, h, h, trivial⟩))
  all_goals (subst hO; dsimp only [Th.std] at *)
  all_goals (try simp only [decide_eq_true_eq, Int.not_le, Int.not_lt, forall_const, true_and, and_true, List.cons.injEq, Cel.p.injEq, Pl.u.injEq, Pl.i.injEq, Pl.b.injEq, AV.c.injEq, raw64] at *)
  all_goals (try simp only [W_hi_lo, W_inj, and_self])
  all_goals simp [hi_and, lo_and]
def con43 (O : Th) : List (FuncId × Cn) := []
def cx43 (O : Th) : Cx := { tab := R.tab, eqs := R.eqs, con := con43 O, O := O }
theorem cx43_ok : CxOk Tryd.prog (cx43 Th.std) := cx_ok (con := con43) (by
  unfold Cons con43
  exact fun _ h => by cases h)
def k43 (O : Th) : Cn := cnF O true (cOr O)
set_option maxRecDepth 100000 in
theorem f43_ok : ConOk Tryd.prog 43 (k43 Th.std) := by
  refine con_ofF (cx := cx43) (g := cOr) cx43_ok follows Tryd.func43 rfl (by kernel_rfl) ?_
  intro O hO ds c rs hg hc
  unfold cOr at hg
  split at hg
  case h_2 => cases hg
  rename_i a b c d
  simp only [Option.some.injEq, Prod.mk.injEq] at hg
  obtain ⟨rfl, rfl⟩ := hg
  cbv
  repeat' (first | (with_reducible refine ifI ?_ ?_ <;> intro _ <;> cbv) | with_reducible refine And.intro ?_ ?_)
  all_goals (try (first | exact trivial | exact fun _ => trivial | exact fun h => h | rfl | exact fun _ => rfl | exact fun h => ⟨h, trivial⟩ | exact fun h => ⟨h, h, trivial⟩ | exact fun h => ⟨h, h, h, trivial⟩))
  all_goals (subst hO; dsimp only [Th.std] at *)
  all_goals (try simp only [decide_eq_true_eq, Int.not_le, Int.not_lt, forall_const, true_and, and_true, List.cons.injEq, Cel.p.injEq, Pl.u.injEq, Pl.i.injEq, Pl.b.injEq, AV.c.injEq, raw64] at *)
  all_goals (try simp only [W_hi_lo, W_inj, and_self])
  all_goals simp [hi_or, lo_or]
def con44 (O : Th) : List (FuncId × Cn) := []
def cx44 (O : Th) : Cx := { tab := R.tab, eqs := R.eqs, con := con44 O, O := O }
theorem cx44_ok : CxOk Tryd.prog (cx44 Th.std) := cx_ok (con := con44) (by
  unfold Cons con44
  exact fun _ h => by cases h)
def k44 (O : Th) : Cn := cnF O true (cNot O)
set_option maxRecDepth 100000 in
theorem f44_ok : ConOk Tryd.prog 44 (k44 Th.std) := by
  refine con_ofF (cx := cx44) (g := cNot) cx44_ok follows Tryd.func44 rfl (by kernel_rfl) ?_
  intro O hO ds c rs hg hc
  unfold cNot at hg
  split at hg
  case h_2 => cases hg
  rename_i a b
  simp only [Option.some.injEq, Prod.mk.injEq] at hg
  obtain ⟨rfl, rfl⟩ := hg
  cbv
  repeat' (first | (with_reducible refine ifI ?_ ?_ <;> intro _ <;> cbv) | with_reducible refine And.intro ?_ ?_)
  all_goals (try (first | exact trivial | exact fun _ => trivial | exact fun h => h | rfl | exact fun _ => rfl | exact fun h => ⟨h, trivial⟩ | exact fun h => ⟨h, h, trivial⟩ | exact fun h => ⟨h, h, h, trivial⟩))
  all_goals (subst hO; dsimp only [Th.std] at *)
  all_goals (try simp only [decide_eq_true_eq, Int.not_le, Int.not_lt, forall_const, true_and, and_true, List.cons.injEq, Cel.p.injEq, Pl.u.injEq, Pl.i.injEq, Pl.b.injEq, AV.c.injEq, raw64] at *)
  all_goals (try simp only [W_hi_lo, W_inj, and_self])
  all_goals simp [hi_not, lo_not]
def con18 (O : Th) : List (FuncId × Cn) := []
def cx18 (O : Th) : Cx := { tab := R.tab, eqs := R.eqs, con := con18 O, O := O }
theorem cx18_ok : CxOk Tryd.prog (cx18 Th.std) := cx_ok (con := con18) (by
  unfold Cons con18
  exact fun _ h => by cases h)
def k18 (O : Th) : Cn := cnF O true (cCmp O)
set_option maxRecDepth 100000 in
theorem f18_ok : ConOk Tryd.prog 18 (k18 Th.std) := by
  refine con_ofF (cx := cx18) (g := cCmp) cx18_ok follows Tryd.func18 rfl (by kernel_rfl) ?_
  intro O hO ds c rs hg hc
  unfold cCmp at hg
  split at hg
  case h_2 => cases hg
  rename_i a b c d
  simp only [Option.some.injEq, Prod.mk.injEq] at hg
  obtain ⟨rfl, rfl⟩ := hg
  cbv
  repeat' (first | (with_reducible refine ifI ?_ ?_ <;> intro _ <;> cbv) | with_reducible refine And.intro ?_ ?_)
  all_goals (try (first | exact trivial | exact fun _ => trivial | exact fun h => h | rfl | exact fun _ => rfl | exact fun h => ⟨h, trivial⟩ | exact fun h => ⟨h, h, trivial⟩ | exact fun h => ⟨h, h, h, trivial⟩))
  all_goals (subst hO; dsimp only [Th.std] at *)
  all_goals (try simp only [decide_eq_true_eq, Int.not_le, Int.not_lt, forall_const, true_and, and_true, List.cons.injEq, Cel.p.injEq, Pl.u.injEq, Pl.i.injEq, Pl.b.injEq, AV.c.injEq, raw64] at *)
  all_goals (try simp only [W_hi_lo, W_inj, and_self])
  all_goals (repeat (rename_i q; revert q))
  all_goals (cases h1 : decide (a < c) <;> cases h2 : (a == c) <;> cases h3 : decide (b < d) <;> cases h4 : (b == d) <;>
    (first | have g1 := of_decide_eq_true h1 | have g1 := of_decide_eq_false h1) <;> (first | have g2 := beq_iff_eq.1 h2 | have g2 := beq_eq_false_iff_ne.1 h2) <;>
    (first | have g3 := of_decide_eq_true h3 | have g3 := of_decide_eq_false h3) <;> (first | have g4 := beq_iff_eq.1 h4 | have g4 := beq_eq_false_iff_ne.1 h4) <;>
    simp [h1, h2, h3, h4, g1, g2, g3, g4, plsEq, eq1, cmpW, W_inj, W_lt, -BitVec.not_lt])
  all_goals (try exact absurd (g2 ▸ g1) (BitVec.lt_irrefl _))
  all_goals (subst g4; exact absurd g3 (BitVec.lt_irrefl _))
def con20 (O : Th) : List (FuncId × Cn) := []
def cx20 (O : Th) : Cx := { tab := R.tab, eqs := R.eqs, con := con20 O, O := O }
theorem cx20_ok : CxOk Tryd.prog (cx20 Th.std) := cx_ok (con := con20) (by
  unfold Cons con20
  exact fun _ h => by cases h)
def k20 (O : Th) : Cn := cnF O true (cPut O)
set_option maxRecDepth 100000 in
theorem f20_ok : ConOk Tryd.prog 20 (k20 Th.std) := by
  refine con_ofF (cx := cx20) (g := cPut) cx20_ok follows Tryd.func20 rfl (by kernel_rfl) ?_
  intro O hO ds c rs hg hc
  unfold cPut at hg
  split at hg
  case h_2 => cases hg
  rename_i a b i v
  simp only [Option.some.injEq, Prod.mk.injEq] at hg
  obtain ⟨rfl, rfl⟩ := hg
  cbv
  repeat' (first | (with_reducible refine ifI ?_ ?_ <;> intro _ <;> cbv) | with_reducible refine And.intro ?_ ?_)
  all_goals (try (first | exact trivial | exact fun _ => trivial | exact fun h => h | rfl | exact fun _ => rfl | exact fun h => ⟨h, trivial⟩ | exact fun h => ⟨h, h, trivial⟩ | exact fun h => ⟨h, h, h, trivial⟩))
  all_goals (subst hO; dsimp only [Th.std] at *)
  all_goals (try simp only [decide_eq_true_eq, Int.not_le, Int.not_lt, forall_const, true_and, and_true, List.cons.injEq, Cel.p.injEq, Pl.u.injEq, Pl.i.injEq, Pl.b.injEq, AV.c.injEq, raw64] at *)
  all_goals (try simp only [W_hi_lo, W_inj, and_self])
  all_goals (obtain ⟨hc1, hc2, hc3, hc4⟩ := hc)
  all_goals first
    | with_reducible exact (put_hi hc1 (by assumption) hc3 hc4).1
    | with_reducible exact (put_hi hc1 (by assumption) hc3 hc4).2
    | with_reducible exact (put_lo (by assumption) hc2 hc3 hc4).1
    | with_reducible exact (put_lo (by assumption) hc2 hc3 hc4).2
    | (rw [wrap64_of (by omega) (by omega)]; omega)
def con45 (O : Th) : List (FuncId × Cn) := []
def cx45 (O : Th) : Cx := { tab := R.tab, eqs := R.eqs, con := con45 O, O := O }
theorem cx45_ok : CxOk Tryd.prog (cx45 Th.std) := cx_ok (con := con45) (by
  unfold Cons con45
  exact fun _ h => by cases h)
def k45 (O : Th) : Cn := cnF O true (cIsFam O)
set_option maxRecDepth 100000 in
theorem f45_ok : ConOk Tryd.prog 45 (k45 Th.std) := by
  refine con_ofF (cx := cx45) (g := cIsFam) cx45_ok follows Tryd.func45 rfl (by kernel_rfl) ?_
  intro O hO ds c rs hg hc
  unfold cIsFam at hg
  split at hg
  case h_2 => cases hg
  rename_i f
  simp only [Option.some.injEq, Prod.mk.injEq] at hg
  obtain ⟨rfl, rfl⟩ := hg
  cbv
  repeat' (first | (with_reducible refine ifI ?_ ?_ <;> intro _ <;> cbv) | with_reducible refine And.intro ?_ ?_)
  all_goals (try (first | exact trivial | exact fun _ => trivial | exact fun h => h | rfl | exact fun _ => rfl | exact fun h => ⟨h, trivial⟩ | exact fun h => ⟨h, h, trivial⟩ | exact fun h => ⟨h, h, h, trivial⟩))
  all_goals (subst hO; dsimp only [Th.std] at *)
  all_goals (try simp only [decide_eq_true_eq, Int.not_le, Int.not_lt, forall_const, true_and, and_true, List.cons.injEq, Cel.p.injEq, Pl.u.injEq, Pl.i.injEq, Pl.b.injEq, AV.c.injEq, raw64] at *)
  all_goals (try simp only [W_hi_lo, W_inj, and_self])
  all_goals (by_cases h1 : f = 32 <;> by_cases h2 : f = 128 <;> (first | have h3 := beq_iff_eq.2 h1 | have h3 := beq_eq_false_iff_ne.2 h1) <;> (first | have h4 := beq_iff_eq.2 h2 | have h4 := beq_eq_false_iff_ne.2 h2) <;> simp [h1, h2, h3, h4, isFam])
def con22 (O : Th) : List (FuncId × Cn) := []
def cx22 (O : Th) : Cx := { tab := R.tab, eqs := R.eqs, con := con22 O, O := O }
theorem cx22_ok : CxOk Tryd.prog (cx22 Th.std) := cx_ok (con := con22) (by
  unfold Cons con22
  exact fun _ h => by cases h)
def k22 (O : Th) : Cn := cnF O true (cAdd O)
set_option maxRecDepth 100000 in
theorem f22_ok : ConOk Tryd.prog 22 (k22 Th.std) := by
  refine con_ofF (cx := cx22) (g := cAdd) cx22_ok follows Tryd.func22 rfl (by kernel_rfl) ?_
  intro O hO ds c rs hg hc
  unfold cAdd at hg
  split at hg
  case h_2 => cases hg
  rename_i a b c d
  simp only [Option.some.injEq, Prod.mk.injEq] at hg
  obtain ⟨rfl, rfl⟩ := hg
  cbv
  repeat' (first | (with_reducible refine ifI ?_ ?_ <;> intro _ <;> cbv) | with_reducible refine And.intro ?_ ?_)
  all_goals (try (first | exact trivial | exact fun _ => trivial | exact fun h => h | rfl | exact fun _ => rfl | exact fun h => ⟨h, trivial⟩ | exact fun h => ⟨h, h, trivial⟩ | exact fun h => ⟨h, h, h, trivial⟩))
  all_goals (subst hO; dsimp only [Th.std] at *)
  all_goals (try simp only [decide_eq_true_eq, Int.not_le, Int.not_lt, forall_const, true_and, and_true, List.cons.injEq, Cel.p.injEq, Pl.u.injEq, Pl.i.injEq, Pl.b.injEq, AV.c.injEq, raw64] at *)
  all_goals (try simp only [W_hi_lo, W_inj, and_self])
  all_goals (try (cases decide (a + c < a) <;> simp <;> done))
  all_goals (rename_i q)
  all_goals (have g := q)
  all_goals first
    | exact radd_hi1 g
    | exact radd_hi0 g
    | exact radd_lo _ _ _ _
    | (intro hX; simp only [hX]; done)
    | exact radd_over1m g
    | exact radd_over0m g

def mskSt (n i : Int) (wh wl : BitVec 64) : St :=
  { slots := [(0, true, .a (.c (.p (.i n)))), (2, true, .a (.c (.ptr 0 0))), (3, true, .a (.c (.ptr 1 0))), (4, true, .a (.c (.p (.i i))))]
    ents := [(0, .cells [.p (.u 0), .p (.u 0)] 24), (1, .cells [.p (.u wh), .p (.u wl)] 24)]
    next := 2, nt := 18 }
def con17 (O : Th) : List (FuncId × Cn) := [(20, k20 O)]
def cx17 (O : Th) : Cx := { tab := R.tab, eqs := R.eqs, con := con17 O, O := O }
theorem cx17_ok : CxOk Tryd.prog (cx17 Th.std) := cx_ok (con := con17) (by
  unfold Cons con17
  refine List.forall_mem_cons.2 ⟨f20_ok, ?_⟩
  exact fun _ h => by cases h)
def k17 (O : Th) : Cn := cnF O true (cMask O)
set_option maxRecDepth 100000 in
theorem f17_ok : ConOk Tryd.prog 17 (k17 Th.std) := by
  refine con_ofF (cx := cx17) (g := cMask) cx17_ok follows Tryd.func17 rfl (by kernel_rfl) ?_
  intro O hO ds c rs hg hc
  unfold cMask at hg
  split at hg
  case h_2 => cases hg
  rename_i n
  simp only [Option.some.injEq, Prod.mk.injEq] at hg
  obtain ⟨rfl, rfl⟩ := hg
  cbv
  refine ⟨{ x : Int × BitVec 64 × BitVec 64 // 0 ≤ x.1 ∧ x.1 ≤ 128 ∧ (x.1 ≤ n ∨ x.1 = 0) ∧ W x.2.1 x.2.2 = maskW x.1 }, fun x => mskSt n x.1.1 x.1.2.1 x.1.2.2, fun x => (128 - x.1.1).toNat, ⟨(0, 0, 0), by decide, by decide, .inr rfl, maskW_zero.symm⟩, ?_, ?_⟩
  · cbv
    repeat' (with_reducible refine And.intro ?_ ?_)
    all_goals (try (first | exact trivial | exact fun _ => trivial | exact fun h => h | rfl | exact fun _ => rfl | exact fun h => ⟨h, trivial⟩ | exact fun h => ⟨h, h, trivial⟩ | exact fun h => ⟨h, h, h, trivial⟩))
  · rintro ⟨⟨i, wh, wl⟩, h0, h1, h2, h3⟩
    dsimp only at h0 h1 h2 h3
    cbv
    repeat' (first | (with_reducible refine ifI ?_ ?_ <;> intro _ <;> cbv) | with_reducible refine And.intro ?_ ?_)
    all_goals (try (first | exact trivial | exact fun _ => trivial | exact fun h => h | rfl | exact fun _ => rfl | exact fun h => ⟨h, trivial⟩ | exact fun h => ⟨h, h, trivial⟩ | exact fun h => ⟨h, h, h, trivial⟩))
    · rename_i hq
      subst hO; dsimp only [Th.std] at *
      obtain ⟨q1, q2⟩ := and_m hq
      have := of_decide_eq_true q1
      have := of_decide_eq_true q2
      omega
    · rename_i hq
      obtain ⟨hi1, hi2⟩ : i < n ∧ i < 128 := by
        subst hO
        obtain ⟨q1, q2⟩ := and_m hq
        exact ⟨of_decide_eq_true q1, of_decide_eq_true q2⟩
      obtain ⟨i', hi'⟩ : ∃ x, x = i + 1 := ⟨_, rfl⟩
      obtain ⟨wh', hwh⟩ : ∃ x, x = hi (putW (W wh wl) i 1) := ⟨_, rfl⟩
      obtain ⟨wl', hwl⟩ : ∃ x, x = lo (putW (W wh wl) i 1) := ⟨_, rfl⟩
      have hinv : 0 ≤ i' ∧ i' ≤ 128 ∧ (i' ≤ n ∨ i' = 0) ∧ W wh' wl' = maskW i' := by
        refine ⟨by omega, by omega, .inl (by omega), ?_⟩
        rw [hwh, hwl, W_hi_lo, h3, put_mask h0 hi2, hi']
      refine ⟨⟨(i', wh', wl'), hinv⟩, ?_, ?_⟩
      · show (128 - i').toNat < (128 - i).toNat
        omega
      · cbv
        repeat' (with_reducible refine And.intro ?_ ?_)
        all_goals (try (first | exact trivial | exact fun _ => trivial | exact fun h => h | rfl | exact fun _ => rfl | exact fun h => ⟨h, trivial⟩ | exact fun h => ⟨h, h, trivial⟩ | exact fun h => ⟨h, h, h, trivial⟩))
        all_goals (subst hO; dsimp only [Th.std] at *; first | (rw [hi', wrap64_of (by omega) (by omega)]; done) | (rw [hwh]; done) | (rw [hwl]; done))
    all_goals (rename_i hq
               subst hO; dsimp only [Th.std] at *
               have e : maskW n = maskW i := by
                 by_cases h5 : i < n
                 · have := of_decide_eq_false (and_n hq (decide_eq_true h5))
                   rw [show i = 128 by omega]
                   exact maskW_high (by omega)
                 · rcases h2 with h2 | h2
                   · rw [show i = n by omega]
                   · rw [h2]; exact maskW_low (by omega)
               rw [e, ← h3]
               first | rw [hi_W] | rw [lo_W])
def con40 (O : Th) : List (FuncId × Cn) := [(16, k16 O), (17, k17 O), (44, k44 O), (45, k45 O)]
def cx40 (O : Th) : Cx := { tab := R.tab, eqs := R.eqs, con := con40 O, O := O }
theorem cx40_ok : CxOk Tryd.prog (cx40 Th.std) := cx_ok (con := con40) (by
  unfold Cons con40
  refine List.forall_mem_cons.2 ⟨f16_ok, ?_⟩
  refine List.forall_mem_cons.2 ⟨f17_ok, ?_⟩
  refine List.forall_mem_cons.2 ⟨f44_ok, ?_⟩
  refine List.forall_mem_cons.2 ⟨f45_ok, ?_⟩
  exact fun _ h => by cases h)
def k40 (O : Th) : Cn := cnF O true (cRight O)
set_option maxRecDepth 100000 in
theorem f40_ok : ConOk Tryd.prog 40 (k40 Th.std) := by
  refine con_ofF (cx := cx40) (g := cRight) cx40_ok follows Tryd.func40 rfl (by kernel_rfl) ?_
  intro O hO ds c rs hg hc
  unfold cRight at hg
  split at hg
  case h_2 => cases hg
  rename_i f a b
  simp only [Option.some.injEq, Prod.mk.injEq] at hg
  obtain ⟨rfl, rfl⟩ := hg
  cbv
  repeat' (first | (with_reducible refine ifI ?_ ?_ <;> intro _ <;> cbv) | with_reducible refine And.intro ?_ ?_)
  all_goals (try (first | exact trivial | exact fun _ => trivial | exact fun h => h | rfl | exact fun _ => rfl | exact fun h => ⟨h, trivial⟩ | exact fun h => ⟨h, h, trivial⟩ | exact fun h => ⟨h, h, h, trivial⟩))
  all_goals (subst hO; dsimp only [Th.std] at *)
  all_goals (try simp only [decide_eq_true_eq, Int.not_le, Int.not_lt, forall_const, true_and, and_true, List.cons.injEq, Cel.p.injEq, Pl.u.injEq, Pl.i.injEq, Pl.b.injEq, AV.c.injEq, raw64] at *)
  all_goals (try simp only [W_hi_lo, W_inj, and_self])
  all_goals (repeat (rename_i q; revert q))
  all_goals (by_cases h1 : f = 32 <;> by_cases h2 : f = 128 <;> by_cases h3 : W a b &&& ~~~maskW f = 0#128 <;> simp_all [plsEq_W, rightW, W_zero, isFam])
def con41 (O : Th) : List (FuncId × Cn) := [(16, k16 O), (17, k17 O)]
def cx41 (O : Th) : Cx := { tab := R.tab, eqs := R.eqs, con := con41 O, O := O }
theorem cx41_ok : CxOk Tryd.prog (cx41 Th.std) := cx_ok (con := con41) (by
  unfold Cons con41
  refine List.forall_mem_cons.2 ⟨f16_ok, ?_⟩
  refine List.forall_mem_cons.2 ⟨f17_ok, ?_⟩
  exact fun _ h => by cases h)
def k41 (O : Th) : Cn := cnF O true (cCut O)
set_option maxRecDepth 100000 in
theorem f41_ok : ConOk Tryd.prog 41 (k41 Th.std) := by
  refine con_ofF (cx := cx41) (g := cCut) cx41_ok follows Tryd.func41 rfl (by kernel_rfl) ?_
  intro O hO ds c rs hg hc
  unfold cCut at hg
  split at hg
  case h_2 => cases hg
  rename_i a b n
  simp only [Option.some.injEq, Prod.mk.injEq] at hg
  obtain ⟨rfl, rfl⟩ := hg
  cbv
  repeat' (first | (with_reducible refine ifI ?_ ?_ <;> intro _ <;> cbv) | with_reducible refine And.intro ?_ ?_)
  all_goals (try (first | exact trivial | exact fun _ => trivial | exact fun h => h | rfl | exact fun _ => rfl | exact fun h => ⟨h, trivial⟩ | exact fun h => ⟨h, h, trivial⟩ | exact fun h => ⟨h, h, h, trivial⟩))
  all_goals (subst hO; dsimp only [Th.std] at *)
  all_goals (try simp only [decide_eq_true_eq, Int.not_le, Int.not_lt, forall_const, true_and, and_true, List.cons.injEq, Cel.p.injEq, Pl.u.injEq, Pl.i.injEq, Pl.b.injEq, AV.c.injEq, raw64] at *)
  all_goals (try simp only [W_hi_lo, W_inj, and_self])
  all_goals rfl
def con19 (O : Th) : List (FuncId × Cn) := [(16, k16 O), (17, k17 O), (43, k43 O), (44, k44 O)]
def cx19 (O : Th) : Cx := { tab := R.tab, eqs := R.eqs, con := con19 O, O := O }
theorem cx19_ok : CxOk Tryd.prog (cx19 Th.std) := cx_ok (con := con19) (by
  unfold Cons con19
  refine List.forall_mem_cons.2 ⟨f16_ok, ?_⟩
  refine List.forall_mem_cons.2 ⟨f17_ok, ?_⟩
  refine List.forall_mem_cons.2 ⟨f43_ok, ?_⟩
  refine List.forall_mem_cons.2 ⟨f44_ok, ?_⟩
  exact fun _ h => by cases h)
def k19 (O : Th) : Cn := cnF O true (cLast O)
set_option maxRecDepth 100000 in
theorem f19_ok : ConOk Tryd.prog 19 (k19 Th.std) := by
  refine con_ofF (cx := cx19) (g := cLast) cx19_ok follows Tryd.func19 rfl (by kernel_rfl) ?_
  intro O hO ds c rs hg hc
  unfold cLast at hg
  split at hg
  case h_2 => cases hg
  rename_i f a b n
  simp only [Option.some.injEq, Prod.mk.injEq] at hg
  obtain ⟨rfl, rfl⟩ := hg
  cbv
  repeat' (first | (with_reducible refine ifI ?_ ?_ <;> intro _ <;> cbv) | with_reducible refine And.intro ?_ ?_)
  all_goals (try (first | exact trivial | exact fun _ => trivial | exact fun h => h | rfl | exact fun _ => rfl | exact fun h => ⟨h, trivial⟩ | exact fun h => ⟨h, h, trivial⟩ | exact fun h => ⟨h, h, h, trivial⟩))
  all_goals (subst hO; dsimp only [Th.std] at *)
  all_goals (try simp only [decide_eq_true_eq, Int.not_le, Int.not_lt, forall_const, true_and, and_true, List.cons.injEq, Cel.p.injEq, Pl.u.injEq, Pl.i.injEq, Pl.b.injEq, AV.c.injEq, raw64] at *)
  all_goals (try simp only [W_hi_lo, W_inj, and_self])
  all_goals (rw [BitVec.and_comm]; rfl)
def con68 (O : Th) : List (FuncId × Cn) := [(20, k20 O)]
def cx68 (O : Th) : Cx := { tab := R.tab, eqs := R.eqs, con := con68 O, O := O }
theorem cx68_ok : CxOk Tryd.prog (cx68 Th.std) := cx_ok (con := con68) (by
  unfold Cons con68
  refine List.forall_mem_cons.2 ⟨f20_ok, ?_⟩
  exact fun _ h => by cases h)
def k68 (O : Th) : Cn := cnF O true (cUnit O)
set_option maxRecDepth 100000 in
theorem f68_ok : ConOk Tryd.prog 68 (k68 Th.std) := by
  refine con_ofF (cx := cx68) (g := cUnit) cx68_ok follows Tryd.func68 rfl (by kernel_rfl) ?_
  intro O hO ds c rs hg hc
  unfold cUnit at hg
  split at hg
  case h_2 => cases hg
  rename_i f
  simp only [Option.some.injEq, Prod.mk.injEq] at hg
  obtain ⟨rfl, rfl⟩ := hg
  cbv
  repeat' (first | (with_reducible refine ifI ?_ ?_ <;> intro _ <;> cbv) | with_reducible refine And.intro ?_ ?_)
  all_goals (try (first | exact trivial | exact fun _ => trivial | exact fun h => h | rfl | exact fun _ => rfl | exact fun h => ⟨h, trivial⟩ | exact fun h => ⟨h, h, trivial⟩ | exact fun h => ⟨h, h, h, trivial⟩))
  all_goals (subst hO; dsimp only [Th.std] at *)
  all_goals (try simp only [decide_eq_true_eq, Int.not_le, Int.not_lt, forall_const, true_and, and_true, List.cons.injEq, Cel.p.injEq, Pl.u.injEq, Pl.i.injEq, Pl.b.injEq, AV.c.injEq, raw64] at *)
  all_goals (try simp only [W_hi_lo, W_inj, and_self])
  all_goals (rcases hc with rfl | rfl <;> (first | (rw [wrap64_of (by omega) (by omega)]; omega) | kernel_rfl))
def con42 (O : Th) : List (FuncId × Cn) := [(17, k17 O), (22, k22 O), (40, k40 O), (68, k68 O)]
def cx42 (O : Th) : Cx := { tab := R.tab, eqs := R.eqs, con := con42 O, O := O }
theorem cx42_ok : CxOk Tryd.prog (cx42 Th.std) := cx_ok (con := con42) (by
  unfold Cons con42
  refine List.forall_mem_cons.2 ⟨f17_ok, ?_⟩
  refine List.forall_mem_cons.2 ⟨f22_ok, ?_⟩
  refine List.forall_mem_cons.2 ⟨f40_ok, ?_⟩
  refine List.forall_mem_cons.2 ⟨f68_ok, ?_⟩
  exact fun _ h => by cases h)
def k42 (O : Th) : Cn := cnF O true (cNext O)
set_option maxRecDepth 100000 in
theorem f42_ok : ConOk Tryd.prog 42 (k42 Th.std) := by
  refine con_ofF (cx := cx42) (g := cNext) cx42_ok follows Tryd.func42 rfl (by kernel_rfl) ?_
  intro O hO ds c rs hg hc
  unfold cNext at hg
  split at hg
  case h_2 => cases hg
  rename_i f a b
  simp only [Option.some.injEq, Prod.mk.injEq] at hg
  obtain ⟨rfl, rfl⟩ := hg
  cbv
  repeat' (first | (with_reducible refine ifI ?_ ?_ <;> intro _ <;> cbv) | with_reducible refine And.intro ?_ ?_)
  all_goals (try (first | exact trivial | exact fun _ => trivial | exact fun h => h | rfl | exact fun _ => rfl | exact fun h => ⟨h, trivial⟩ | exact fun h => ⟨h, h, trivial⟩ | exact fun h => ⟨h, h, h, trivial⟩))
  all_goals (subst hO; dsimp only [Th.std] at *)
  all_goals (try simp only [decide_eq_true_eq, Int.not_le, Int.not_lt, forall_const, true_and, and_true, List.cons.injEq, Cel.p.injEq, Pl.u.injEq, Pl.i.injEq, Pl.b.injEq, AV.c.injEq, raw64] at *)
  all_goals (try simp only [W_hi_lo, W_inj, and_self])
  all_goals (repeat (rename_i q; revert q))
  all_goals (by_cases h1 : rightW f (W a b) = 0 <;> by_cases h2 : W a b = maskW f <;>
    (first | have h3 := bne_eq_false_iff_eq.2 h1 | have h3 := bne_iff_ne.2 h1) <;>
    (try simp only [h3]) <;> intros <;> first | exact (right_zero h1).1 | simp_all [plsEq_W, nextW, stopW, hi_zero, lo_zero])
end Go.Vx

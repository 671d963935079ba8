import Derived.Test.YtijaimiefcohbaaDoorS4
import Derived.Test.YtijaimiefcohbaaDoorM10
set_option linter.unusedSimpArgs false
set_option linter.unusedVariables false
set_option linter.constructorNameAsVariable false
namespace Go.Vx
open Go Go.Proofs Go.RowKit

def rcvSt (O : Th) (f : Int) (c d : BitVec 64) (wh wl : BitVec 64) (L : List (List Pl)) : St :=
  { slots := [(0, true, .a (.c (.p (.i f)))), (5, true, .a (.c (.ptr 0 0))), (9, true, .a (.c (.hdr 2 (O.th fun _ => L.length)))), (10, true, .a (.c (.ptr 1 0)))]
    ents := [(0, .cells [.p (.u c), .p (.u d)] 24), (1, .cells [.p (.u wh), .p (.u wl)] 24), (2, .own 39 [.u, .u, .i] L)]
    next := 3, nt := 72 }
def rcvNSt (O : Th) (f : Int) (c d : BitVec 64) (wh wl : BitVec 64) (L : List (List Pl)) (n : Int) : St :=
  { slots := [(0, true, .a (.c (.p (.i f)))), (5, true, .a (.c (.ptr 0 0))), (9, true, .a (.c (.hdr 2 (O.th fun _ => L.length)))), (10, true, .a (.c (.ptr 1 0))), (11, true, .a (.c (.p (.i n))))]
    ents := [(0, .cells [.p (.u c), .p (.u d)] 24), (1, .cells [.p (.u wh), .p (.u wl)] 24), (2, .own 39 [.u, .u, .i] L)]
    next := 3, nt := 72 }
structure RcvI where
  wh : BitVec 64
  wl : BitVec 64
  L : List (List Pl)
  k : Nat
def RcvP (f : Int) (x y : BitVec 128) (i : RcvI) : Prop :=
  (coverL f x y).map prow = i.L ++ (coverF f y i.k (W i.wh i.wl)).map prow ∧
  rightW f (W i.wh i.wl) = 0 ∧ W i.wh i.wl ≤ y ∧ y.toNat - (W i.wh i.wl).toNat < i.k
def con12 (O : Th) : List (FuncId × Cn) := [(18, k18 O), (19, k19 O), (40, k40 O), (41, k41 O), (42, k42 O)]
def cx12 (O : Th) : Cx := { tab := R.tab, eqs := R.eqs, con := con12 O, O := O }
theorem cx12_ok : CxOk Tryd.prog (cx12 Th.std) := cx_ok (con := con12) (by
  unfold Cons con12
  refine List.forall_mem_cons.2 ⟨f18_ok, ?_⟩
  refine List.forall_mem_cons.2 ⟨f19_ok, ?_⟩
  refine List.forall_mem_cons.2 ⟨f40_ok, ?_⟩
  refine List.forall_mem_cons.2 ⟨f41_ok, ?_⟩
  refine List.forall_mem_cons.2 ⟨f42_ok, ?_⟩
  exact fun _ h => by cases h)
def k12 (O : Th) : Cn := cnF O true (cCover 39 O)
set_option maxHeartbeats 4000000 in
set_option maxRecDepth 100000 in
theorem f12_ok : ConOk Tryd.prog 12 (k12 Th.std) := by
  refine con_ofF (cx := cx12) (g := cCover 39) cx12_ok follows Tryd.func12 rfl (by kernel_rfl) ?_
  intro O hO ds c rs hg hc
  unfold cCover at hg
  split at hg
  case h_2 => cases hg
  rename_i f a b c d
  simp only [Option.some.injEq, Prod.mk.injEq] at hg
  obtain ⟨rfl, rfl⟩ := hg

  cbv
  repeat' (first | (with_reducible refine ifI ?_ ?_ <;> intro _ <;> cbv) | with_reducible refine And.intro ?_ ?_)
  all_goals (try (first | exact trivial | exact fun _ => trivial | exact fun h => h | rfl | exact fun _ => rfl | exact fun h => ⟨h, trivial⟩ | exact fun h => ⟨h, h, trivial⟩ | exact fun h => ⟨h, h, h, trivial⟩ | (intro hh; (try dsimp only); (repeat' (first | exact trivial | exact hh | rfl | with_reducible refine And.intro ?_ ?_ | (intro h2; first | rfl | (rw [h2]; done) | exact h2))); done)))
  all_goals (try (exfalso; subst hO; dsimp only [Th.std] at *; (try simp only [beq_iff_eq, bne_iff_ne, ne_eq, Classical.not_not, decide_eq_true_eq, Bool.not_eq_true, bne_eq_false_iff_eq, beq_eq_false_iff_ne, decide_eq_false_iff_not] at *); omega))
  rotate_left 6
  · rename_i q1 q2 q3
    obtain ⟨hE, hR, hx, hy, hle, hlen⟩ : coverE f (W a b) (W c d) = 0 ∧ coverR f (W a b) (W c d) = (coverL f (W a b) (W c d)).map prow ∧ rightW f (W a b) = 0 ∧ rightW f (W c d) = 0 ∧ W a b ≤ W c d ∧ (coverL f (W a b) (W c d)).length ≤ 1000000 := by
      subst hO; dsimp only [Th.std] at *
      (try simp only [beq_iff_eq, bne_iff_ne, ne_eq, Classical.not_not, decide_eq_true_eq, Bool.not_eq_true, bne_eq_false_iff_eq, beq_eq_false_iff_ne, decide_eq_false_iff_not] at *)
      exact cov_done (covQ_of q1 q2) (by omega) q3
    clear q1 q2 q3
    refine ⟨{ i : RcvI // RcvP f (W a b) (W c d) i }, fun i => rcvSt O f c d i.1.wh i.1.wl i.1.L, fun i => i.1.k, ⟨⟨a, b, [], (W c d).toNat - (W a b).toNat + 1⟩, rfl, hx, hle, Nat.lt_succ_self _⟩, ?_, ?_⟩
    · cbv
      repeat' (with_reducible refine And.intro ?_ ?_)
      all_goals (try (first | exact trivial | exact fun _ => trivial | exact fun h => h | rfl | exact fun _ => rfl | exact fun h => ⟨h, trivial⟩ | exact fun h => ⟨h, h, trivial⟩ | exact fun h => ⟨h, h, h, trivial⟩ | (intro hh; (try dsimp only); (repeat' (first | exact trivial | exact hh | rfl | with_reducible refine And.intro ?_ ?_ | (intro h2; first | rfl | (rw [h2]; done) | exact h2))); done)))
      all_goals (subst hO; first | rfl | trivial | trace_state)
    · rintro ⟨⟨wh, wl, L, k⟩, htot, hw, hwle, hk⟩
      dsimp only at htot hw hwle hk
      obtain ⟨hf, _⟩ := right_zero hw
      obtain ⟨l0, l1, l2, l3, l4⟩ := len_spec hw hwle
      cbv
      refine ⟨{ n : Int // lenW f (W wh wl) (W c d) ≤ n ∧ n ≤ f }, fun n => rcvNSt O f c d wh wl L n.1, fun n => n.1.toNat, ⟨f, l1, Int.le_refl f⟩, ?_, ?_⟩
      · cbv
        repeat' (with_reducible refine And.intro ?_ ?_)
        all_goals (try (first | exact trivial | exact fun _ => trivial | exact fun h => h | rfl | exact fun _ => rfl | exact fun h => ⟨h, trivial⟩ | exact fun h => ⟨h, h, trivial⟩ | exact fun h => ⟨h, h, h, trivial⟩ | (intro hh; (try dsimp only); (repeat' (first | exact trivial | exact hh | rfl | with_reducible refine And.intro ?_ ?_ | (intro h2; first | rfl | (rw [h2]; done) | exact h2))); done)))
        all_goals (subst hO; first | rfl | trivial | trace_state)
      · rintro ⟨n, hn1, hn2⟩
        cbv
        repeat' (first | (with_reducible refine ifI ?_ ?_ <;> intro _ <;> cbv) | with_reducible refine And.intro ?_ ?_)
        all_goals (try (first | exact trivial | exact fun _ => trivial | exact fun h => h | rfl | exact fun _ => rfl | exact fun h => ⟨h, trivial⟩ | exact fun h => ⟨h, h, trivial⟩ | exact fun h => ⟨h, h, h, trivial⟩ | (intro hh; (try dsimp only); (repeat' (first | exact trivial | exact hh | rfl | with_reducible refine And.intro ?_ ?_ | (intro h2; first | rfl | (rw [h2]; done) | exact h2))); done)))
        all_goals (try (intros; subst hO; dsimp only [Th.std] at *; (try simp only [decide_eq_true_eq, Bool.not_eq_true, decide_eq_false_iff_not, forall_const, true_and, and_true] at *); (try simp only [ncast] at *); (try simp only [Int.ofNat_eq_natCast] at *); omega))
        · rename_i q1 q2
          have hend : lenW f (W wh wl) (W c d) = n := by
            subst hO; dsimp only [Th.std] at *
            have hw64 : wrap64 (n - 1) = n - 1 := wrap64_of (by omega) (by omega)
            have q4 := or_m q2
            simp only [hw64, plsEq_W, W_hi_lo, cmp_pos, Bool.not_eq_true', decide_eq_true_eq, decide_eq_false_iff_not] at q4
            exact ref_brk hw hwle hn1 hn2 rfl q4
          obtain ⟨s1, s2, s3, s4⟩ := ref_step hw hy hwle hk htot hlen hend
          subst hO; dsimp only [Th.std] at *
          simp
        · rename_i q1 q2
          have hend : lenW f (W wh wl) (W c d) = n := by
            subst hO; dsimp only [Th.std] at *
            have hw64 : wrap64 (n - 1) = n - 1 := wrap64_of (by omega) (by omega)
            have q4 := or_m q2
            simp only [hw64, plsEq_W, W_hi_lo, cmp_pos, Bool.not_eq_true', decide_eq_true_eq, decide_eq_false_iff_not] at q4
            exact ref_brk hw hwle hn1 hn2 rfl q4
          obtain ⟨s1, s2, s3, s4⟩ := ref_step hw hy hwle hk htot hlen hend
          subst hO; dsimp only [Th.std] at *
          simp
          omega
        · rename_i q1 q2 q3
          have hend : lenW f (W wh wl) (W c d) = n := by
            subst hO; dsimp only [Th.std] at *
            have hw64 : wrap64 (n - 1) = n - 1 := wrap64_of (by omega) (by omega)
            have q4 := or_m q2
            simp only [hw64, plsEq_W, W_hi_lo, cmp_pos, Bool.not_eq_true', decide_eq_true_eq, decide_eq_false_iff_not] at q4
            exact ref_brk hw hwle hn1 hn2 rfl q4
          obtain ⟨s1, s2, s3, s4⟩ := ref_step hw hy hwle hk htot hlen hend
          have he : lastW f (W wh wl) n = W c d := by
            subst hO; dsimp only [Th.std] at *
            simp only [s2, W_hi_lo, plsEq_W, decide_eq_true_eq] at q3
            exact q3
          subst hO; dsimp only [Th.std] at *
          have := s3 he
          rw [hR, ← this, s2]
          simp [prow]
        · rename_i q1 q2 q3
          have hend : lenW f (W wh wl) (W c d) = n := by
            subst hO; dsimp only [Th.std] at *
            have hw64 : wrap64 (n - 1) = n - 1 := wrap64_of (by omega) (by omega)
            have q4 := or_m q2
            simp only [hw64, plsEq_W, W_hi_lo, cmp_pos, Bool.not_eq_true', decide_eq_true_eq, decide_eq_false_iff_not] at q4
            exact ref_brk hw hwle hn1 hn2 rfl q4
          obtain ⟨s1, s2, s3, s4⟩ := ref_step hw hy hwle hk htot hlen hend
          have he : lastW f (W wh wl) n = W c d := by
            subst hO; dsimp only [Th.std] at *
            simp only [s2, W_hi_lo, plsEq_W, decide_eq_true_eq] at q3
            exact q3
          subst hO; dsimp only [Th.std] at *
          have := s3 he
          rw [hR, ← this, s2]
          simp [prow]
        · rename_i q1 q2 q3
          have hend : lenW f (W wh wl) (W c d) = n := by
            subst hO; dsimp only [Th.std] at *
            have hw64 : wrap64 (n - 1) = n - 1 := wrap64_of (by omega) (by omega)
            have q4 := or_m q2
            simp only [hw64, plsEq_W, W_hi_lo, cmp_pos, Bool.not_eq_true', decide_eq_true_eq, decide_eq_false_iff_not] at q4
            exact ref_brk hw hwle hn1 hn2 rfl q4
          obtain ⟨s1, s2, s3, s4⟩ := ref_step hw hy hwle hk htot hlen hend
          have hne : lastW f (W wh wl) n ≠ W c d := by
            subst hO; dsimp only [Th.std] at *
            simp only [s2, W_hi_lo] at q3
            intro h
            simp only [h, plsEq_W, W_hi_lo] at q3
            simp at q3
          obtain ⟨k', t1, t2, t3, t4, t5⟩ := s4 hne
          obtain ⟨wh', hwh⟩ : ∃ x, x = hi (nextW f (lastW f (W wh wl) n)) := ⟨_, rfl⟩
          obtain ⟨wl', hwl⟩ : ∃ x, x = lo (nextW f (lastW f (W wh wl) n)) := ⟨_, rfl⟩
          obtain ⟨L', hL⟩ : ∃ x, x = L ++ [[Pl.u wh, Pl.u wl, Pl.i n]] := ⟨_, rfl⟩
          refine ⟨⟨⟨wh', wl', L', k'⟩, ?_⟩, t1, ?_⟩
          · unfold RcvP
            dsimp only
            rw [hwh, hwl, W_hi_lo, hL]
            refine ⟨?_, t3, t4, t5⟩
            rw [t2]; simp [prow]
          · cbv
            repeat' (with_reducible refine And.intro ?_ ?_)
            all_goals (try (first | exact trivial | exact fun _ => trivial | exact fun h => h | rfl | exact fun _ => rfl | exact fun h => ⟨h, trivial⟩ | exact fun h => ⟨h, h, trivial⟩ | exact fun h => ⟨h, h, h, trivial⟩ | (intro hh; (try dsimp only); (repeat' (first | exact trivial | exact hh | rfl | with_reducible refine And.intro ?_ ?_ | (intro h2; first | rfl | (rw [h2]; done) | exact h2))); done)))
            all_goals (subst hO; dsimp only [Th.std] at *; simp only [s2, W_hi_lo, hi_W, lo_W]; first | (rw [hL]; simp; done) | (rw [hwh]; done) | (rw [hwl]; done))
        · -- one shorter
          rename_i q1 q2
          have hn' : 0 < n := by
            subst hO; dsimp only [Th.std] at *
            exact of_decide_eq_true q1
          obtain ⟨m, hm⟩ : ∃ x, x = n - 1 := ⟨_, rfl⟩
          have hw64 : wrap64 (n - 1) = m := by rw [hm]; exact wrap64_of (by omega) (by omega)
          have hshort : lenW f (W wh wl) (W c d) ≤ m := by
            subst hO; dsimp only [Th.std] at *
            have q4 := or_n q2
            simp only [hw64, plsEq_W, W_hi_lo, cmp_pos, Bool.not_eq_false', decide_eq_true_eq, decide_eq_false_iff_not, Classical.not_not] at q4
            exact ref_more hw hwle hn1 hn2 hm hn' q4
          refine ⟨⟨m, hshort, by omega⟩, ?_, ?_⟩
          · show m.toNat < n.toNat
            omega
          · cbv
            repeat' (with_reducible refine And.intro ?_ ?_)
            all_goals (try (first | exact trivial | exact fun _ => trivial | exact fun h => h | rfl | exact fun _ => rfl | exact fun h => ⟨h, trivial⟩ | exact fun h => ⟨h, h, trivial⟩ | exact fun h => ⟨h, h, h, trivial⟩ | (intro hh; (try dsimp only); (repeat' (first | exact trivial | exact hh | rfl | with_reducible refine And.intro ?_ ?_ | (intro h2; first | rfl | (rw [h2]; done) | exact h2))); done)))
            all_goals (subst hO; dsimp only [Th.std] at *; rw [hw64])
        · rename_i q1
          have hend : lenW f (W wh wl) (W c d) = n := by
            subst hO; dsimp only [Th.std] at *
            refine len_end hw hwle hn1 hn2 (.inl ?_)
            have := of_decide_eq_false (Bool.eq_false_iff.2 q1)
            omega
          obtain ⟨s1, s2, s3, s4⟩ := ref_step hw hy hwle hk htot hlen hend
          subst hO; dsimp only [Th.std] at *
          simp
        · rename_i q1
          have hend : lenW f (W wh wl) (W c d) = n := by
            subst hO; dsimp only [Th.std] at *
            refine len_end hw hwle hn1 hn2 (.inl ?_)
            have := of_decide_eq_false (Bool.eq_false_iff.2 q1)
            omega
          obtain ⟨s1, s2, s3, s4⟩ := ref_step hw hy hwle hk htot hlen hend
          subst hO; dsimp only [Th.std] at *
          simp
          omega
        · rename_i q1 q3
          have hend : lenW f (W wh wl) (W c d) = n := by
            subst hO; dsimp only [Th.std] at *
            refine len_end hw hwle hn1 hn2 (.inl ?_)
            have := of_decide_eq_false (Bool.eq_false_iff.2 q1)
            omega
          obtain ⟨s1, s2, s3, s4⟩ := ref_step hw hy hwle hk htot hlen hend
          have he : lastW f (W wh wl) n = W c d := by
            subst hO; dsimp only [Th.std] at *
            simp only [s2, W_hi_lo, plsEq_W, decide_eq_true_eq] at q3
            exact q3
          subst hO; dsimp only [Th.std] at *
          have := s3 he
          rw [hR, ← this, s2]
          simp [prow]
        · rename_i q1 q3
          have hend : lenW f (W wh wl) (W c d) = n := by
            subst hO; dsimp only [Th.std] at *
            refine len_end hw hwle hn1 hn2 (.inl ?_)
            have := of_decide_eq_false (Bool.eq_false_iff.2 q1)
            omega
          obtain ⟨s1, s2, s3, s4⟩ := ref_step hw hy hwle hk htot hlen hend
          have he : lastW f (W wh wl) n = W c d := by
            subst hO; dsimp only [Th.std] at *
            simp only [s2, W_hi_lo, plsEq_W, decide_eq_true_eq] at q3
            exact q3
          subst hO; dsimp only [Th.std] at *
          have := s3 he
          rw [hR, ← this, s2]
          simp [prow]
        · rename_i q1 q3
          have hend : lenW f (W wh wl) (W c d) = n := by
            subst hO; dsimp only [Th.std] at *
            refine len_end hw hwle hn1 hn2 (.inl ?_)
            have := of_decide_eq_false (Bool.eq_false_iff.2 q1)
            omega
          obtain ⟨s1, s2, s3, s4⟩ := ref_step hw hy hwle hk htot hlen hend
          have hne : lastW f (W wh wl) n ≠ W c d := by
            subst hO; dsimp only [Th.std] at *
            simp only [s2, W_hi_lo] at q3
            intro h
            simp only [h, plsEq_W, W_hi_lo] at q3
            simp at q3
          obtain ⟨k', t1, t2, t3, t4, t5⟩ := s4 hne
          obtain ⟨wh', hwh⟩ : ∃ x, x = hi (nextW f (lastW f (W wh wl) n)) := ⟨_, rfl⟩
          obtain ⟨wl', hwl⟩ : ∃ x, x = lo (nextW f (lastW f (W wh wl) n)) := ⟨_, rfl⟩
          obtain ⟨L', hL⟩ : ∃ x, x = L ++ [[Pl.u wh, Pl.u wl, Pl.i n]] := ⟨_, rfl⟩
          refine ⟨⟨⟨wh', wl', L', k'⟩, ?_⟩, t1, ?_⟩
          · unfold RcvP
            dsimp only
            rw [hwh, hwl, W_hi_lo, hL]
            refine ⟨?_, t3, t4, t5⟩
            rw [t2]; simp [prow]
          · cbv
            repeat' (with_reducible refine And.intro ?_ ?_)
            all_goals (try (first | exact trivial | exact fun _ => trivial | exact fun h => h | rfl | exact fun _ => rfl | exact fun h => ⟨h, trivial⟩ | exact fun h => ⟨h, h, trivial⟩ | exact fun h => ⟨h, h, h, trivial⟩ | (intro hh; (try dsimp only); (repeat' (first | exact trivial | exact hh | rfl | with_reducible refine And.intro ?_ ?_ | (intro h2; first | rfl | (rw [h2]; done) | exact h2))); done)))
            all_goals (subst hO; dsimp only [Th.std] at *; simp only [s2, W_hi_lo, hi_W, lo_W]; first | (rw [hL]; simp; done) | (rw [hwh]; done) | (rw [hwl]; done))
  all_goals (
    subst hO; dsimp only [Th.std] at *
    (try simp only [beq_iff_eq, bne_iff_ne, ne_eq, Classical.not_not, decide_eq_true_eq, Bool.not_eq_true, bne_eq_false_iff_eq, beq_eq_false_iff_ne, decide_eq_false_iff_not] at *)
    obtain ⟨g1, g2⟩ : coverE f (W a b) (W c d) = _ ∧ coverR f (W a b) (W c d) = [] := (by first
      | with_reducible exact refE1 _ ‹¬ rightW f (W a b) = 0›
      | with_reducible exact refE2 ‹rightW f (W a b) = 0› ‹¬ rightW f (W c d) = 0›
      | with_reducible exact cov_ord (covQ_of ‹rightW f (W a b) = 0› ‹rightW f (W c d) = 0›) (by omega) ‹_›)
    first
      | with_reducible exact g1.symm
      | with_reducible exact g2
      | (rw [g2]; rfl))
end Go.Vx

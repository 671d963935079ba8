import Derived.Test.YtijaimiefcohbaaDoorS1
set_option linter.unusedSimpArgs false
set_option linter.unusedVariables false
set_option linter.constructorNameAsVariable false
namespace Go.Vx
open Go Go.Proofs Go.RowKit

structure CovI where
  wh : BitVec 64
  wl : BitVec 64
  L : List (List Pl)
  m : Bool
  k : Nat
def covSt (O : Th) (f : Int) (c d : BitVec 64) (wh wl : BitVec 64) (L : List (List Pl)) (m : Bool) : St :=
  { slots := [(0, true, .a (.c (.p (.i f)))), (5, true, .a (.c (.ptr 0 0))), (7, true, .a (.c (.hdr 2 (O.th fun _ => L.length)))), (8, true, .a (.c (.ptr 1 0))), (9, true, .a (.c (.p (.b m))))]
    ents := [(0, .cells [.p (.u c), .p (.u d)] 24), (1, .cells [.p (.u wh), .p (.u wl)] 24), (2, .own 39 [.u, .u, .i] L)]
    next := 3, nt := 50 }
def CovP (f : Int) (a b c d : BitVec 64) (i : CovI) : Prop :=
  (coverL f (W a b) (W c d)).map prow = i.L ++ (if i.m then (coverF f (W c d) i.k (W i.wh i.wl)).map prow else []) ∧
  (i.m = true → rightW f (W i.wh i.wl) = 0 ∧ W i.wh i.wl ≤ W c d ∧ (W c d).toNat - (W i.wh i.wl).toNat < i.k)
def covNSt (O : Th) (f : Int) (c d : BitVec 64) (wh wl : BitVec 64) (L : List (List Pl)) (n : Int) : St :=
  { slots := [(0, true, .a (.c (.p (.i f)))), (5, true, .a (.c (.ptr 0 0))), (7, true, .a (.c (.hdr 3 (O.th fun _ => L.length)))), (8, true, .a (.c (.ptr 1 0))), (10, true, .a (.c (.ptr 2 0)))]
    ents := [(0, .cells [.p (.u c), .p (.u d)] 24), (1, .cells [.p (.u wh), .p (.u wl)] 24), (2, .cells [.p (.u wh), .p (.u wl), .p (.i n)] 39), (3, .own 39 [.u, .u, .i] L)]
    next := 4, nt := 50 }
def con39 (O : Th) : List (FuncId × Cn) := [(38, k38 O), (54, k54 O), (55, k55 O), (67, k67 O)]
def cx39 (O : Th) : Cx := { tab := R.tab, eqs := R.eqs, con := con39 O, O := O }
theorem cx39_ok : CxOk Tryd.prog (cx39 Th.std) := cx_ok (con := con39) (by
  unfold Cons con39
  refine List.forall_mem_cons.2 ⟨f38_ok, ?_⟩
  refine List.forall_mem_cons.2 ⟨f54_ok, ?_⟩
  refine List.forall_mem_cons.2 ⟨f55_ok, ?_⟩
  refine List.forall_mem_cons.2 ⟨f67_ok, ?_⟩
  exact fun _ h => by cases h)
def k39 (O : Th) : Cn := cnF O true (cCover0 39 O)
set_option maxRecDepth 100000 in
theorem f39_ok : ConOk Tryd.prog 39 (k39 Th.std) := by
  refine con_ofF (cx := cx39) (g := cCover0 39) cx39_ok follows Tryd.func39 rfl (by kernel_rfl) ?_
  intro O hO ds c rs hg hc
  unfold cCover0 at hg
  split at hg
  case h_2 => cases hg
  rename_i f a b c d
  simp only [Option.some.injEq, Prod.mk.injEq] at hg
  obtain ⟨rfl, rfl⟩ := hg

  rw [O.eq] at hc
  obtain ⟨hf1, hf2, hle, hlen⟩ := hc
  cbv
  refine ⟨{ i : CovI // CovP f a b c d i }, fun i => covSt O f c d i.1.wh i.1.wl i.1.L i.1.m, fun i => if i.1.m then i.1.k + 1 else 0, ⟨⟨a, b, [], true, (W c d).toNat - (W a b).toNat + 1⟩, ⟨rfl, fun _ => ⟨hf1, hle, Nat.lt_succ_self _⟩⟩⟩, ?_, ?_⟩
  · cbv
    repeat' (with_reducible refine And.intro ?_ ?_)
    all_goals (try (first | exact trivial | exact fun _ => trivial | exact fun h => h | rfl | exact fun _ => rfl | exact fun h => ⟨h, trivial⟩ | exact fun h => ⟨h, h, trivial⟩ | exact fun h => ⟨h, h, h, trivial⟩))
    all_goals (subst hO; first | rfl | trivial)
  · rintro ⟨⟨wh, wl, L, m, k⟩, htot, hm⟩
    dsimp only at htot hm
    cbv
    repeat' (first | (with_reducible refine ifI ?_ ?_ <;> intro _ <;> cbv) | with_reducible refine And.intro ?_ ?_)
    all_goals (try (first | exact trivial | exact fun _ => trivial | exact fun h => h | rfl | exact fun _ => rfl | exact fun h => ⟨h, trivial⟩ | exact fun h => ⟨h, h, trivial⟩ | exact fun h => ⟨h, h, h, trivial⟩))
    · obtain ⟨n0, hn0⟩ : ∃ n0, n0 = 128 - trailW (W wh wl) := ⟨_, rfl⟩
      have htb := trailW_bd (W wh wl)
      have hi0 : n0 ≤ n0 ∧ n0 ≤ 128 ∧ lenW f (W wh wl) (W c d) = lenFrom f (W wh wl) (W c d) (128 - (n0 - n0)).toNat n0 := by
        refine ⟨Int.le_refl _, by omega, ?_⟩
        rw [Int.sub_self, hn0]; rfl
      refine ⟨{ n : Int // n0 ≤ n ∧ n ≤ 128 ∧ lenW f (W wh wl) (W c d) = lenFrom f (W wh wl) (W c d) (128 - (n - n0)).toNat n }, fun n => covNSt O f c d wh wl L n.1, fun n => (128 - n.1).toNat, ⟨n0, hi0⟩, ?_, ?_⟩
      · cbv
        repeat' (with_reducible refine And.intro ?_ ?_)
        all_goals (try (first | exact trivial | exact fun _ => trivial | exact fun h => h | rfl | exact fun _ => rfl | exact fun h => ⟨h, trivial⟩ | exact fun h => ⟨h, h, trivial⟩ | exact fun h => ⟨h, h, h, trivial⟩))
        all_goals (subst hO; dsimp only [Th.std] at *; simp [hn0, wrap64_of (x := 128 - trailW (W wh wl)) (by omega) (by omega)])
      · rintro ⟨n, hn1, hn2, hn3⟩
        have hmt : m = true := by assumption
        obtain ⟨hw1, hw2, hw3⟩ := hm hmt
        have hf : f = 32 ∨ f = 128 := (right_zero hf1).1
        have hn0' : 0 ≤ n0 := by omega
        have hround := fun hs : lastW f (W wh wl) n ≤ W c d => cover_round hw1 hf2 hw2 hw3 (hn3.trans (len_stop hs _)) hs
        cbv
        repeat' (first | (with_reducible refine ifI ?_ ?_ <;> intro _ <;> cbv) | with_reducible refine And.intro ?_ ?_)
        all_goals (try (first | exact trivial | exact fun _ => trivial | exact fun h => h | rfl | exact fun _ => rfl | exact fun h => ⟨h, trivial⟩ | exact fun h => ⟨h, h, trivial⟩ | exact fun h => ⟨h, h, h, trivial⟩))
        · rename_i hc1
          have hgt : ¬ lastW f (W wh wl) n ≤ W c d := by
            subst hO; simpa [Th.std, cmp_pos] using hc1
          obtain ⟨h1, h2⟩ := len_step hw2 (by omega) hn0' hn1 hgt
          obtain ⟨n', hn'⟩ : ∃ n', n' = n + 1 := ⟨_, rfl⟩
          refine ⟨⟨n', by omega, by omega, by rw [hn3, h2, hn']⟩, ?_, ?_⟩
          · show (128 - n').toNat < (128 - n).toNat
            omega
          · cbv
            repeat' (with_reducible refine And.intro ?_ ?_)
            all_goals (try (first | exact trivial | exact fun _ => trivial | exact fun h => h | rfl | exact fun _ => rfl | exact fun h => ⟨h, trivial⟩ | exact fun h => ⟨h, h, trivial⟩ | exact fun h => ⟨h, h, h, trivial⟩))
            all_goals (subst hO; dsimp only [Th.std] at *; simp [hn', wrap64_of (x := n + 1) (by omega) (by omega)])
        · subst hO; dsimp only [Th.std] at *
          simp
        · rename_i hc1
          subst hO; dsimp only [Th.std] at *
          have hs : lastW f (W wh wl) n ≤ W c d := by simpa [cmp_pos] using hc1
          obtain ⟨k', hk, hcov, hnext⟩ := hround hs
          have h1 := congrArg List.length htot
          rw [hmt, if_pos rfl, hcov] at h1
          simp at h1
          simp <;> omega
        · rename_i hc1
          have hs : lastW f (W wh wl) n ≤ W c d := by
            subst hO; simpa [Th.std, cmp_pos] using hc1
          obtain ⟨k', hk, hcov, hnext⟩ := hround hs
          obtain ⟨wh', hwh⟩ : ∃ x, x = hi (nextW f (lastW f (W wh wl) n)) := ⟨_, rfl⟩
          obtain ⟨wl', hwl⟩ : ∃ x, x = lo (nextW f (lastW f (W wh wl) n)) := ⟨_, rfl⟩
          obtain ⟨L', hL⟩ : ∃ x, x = L ++ [[Pl.u wh, Pl.u wl, Pl.i n]] := ⟨_, rfl⟩
          obtain ⟨m', hm'⟩ : ∃ x, x = (!stopW f (lastW f (W wh wl) n) && (lastW f (W wh wl) n != W c d)) := ⟨_, rfl⟩
          refine ⟨⟨⟨wh', wl', L', m', k'⟩, ?_⟩, ?_, ?_⟩
          · refine ⟨?_, fun h => ?_⟩
            · dsimp only
              rw [htot, hmt, if_pos rfl, hcov, hL, hm', hwh, hwl, W_hi_lo]
              split <;> simp [prow]
            · dsimp only at h ⊢
              rw [hwh, hwl, W_hi_lo]
              exact hnext (hm' ▸ h)
          · show (if m' = true then k' + 1 else 0) < (if m = true then k + 1 else 0)
            rw [hmt, hk]
            simp
            split <;> omega
          · cbv
            repeat' (with_reducible refine And.intro ?_ ?_)
            all_goals (try (first | exact trivial | exact fun _ => trivial | exact fun h => h | rfl | exact fun _ => rfl | exact fun h => ⟨h, trivial⟩ | exact fun h => ⟨h, h, trivial⟩ | exact fun h => ⟨h, h, h, trivial⟩))
            all_goals (subst hO; dsimp only [Th.std] at *; first | (rw [hL]; done) | (rw [hL]; rfl) | (rw [hL]; simp; done) | (rw [hwh, W_hi_lo]; done) | (rw [hwl, W_hi_lo]; done) | (rw [hm', W_hi_lo]; cases stopW f (lastW f (W wh wl) n) <;> simp [plsEq_W, bne, BEq.beq]; done))
    all_goals (subst hO; dsimp only [Th.std] at *; first | (simp_all; done) | (intro _; simp_all; done))
end Go.Vx

import Derived.Test.YtijaimiefcohbaaDoorM4
set_option linter.unusedSimpArgs false
set_option linter.unusedVariables false
set_option linter.constructorNameAsVariable false
namespace Go.Vx
open Go Go.RowKit
def cutW (w : BitVec 128) (n : Int) : BitVec 128 := w &&& maskW n
def isFam (f : Int) : Bool := decide (f = 32 ∨ f = 128)
def putW (w : BitVec 128) (i v : Int) : BitVec 128 := (w &&& ~~~(1#128 <<< (127 - i).toNat)) ||| (BitVec.ofInt 128 v <<< (127 - i).toNat)
def cCut (O : Th) : ConF := fun | [.agg [.u a, .u b], .c (.i n)] => some (True, [.agg [.u (O.th fun _ => hi (cutW (W a b) n)), .u (O.th fun _ => lo (cutW (W a b) n)), .i n]]) | _ => none
def cIsFam (O : Th) : ConF := fun | [.c (.i f)] => some (True, [.c (.b (O.th fun _ => isFam f))]) | _ => none
def cPut (O : Th) : ConF := fun | [.agg [.u a, .u b], .c (.i i), .c (.i v)] => some (O.th fun _ => 0 ≤ i ∧ i ≤ 127 ∧ 0 ≤ v ∧ v ≤ 1, [.agg (wdO O fun _ => putW (W a b) i v)]) | _ => none

theorem lt_carry (x y : BitVec 64) : (x + y < x) ↔ 18446744073709551616 ≤ x.toNat + y.toNat := by
  rw [BitVec.lt_def, BitVec.toNat_add]
  have := x.isLt; have := y.isLt
  omega
theorem radd_lo (a b c d : BitVec 64) : b + d = lo (W a b + W c d) := by
  rw [← add_lo]; simp
theorem radd_hi1 {a b c d : BitVec 64} (h : b + d < b) : a + c + 1#64 = hi (W a b + W c d) := by
  rw [lt_carry] at h
  rw [← add_hi]
  congr 1
  unfold carry
  rw [if_neg (by simp; omega)]
  rfl
theorem radd_hi0 {a b c d : BitVec 64} (h : ¬ b + d < b) : a + c + 0#64 = hi (W a b + W c d) := by
  rw [lt_carry] at h
  rw [← add_hi]
  congr 1
  unfold carry
  rw [if_pos (by simp; omega)]
  rfl
theorem radd_over1 {a b c d : BitVec 64} (h : b + d < b) : (decide (a + c < a) || decide (a + c + 1#64 < a + c)) = overW (W a b) (W c d) := by
  unfold overW
  rw [Bool.eq_iff_iff, Bool.or_eq_true, decide_eq_true_iff, decide_eq_true_iff, decide_eq_true_iff, lt_carry, lt_carry, W_toNat, W_toNat, BitVec.toNat_add]
  rw [lt_carry] at h
  have := a.isLt; have := b.isLt; have := c.isLt; have := d.isLt
  simp
  omega
theorem radd_over0 {a b c d : BitVec 64} (h : ¬ b + d < b) : (decide (a + c < a) || decide (a + c + 0#64 < a + c)) = overW (W a b) (W c d) := by
  unfold overW
  rw [Bool.eq_iff_iff, Bool.or_eq_true, decide_eq_true_iff, decide_eq_true_iff, decide_eq_true_iff, lt_carry, lt_carry, W_toNat, W_toNat, BitVec.toNat_add]
  rw [lt_carry] at h
  have := a.isLt; have := b.isLt; have := c.isLt; have := d.isLt
  simp
  omega

theorem radd_over1m {a b c d : BitVec 64} (h : b + d < b) : (match decide (a + c < a) with | true => true | false => decide (a + c + 1#64 < a + c)) = overW (W a b) (W c d) := by
  rw [← radd_over1 h]; cases decide (a + c < a) <;> rfl
theorem radd_over0m {a b c d : BitVec 64} (h : ¬ b + d < b) : (match decide (a + c < a) with | true => true | false => decide (a + c + 0#64 < a + c)) = overW (W a b) (W c d) := by
  rw [← radd_over0 h]; cases decide (a + c < a) <;> rfl
theorem one_W : (1#128) = W 0#64 1#64 := by decide
theorem ofInt_W {v : Int} (h0 : 0 ≤ v) (h1 : v ≤ 1) : BitVec.ofInt 128 v = W 0#64 (BitVec.ofInt 64 v) ∧ (BitVec.ofInt 64 v = 0#64 ∨ BitVec.ofInt 64 v = 1#64) := by
  have : v = 0 ∨ v = 1 := by omega
  rcases this with rfl | rfl <;> decide
theorem one_shr {x : BitVec 64} (hx : x = 0#64 ∨ x = 1#64) {k : Nat} (hk : 1 ≤ k) : x >>> k = 0#64 := by
  apply BitVec.eq_of_toNat_eq
  rw [BitVec.toNat_ushiftRight, Nat.shiftRight_eq_div_pow]
  have : 1 < 2 ^ k := Nat.one_lt_two_pow (by omega)
  rcases hx with rfl | rfl
  · simp
  · exact Nat.div_eq_of_lt this
theorem put_hi {a b : BitVec 64} {i v : Int} (h0 : 0 ≤ i) (h1 : i < 64) (v0 : 0 ≤ v) (v1 : v ≤ 1) :
    a &&& ~~~(1#64 <<< (wrap64 (63 - i)).toNat) ||| BitVec.ofInt 64 v <<< (wrap64 (63 - i)).toNat = hi (putW (W a b) i v) ∧ b = lo (putW (W a b) i v) := by
  rw [wrap64_of (by omega) (by omega)]
  unfold putW
  rw [(ofInt_W v0 v1).1, one_W]
  have e : (127 - i).toNat - 64 = (63 - i).toNat := by omega
  constructor
  · rw [hi_or, hi_and, hi_not, hi_shl2 _ _ _ (by omega), hi_shl2 _ _ _ (by omega), hi_W, e]
  · rw [lo_or, lo_and, lo_not, lo_shl, lo_shl, lo_W, shl_big _ _ (by omega), shl_big _ _ (by omega)]
    show b = (b &&& ~~~0#64) ||| 0#64
    rw [BitVec.or_zero, BitVec.not_zero, BitVec.and_allOnes]
theorem put_lo {a b : BitVec 64} {i v : Int} (h0 : 64 ≤ i) (h1 : i ≤ 127) (v0 : 0 ≤ v) (v1 : v ≤ 1) :
    a = hi (putW (W a b) i v) ∧ b &&& ~~~(1#64 <<< (wrap64 (127 - i)).toNat) ||| BitVec.ofInt 64 v <<< (wrap64 (127 - i)).toNat = lo (putW (W a b) i v) := by
  rw [wrap64_of (by omega) (by omega)]
  unfold putW
  rw [(ofInt_W v0 v1).1, one_W]
  constructor
  · rw [hi_or, hi_and, hi_not, hi_shl _ _ _ (by omega), hi_shl _ _ _ (by omega), hi_W, one_shr (.inr rfl) (by omega), one_shr (ofInt_W v0 v1).2 (by omega), BitVec.zero_shiftLeft, BitVec.or_zero, BitVec.or_zero, BitVec.not_zero, BitVec.and_allOnes]
  · rw [lo_or, lo_and, lo_not, lo_shl, lo_shl, lo_W]
end Go.Vx

import Derived.Test.YtijaimiefcohbaaDoorX20
set_option linter.unusedSimpArgs false
set_option linter.unusedVariables false
set_option linter.constructorNameAsVariable false
namespace Go.Vx
open Go Go.RowKit
/-- how many noughts stand last -/
def tzAux : Nat → Nat → Nat
  | 0, _ => 0
  | f + 1, n => if n % 2 = 1 then 0 else tzAux f (n / 2) + 1

theorem tzAux_le : ∀ (f n : Nat), tzAux f n ≤ f
  | 0, _ => Nat.le_refl _
  | f + 1, n => by
    simp only [tzAux]
    split
    · omega
    · have := tzAux_le f (n / 2); omega

theorem tzAux_bits : ∀ (f n : Nat), (∀ j, j < tzAux f n → n.testBit j = false) ∧ (tzAux f n < f → n.testBit (tzAux f n) = true)
  | 0, n => ⟨fun j h => absurd h (Nat.not_lt_zero _), fun h => absurd h (Nat.not_lt_zero _)⟩
  | f + 1, n => by
    obtain ⟨h1, h2⟩ := tzAux_bits f (n / 2)
    simp only [tzAux]
    split
    · rename_i h
      exact ⟨fun j hj => absurd hj (Nat.not_lt_zero _), fun _ => by simp [Nat.testBit_zero, h]⟩
    · rename_i h
      refine ⟨fun j hj => ?_, fun hj => ?_⟩
      · cases j with
        | zero => simp [Nat.testBit_zero]; omega
        | succ j => rw [Nat.testBit_succ]; exact h1 j (by omega)
      · rw [Nat.testBit_succ]; exact h2 (by omega)

def tz64 (x : BitVec 64) : Nat := tzAux 64 x.toNat

theorem tz64_lt {x : BitVec 64} (h : x ≠ 0) : tz64 x < 64 := by
  rcases Nat.lt_or_ge (tz64 x) 64 with h1 | h1
  · exact h1
  · refine absurd (BitVec.eq_of_getLsbD_eq fun i hi => ?_) h
    rw [← BitVec.testBit_toNat, (tzAux_bits 64 x.toNat).1 i (by unfold tz64 at h1; omega)]
    simp

theorem tz64_zero : tz64 0 = 64 := by decide

theorem low_bit {x : BitVec 64} (h : x ≠ 0) : x &&& -x = 1#64 <<< tz64 x := by
  have hk := tz64_lt h
  obtain ⟨h1, h2⟩ := tzAux_bits 64 x.toNat
  apply BitVec.eq_of_getLsbD_eq
  intro i hi
  rw [BitVec.getLsbD_and, BitVec.getLsbD_neg, BitVec.getLsbD_shiftLeft]
  have hb : ∀ j, x.getLsbD j = x.toNat.testBit j := fun j => (BitVec.testBit_toNat x).symm
  simp only [hb]
  rcases Nat.lt_trichotomy i (tz64 x) with hlt | heq | hgt
  · rw [h1 i hlt]
    simp [hlt]
  · subst heq
    have : ¬ ∃ j, j < tz64 x ∧ x.toNat.testBit j = true := by
      rintro ⟨j, hj, hj2⟩
      rw [h1 j hj] at hj2; cases hj2
    have h3 : x.toNat.testBit (tz64 x) = true := h2 hk
    simp only [h3, this, hk, decide_true, decide_false, Bool.true_and, Bool.and_true, Bool.xor_false, Nat.lt_irrefl, Bool.not_false, Nat.sub_self]
    rfl
  · have : ∃ j, j < i ∧ x.toNat.testBit j = true := ⟨tz64 x, hgt, h2 hk⟩
    have hne : ¬ (i - tz64 x = 0) := by omega
    simp only [this, hi, decide_true, Bool.xor_true, Bool.true_and, BitVec.getLsbD_one, hne, decide_false, Bool.and_false, Bool.and_not_self]

theorem tz_tab : ∀ k : Nat, k < 64 → tz64tab[((1#64 <<< k * 285870213051353865#64) >>> 58).toNat]? = some (k : Int) := by decide

theorem tz_known : knownTabs.lookup "math/bits.deBruijn64tab" = some (tz64tab.map fun n => .int .u8 n) := by
  simp [knownTabs]
theorem tz_e1 (x : BitVec 64) : IntKind.u64.wrap (-(x.toNat : Int)) = ((-x).toNat : Int) := by
  have := sub_u 0 x
  simpa using this
theorem tz_e2 (x y : BitVec 64) : bits BinOp.and IntKind.u64 (x.toNat : Int) (y.toNat : Int) = ((x &&& y).toNat : Int) := by
  simp only [bits, IntKind.bits, ofInt_toNat, u64_wrap_toNat]
  rfl
theorem tz_e3 (x : BitVec 64) : IntKind.u64.wrap ((x.toNat : Int) * 285870213051353865) = ((x * 285870213051353865#64).toNat : Int) := by
  have hB : ((285870213051353865#64).toNat : Int) = 285870213051353865 := by decide
  have e3 := mul_u x 285870213051353865#64
  rw [hB] at e3
  exact e3
theorem tz_key {x : BitVec 64} (hx : x ≠ 0) : (IntKind.u64.wrap (bits BinOp.and IntKind.u64 (x.toNat : Int) (IntKind.u64.wrap (-(x.toNat : Int))) * 285870213051353865) / 288230376151711744 : Int) = ((((1#64 <<< tz64 x * 285870213051353865#64) >>> 58).toNat : Nat) : Int) := by
  rw [← low_bit hx, tz_e1, tz_e2, tz_e3, BitVec.toNat_ushiftRight, Nat.shiftRight_eq_div_pow]
  generalize ((x &&& -x) * 285870213051353865#64).toNat = q
  have : (2 : Nat) ^ 58 = 288230376151711744 := by decide
  rw [this]
  omega
theorem tz_idx {x : BitVec 64} (hx : x ≠ 0) : ∃ m : Nat, m < 64 ∧ tz64tab[m]? = some (tz64 x : Int) ∧ (IntKind.u64.wrap (bits BinOp.and IntKind.u64 (x.toNat : Int) (IntKind.u64.wrap (-(x.toNat : Int))) * 285870213051353865) / 288230376151711744 : Int) = (m : Int) := by
  have ht := tz_tab (tz64 x) (tz64_lt hx)
  exact ⟨_, (List.getElem?_eq_some_iff.1 ht).1, ht, tz_key hx⟩
def fTz (O : Th) : ConF := fun
  | [.c (.u x)] => some (True, [.c (.i (O.th fun _ => (tz64 x : Int)))])
  | _ => none


/-! ### words of 128 bits -/
def W (a b : BitVec 64) : BitVec 128 := a ++ b
def hi (x : BitVec 128) : BitVec 64 := x.extractLsb' 64 64
def lo (x : BitVec 128) : BitVec 64 := x.extractLsb' 0 64

theorem W_toNat (a b : BitVec 64) : (W a b).toNat = a.toNat * 18446744073709551616 + b.toNat := by
  unfold W
  rw [BitVec.toNat_append, ← Nat.shiftLeft_add_eq_or_of_lt b.isLt, Nat.shiftLeft_eq]
theorem hi_toNat (x : BitVec 128) : (hi x).toNat = x.toNat / 18446744073709551616 := by
  unfold hi
  have := x.isLt
  rw [BitVec.extractLsb'_toNat, Nat.shiftRight_eq_div_pow]
  omega
theorem lo_toNat (x : BitVec 128) : (lo x).toNat = x.toNat % 18446744073709551616 := by
  unfold lo
  rw [BitVec.extractLsb'_toNat]
  simp
@[simp] theorem hi_W (a b : BitVec 64) : hi (W a b) = a := by
  apply BitVec.eq_of_toNat_eq; rw [hi_toNat, W_toNat]; have := b.isLt; omega
@[simp] theorem lo_W (a b : BitVec 64) : lo (W a b) = b := by
  apply BitVec.eq_of_toNat_eq; rw [lo_toNat, W_toNat]; have := b.isLt; omega
@[simp] theorem W_hi_lo (x : BitVec 128) : W (hi x) (lo x) = x := by
  apply BitVec.eq_of_toNat_eq; rw [W_toNat, hi_toNat, lo_toNat]; omega
theorem W_inj {a b c d : BitVec 64} : W a b = W c d ↔ a = c ∧ b = d := by
  constructor
  · intro h; exact ⟨by rw [← hi_W a b, h, hi_W], by rw [← lo_W a b, h, lo_W]⟩
  · rintro ⟨rfl, rfl⟩; rfl

def wd (x : BitVec 128) : List Pl := [.u (hi x), .u (lo x)]
def wdO (O : Th) (f : Unit → BitVec 128) : List Pl := [.u (O.th fun _ => hi (f ())), .u (O.th fun _ => lo (f ()))]
theorem hi_bit (x : BitVec 128) (i : Nat) : (hi x).getLsbD i = (decide (i < 64) && x.getLsbD (64 + i)) := by simp [hi]
theorem lo_bit (x : BitVec 128) (i : Nat) : (lo x).getLsbD i = (decide (i < 64) && x.getLsbD i) := by simp [lo]
theorem W_bit (a b : BitVec 64) (i : Nat) : (W a b).getLsbD i = if i < 64 then b.getLsbD i else a.getLsbD (i - 64) := by simp only [W, BitVec.getLsbD_append]

theorem hi_and (x y : BitVec 128) : hi (x &&& y) = hi x &&& hi y := by apply BitVec.eq_of_getLsbD_eq; intro i h; simp only [hi_bit, BitVec.getLsbD_and, h, decide_true, Bool.true_and]
theorem lo_and (x y : BitVec 128) : lo (x &&& y) = lo x &&& lo y := by apply BitVec.eq_of_getLsbD_eq; intro i h; simp only [lo_bit, BitVec.getLsbD_and, h, decide_true, Bool.true_and]
theorem hi_or (x y : BitVec 128) : hi (x ||| y) = hi x ||| hi y := by apply BitVec.eq_of_getLsbD_eq; intro i h; simp only [hi_bit, BitVec.getLsbD_or, h, decide_true, Bool.true_and]
theorem lo_or (x y : BitVec 128) : lo (x ||| y) = lo x ||| lo y := by apply BitVec.eq_of_getLsbD_eq; intro i h; simp only [lo_bit, BitVec.getLsbD_or, h, decide_true, Bool.true_and]
theorem hi_xor (x y : BitVec 128) : hi (x ^^^ y) = hi x ^^^ hi y := by apply BitVec.eq_of_getLsbD_eq; intro i h; simp only [hi_bit, BitVec.getLsbD_xor, h, decide_true, Bool.true_and]
theorem lo_xor (x y : BitVec 128) : lo (x ^^^ y) = lo x ^^^ lo y := by apply BitVec.eq_of_getLsbD_eq; intro i h; simp only [lo_bit, BitVec.getLsbD_xor, h, decide_true, Bool.true_and]
theorem hi_not (x : BitVec 128) : hi (~~~x) = ~~~hi x := by
  apply BitVec.eq_of_getLsbD_eq; intro i h
  have : 64 + i < 128 := by omega
  simp only [hi_bit, BitVec.getLsbD_not, h, this, decide_true, Bool.true_and]
theorem lo_not (x : BitVec 128) : lo (~~~x) = ~~~lo x := by
  apply BitVec.eq_of_getLsbD_eq; intro i h
  have : i < 128 := by omega
  simp only [lo_bit, BitVec.getLsbD_not, h, this, decide_true, Bool.true_and]
theorem hi_shr (a b : BitVec 64) (n : Nat) : hi (W a b >>> n) = a >>> n := by
  apply BitVec.eq_of_getLsbD_eq; intro i h
  have e : ¬ (n + (64 + i) < 64) := by omega
  have e2 : n + (64 + i) - 64 = n + i := by omega
  simp only [hi_bit, h, BitVec.getLsbD_ushiftRight, W_bit, e, e2, decide_true, Bool.true_and, if_false]
theorem lo_shr (a b : BitVec 64) (n : Nat) (hn : n < 64) : lo (W a b >>> n) = b >>> n ||| a <<< (64 - n) := by
  apply BitVec.eq_of_getLsbD_eq; intro i h
  have hb : n + i ≥ 64 → b.getLsbD (n + i) = false := fun h => BitVec.getLsbD_of_ge _ _ h
  simp only [lo_bit, h, decide_true, Bool.true_and, BitVec.getLsbD_ushiftRight, W_bit, BitVec.getLsbD_or, BitVec.getLsbD_shiftLeft]
  by_cases hc : n + i < 64
  · have : i < 64 - n := by omega
    simp only [hc, this, if_true, decide_true, Bool.not_true, Bool.and_false, Bool.false_and, Bool.or_false]
  · have h2 : ¬ (i < 64 - n) := by omega
    have h3 : n + i - 64 = i - (64 - n) := by omega
    simp only [hc, h2, h3, hb (by omega), if_false, decide_false, Bool.not_false, Bool.and_true, Bool.true_and, Bool.false_or]
theorem lo_shr2 (a b : BitVec 64) (n : Nat) (hn : 64 ≤ n) : lo (W a b >>> n) = a >>> (n - 64) := by
  apply BitVec.eq_of_getLsbD_eq; intro i h
  have e : ¬ (n + i < 64) := by omega
  have e2 : n + i - 64 = n - 64 + i := by omega
  simp only [lo_bit, h, BitVec.getLsbD_ushiftRight, W_bit, e, e2, decide_true, Bool.true_and, if_false]
theorem lo_shl (a b : BitVec 64) (n : Nat) : lo (W a b <<< n) = b <<< n := by
  apply BitVec.eq_of_getLsbD_eq; intro i h
  have e : i < 128 := by omega
  have e2 : i - n < 64 := by omega
  simp only [lo_bit, h, BitVec.getLsbD_shiftLeft, W_bit, e, e2, decide_true, Bool.true_and, if_true]
theorem hi_shl (a b : BitVec 64) (n : Nat) (hn : n < 64) : hi (W a b <<< n) = a <<< n ||| b >>> (64 - n) := by
  apply BitVec.eq_of_getLsbD_eq; intro i h
  simp only [hi_bit, h, decide_true, Bool.true_and, BitVec.getLsbD_shiftLeft, W_bit, BitVec.getLsbD_or, BitVec.getLsbD_ushiftRight]
  have e : 64 + i < 128 := by omega
  have e0 : ¬ (64 + i < n) := by omega
  by_cases hc : i < n
  · have h1 : 64 - n + i < 64 := by omega
    have h2 : 64 + i - n = 64 - n + i := by omega
    simp only [hc, e, e0, h1, h2, decide_true, decide_false, Bool.not_true, Bool.not_false, Bool.true_and, Bool.and_false, Bool.false_and, Bool.false_or, if_true]
  · have h1 : ¬ (64 + i - n < 64) := by omega
    have h2 : 64 + i - n - 64 = i - n := by omega
    have h3 : b.getLsbD (64 - n + i) = false := BitVec.getLsbD_of_ge _ _ (by omega)
    simp only [hc, e, e0, h1, h2, h3, decide_true, decide_false, Bool.not_false, Bool.true_and, Bool.or_false, if_false]
theorem hi_shl2 (a b : BitVec 64) (n : Nat) (hn : 64 ≤ n) : hi (W a b <<< n) = b <<< (n - 64) := by
  apply BitVec.eq_of_getLsbD_eq; intro i h
  simp only [hi_bit, h, decide_true, Bool.true_and, BitVec.getLsbD_shiftLeft, W_bit]
  have e : 64 + i < 128 := by omega
  by_cases hc : 64 + i < n
  · have : i < n - 64 := by omega
    simp only [hc, this, decide_true, Bool.not_true, Bool.and_false, Bool.false_and]
  · have h1 : i - (n - 64) < 64 := by omega
    have h2 : 64 + i - n = i - (n - 64) := by omega
    have h3 : ¬ (i < n - 64) := by omega
    simp only [hc, e, h1, h2, h3, decide_true, decide_false, Bool.not_false, Bool.true_and, if_true]
theorem W_lt (a b c d : BitVec 64) : W a b < W c d ↔ a < c ∨ a = c ∧ b < d := by
  simp only [BitVec.lt_def, W_toNat, BitVec.toNat_inj.symm]
  have := b.isLt; have := d.isLt; omega
theorem hi_zero : hi 0#128 = 0#64 := by decide
theorem lo_zero : lo 0#128 = 0#64 := by decide
theorem hi_ones : hi (BitVec.allOnes 128) = 18446744073709551615 := by decide
theorem lo_ones : lo (BitVec.allOnes 128) = 18446744073709551615 := by decide
theorem W_zero : W 0#64 0#64 = 0#128 := by decide

/-! ### what the functions over words tell -/
def maskW (n : Int) : BitVec 128 := ~~~(BitVec.allOnes 128 >>> n.toNat)
def cmpW (x y : BitVec 128) : Int := if x = y then 0 else if x < y then -1 else 1
def overW (x y : BitVec 128) : Bool := decide (340282366920938463463374607431768211456 ≤ x.toNat + y.toNat)
def rightW (f : Int) (w : BitVec 128) : Int := if f ≠ 32 ∧ f ≠ 128 then 11 else if w &&& ~~~maskW f ≠ 0 then 6 else 0
def unitW (f : Int) : BitVec 128 := 1#128 <<< (128 - f).toNat
def lastW (f : Int) (w : BitVec 128) (n : Int) : BitVec 128 := w ||| (maskW f &&& ~~~maskW n)
def stopW (f : Int) (w : BitVec 128) : Bool := decide (rightW f w ≠ 0 ∨ w = maskW f)
def nextW (f : Int) (w : BitVec 128) : BitVec 128 := if stopW f w then 0 else w + unitW f
def trailW (x : BitVec 128) : Int := tzAux 128 x.toNat

def cAnd (O : Th) : ConF := fun | [.agg [.u a, .u b], .agg [.u c, .u d]] => some (True, [.agg (wdO O fun _ => W a b &&& W c d)]) | _ => none
def cOr (O : Th) : ConF := fun | [.agg [.u a, .u b], .agg [.u c, .u d]] => some (True, [.agg (wdO O fun _ => W a b ||| W c d)]) | _ => none
def cXor (O : Th) : ConF := fun | [.agg [.u a, .u b], .agg [.u c, .u d]] => some (True, [.agg (wdO O fun _ => W a b ^^^ W c d)]) | _ => none
def cNot (O : Th) : ConF := fun | [.agg [.u a, .u b]] => some (True, [.agg (wdO O fun _ => ~~~W a b)]) | _ => none
def cShr (O : Th) : ConF := fun | [.agg [.u a, .u b], .c (.i n)] => some (True, [.agg (wdO O fun _ => W a b >>> n.toNat)]) | _ => none
def cShl (O : Th) : ConF := fun | [.agg [.u a, .u b], .c (.i n)] => some (True, [.agg (wdO O fun _ => W a b <<< n.toNat)]) | _ => none
def cOnes (O : Th) : ConF := fun | [] => some (True, [.agg (wdO O fun _ => BitVec.allOnes 128)]) | _ => none
def cMask (O : Th) : ConF := fun | [.c (.i n)] => some (True, [.agg (wdO O fun _ => maskW n)]) | _ => none
def cCmp (O : Th) : ConF := fun | [.agg [.u a, .u b], .agg [.u c, .u d]] => some (True, [.c (.i (O.th fun _ => cmpW (W a b) (W c d)))]) | _ => none
def cAdd (O : Th) : ConF := fun | [.agg [.u a, .u b], .agg [.u c, .u d]] => some (True, [.agg (wdO O fun _ => W a b + W c d), .c (.b (O.th fun _ => overW (W a b) (W c d)))]) | _ => none
def cTrail (O : Th) : ConF := fun | [.agg [.u a, .u b]] => some (True, [.c (.i (O.th fun _ => trailW (W a b)))]) | _ => none
def cRight (O : Th) : ConF := fun | [.c (.i f), .agg [.u a, .u b]] => some (True, [.c (.i (O.th fun _ => rightW f (W a b)))]) | _ => none
def cUnit (O : Th) : ConF := fun | [.c (.i f)] => some (O.th fun _ => f = 32 ∨ f = 128, [.agg (wdO O fun _ => unitW f)]) | _ => none
def cNext (O : Th) : ConF := fun | [.c (.i f), .agg [.u a, .u b]] => some (True, [.agg (wdO O fun _ => nextW f (W a b)), .c (.b (O.th fun _ => !stopW f (W a b)))]) | _ => none
def cLast (O : Th) : ConF := fun | [.c (.i f), .agg [.u a, .u b, .i n]] => some (True, [.agg (wdO O fun _ => lastW f (W a b) n)]) | _ => none

theorem raw64 (k : Nat) (h : k < 2 ^ 64) : (⟨⟨k, h⟩⟩ : BitVec 64) = BitVec.ofNat 64 k := by
  apply BitVec.eq_of_toNat_eq
  rw [BitVec.toNat_ofNat, Nat.mod_eq_of_lt h]
  rfl
theorem wrap64_of {x : Int} (h1 : -9223372036854775808 ≤ x) (h2 : x < 9223372036854775808) : wrap64 x = x := by
  unfold wrap64; omega
theorem shr_big (a : BitVec 64) (n : Nat) (h : 64 ≤ n) : a >>> n = 0 := by
  apply BitVec.eq_of_getLsbD_eq; intro i hi
  rw [BitVec.getLsbD_ushiftRight, BitVec.getLsbD_of_ge _ _ (by omega)]; simp
theorem shl_big (a : BitVec 64) (n : Nat) (h : 64 ≤ n) : a <<< n = 0 := by
  apply BitVec.eq_of_getLsbD_eq; intro i hi
  have : i < n := by omega
  simp [BitVec.getLsbD_shiftLeft, this]
theorem shr_all (a b : BitVec 64) (n : Int) : (n ≤ 0 → hi (W a b >>> n.toNat) = a ∧ lo (W a b >>> n.toNat) = b) ∧
    (0 < n → n < 64 → hi (W a b >>> n.toNat) = a >>> n.toNat ∧ lo (W a b >>> n.toNat) = b >>> n.toNat ||| a <<< (64 - n).toNat) ∧
    (64 ≤ n → n < 128 → hi (W a b >>> n.toNat) = 0 ∧ lo (W a b >>> n.toNat) = a >>> (n - 64).toNat) ∧
    (128 ≤ n → hi (W a b >>> n.toNat) = 0 ∧ lo (W a b >>> n.toNat) = 0) := by
  refine ⟨fun h => ?_, fun h0 h => ?_, fun h0 h => ?_, fun h => ?_⟩
  · have : n.toNat = 0 := by omega
    rw [this]; simp
  · rw [hi_shr, lo_shr _ _ _ (by omega), show (64 - n).toNat = 64 - n.toNat by omega]; exact ⟨rfl, rfl⟩
  · rw [hi_shr, lo_shr2 _ _ _ (by omega), shr_big _ _ (by omega), show (n - 64).toNat = n.toNat - 64 by omega]; exact ⟨rfl, rfl⟩
  · rw [hi_shr, lo_shr2 _ _ _ (by omega), shr_big _ _ (by omega), shr_big _ _ (by omega)]; exact ⟨rfl, rfl⟩
theorem shl_all (a b : BitVec 64) (n : Int) : (n ≤ 0 → hi (W a b <<< n.toNat) = a ∧ lo (W a b <<< n.toNat) = b) ∧
    (0 < n → n < 64 → hi (W a b <<< n.toNat) = a <<< n.toNat ||| b >>> (64 - n).toNat ∧ lo (W a b <<< n.toNat) = b <<< n.toNat) ∧
    (64 ≤ n → n < 128 → hi (W a b <<< n.toNat) = b <<< (n - 64).toNat ∧ lo (W a b <<< n.toNat) = 0) ∧
    (128 ≤ n → hi (W a b <<< n.toNat) = 0 ∧ lo (W a b <<< n.toNat) = 0) := by
  refine ⟨fun h => ?_, fun h0 h => ?_, fun h0 h => ?_, fun h => ?_⟩
  · have : n.toNat = 0 := by omega
    rw [this]; simp
  · rw [lo_shl, hi_shl _ _ _ (by omega), show (64 - n).toNat = 64 - n.toNat by omega]; exact ⟨rfl, rfl⟩
  · rw [lo_shl, hi_shl2 _ _ _ (by omega), shl_big b n.toNat (by omega), show (n - 64).toNat = n.toNat - 64 by omega]; exact ⟨rfl, rfl⟩
  · rw [lo_shl, hi_shl2 _ _ _ (by omega), shl_big b n.toNat (by omega), shl_big b (n.toNat - 64) (by omega)]; exact ⟨rfl, rfl⟩

theorem carry_le (x y c : BitVec 64) : (carry x y c).toNat ≤ 1 := by unfold carry; split <;> decide
theorem carry_nat (x y c : BitVec 64) : (carry x y c).toNat = if x.toNat + y.toNat + c.toNat < 18446744073709551616 then 0 else 1 := by unfold carry; split <;> rfl
theorem add_lo (a b c d : BitVec 64) : b + d + 0#64 = lo (W a b + W c d) := by
  apply BitVec.eq_of_toNat_eq
  rw [lo_toNat, BitVec.toNat_add, BitVec.toNat_add, BitVec.toNat_add, W_toNat, W_toNat, BitVec.toNat_ofNat]
  omega
theorem add_hi (a b c d : BitVec 64) : a + c + carry b d 0#64 = hi (W a b + W c d) := by
  apply BitVec.eq_of_toNat_eq
  rw [hi_toNat, BitVec.toNat_add, BitVec.toNat_add, BitVec.toNat_add, W_toNat, W_toNat, carry_nat, BitVec.toNat_ofNat]
  have := a.isLt; have := b.isLt; have := c.isLt; have := d.isLt
  split <;> omega
theorem add_over (a b c d : BitVec 64) : (carry a c (carry b d 0#64) == 1#64) = overW (W a b) (W c d) := by
  unfold overW
  rw [Bool.eq_iff_iff, beq_iff_eq, decide_eq_true_iff, W_toNat, W_toNat, ← BitVec.toNat_inj, carry_nat, carry_nat, BitVec.toNat_ofNat, BitVec.toNat_ofNat]
  have := a.isLt; have := b.isLt; have := c.isLt; have := d.isLt
  split <;> split <;> omega
theorem shr_end (a b : BitVec 64) (n : Int) : (n ≤ 0 → a = hi (W a b >>> n.toNat) ∧ b = lo (W a b >>> n.toNat)) ∧
    (0 < n → n < 64 → a >>> n.toNat = hi (W a b >>> n.toNat) ∧ b >>> n.toNat ||| a <<< (wrap64 (64 - n)).toNat = lo (W a b >>> n.toNat)) ∧
    (64 ≤ n → n < 128 → 0 = hi (W a b >>> n.toNat) ∧ a >>> (wrap64 (n - 64)).toNat = lo (W a b >>> n.toNat)) ∧
    (128 ≤ n → 0 = hi (W a b >>> n.toNat) ∧ 0 = lo (W a b >>> n.toNat)) := by
  obtain ⟨h1, h2, h3, h4⟩ := shr_all a b n
  refine ⟨fun h => ?_, fun h0 h => ?_, fun h0 h => ?_, fun h => ?_⟩
  · simp [h1 h]
  · rw [wrap64_of (by omega) (by omega)]; simp [h2 h0 h]
  · rw [wrap64_of (by omega) (by omega)]; simp [h3 h0 h]
  · simp [h4 h]
theorem shl_end (a b : BitVec 64) (n : Int) : (n ≤ 0 → a = hi (W a b <<< n.toNat) ∧ b = lo (W a b <<< n.toNat)) ∧
    (0 < n → n < 64 → a <<< n.toNat ||| b >>> (wrap64 (64 - n)).toNat = hi (W a b <<< n.toNat) ∧ b <<< n.toNat = lo (W a b <<< n.toNat)) ∧
    (64 ≤ n → n < 128 → b <<< (wrap64 (n - 64)).toNat = hi (W a b <<< n.toNat) ∧ 0 = lo (W a b <<< n.toNat)) ∧
    (128 ≤ n → 0 = hi (W a b <<< n.toNat) ∧ 0 = lo (W a b <<< n.toNat)) := by
  obtain ⟨h1, h2, h3, h4⟩ := shl_all a b n
  refine ⟨fun h => ?_, fun h0 h => ?_, fun h0 h => ?_, fun h => ?_⟩
  · simp [h1 h]
  · rw [wrap64_of (by omega) (by omega)]; simp [h2 h0 h]
  · rw [wrap64_of (by omega) (by omega)]; simp [h3 h0 h]
  · simp [h4 h]
end Go.Vx

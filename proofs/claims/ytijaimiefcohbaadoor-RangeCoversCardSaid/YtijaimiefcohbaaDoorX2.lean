import Derived.Test.YtijaimiefcohbaaDoorX1
import Derived.Deep.MidRow
import Derived.Laws.Bits64
import Derived.Laws.BitsLemmas
import Derived.Laws.IdiomCopy
set_option linter.unusedSimpArgs false
set_option linter.unusedVariables false
set_option linter.constructorNameAsVariable false
namespace Go.Vx
open Go Go.RowKit

/-! ### what is known of a type -/
structure TI where
  agg : Bool
  size : Nat
  bytes : Nat
  zero : List Pl
  ks : List Kd
  flds : List (Nat × TypeId)
  elem : Option TypeId
  sl : Bool
  nk : Nat
  arr : Option Nat
  ik : Option IntKind
  pl : Option (List (Nat × Nat))

/-- where the fields lie, and how many cells they have -/
def places (P : Program) : List Field → Option (List (Nat × Nat))
  | [] => some []
  | f :: fs => match P.info? f.type, places P fs with
    | some i, some r => some ((f.offset, i.size) :: r)
    | _, _ => none

def aggB : TypeDesc → Bool
  | .struct _ | .array _ _ => true
  | _ => false

def nkD : TypeDesc → Nat
  | .slice _ => 1
  | .pointer _ => 2
  | .func _ _ _ => 3
  | _ => 0

def zOk : Value → Pl → Bool
  | .int .u64 n, .u x => n == (x.toNat : Int)
  | .int .i64 n, .i m => n == m
  | .bool x, .b y => x == y
  | .slice none 0 0, .n _ => true
  | .int k n, .v (.int k' m) => k == k' && n == m
  | .string s, .v (.string t) => s.toList == t.toList
  | .pointer none, .v (.pointer none) => true
  | .nilIface, .v .nilIface => true
  | .nilFunc, .v .nilFunc => true
  | .map none, .v (.map none) => true
  | .float k n, .v (.float k' m) => k == k' && n == m
  | .complex k n m, .v (.complex k' n' m') => k == k' && n == n' && m == m'
  | _, _ => false

def zsOk : List Value → List Pl → Bool
  | [], [] => true
  | v :: vs, p :: ps => zOk v p && zsOk vs ps
  | _, _ => false

theorem ba_ext {s t : ByteArray} (h : s.toList = t.toList) : s = t := by
  have key : ∀ (b : ByteArray), b.toList = b.data.toList := fun b => by
    have hl : ∀ (n i : Nat) (acc : List UInt8), b.size - i = n → i ≤ b.size → ByteArray.toList.loop b i acc = acc.reverse ++ b.data.toList.drop i := by
      intro n
      induction n with
      | zero =>
        intro i acc h hi
        unfold ByteArray.toList.loop
        rw [if_neg (by omega)]
        have : b.data.toList.drop i = [] := List.drop_eq_nil_of_le (by have : b.data.toList.length = b.size := rfl; omega)
        simp [this]
      | succ n ih =>
        intro i acc h hi
        unfold ByteArray.toList.loop
        rw [if_pos (by omega), ih (i + 1) _ (by omega) (by omega)]
        have hlt : i < b.data.toList.length := by have : b.data.toList.length = b.size := rfl; omega
        have hsz : i < b.size := by omega
        rw [List.drop_eq_getElem_cons hlt]
        simp only [List.reverse_cons, List.append_assoc, List.cons_append, List.nil_append]
        congr 2
        show b.get! i = _
        have : b.get! i = b.data[i]! := rfl
        rw [this]
        have hd : i < b.data.size := hsz
        exact getElem!_pos b.data i hd
    have := hl b.size 0 [] (by omega) (Nat.zero_le _)
    simpa [ByteArray.toList] using this
  rw [key, key] at h
  cases s; cases t
  simp only at h
  congr 1
  exact Array.ext' h

theorem zOk_spec {Z : Zs} {v : Value} {p : Pl} (h : zOk v p = true) : PlOk Z v p := by
  unfold zOk at h
  split at h
  · rw [beq_iff_eq] at h; subst h; exact .u _
  · rw [beq_iff_eq] at h; subst h; exact .i _
  · rw [beq_iff_eq] at h; subst h; exact .b _
  · exact .n _
  · simp only [Bool.and_eq_true, beq_iff_eq] at h; obtain ⟨rfl, rfl⟩ := h; exact .v rfl
  · simp only [beq_iff_eq] at h
    have := ba_ext h
    subst this
    exact .v rfl
  · exact .v rfl
  · exact .v rfl
  · exact .v rfl
  · exact .v rfl
  · simp only [Bool.and_eq_true, beq_iff_eq] at h; obtain ⟨rfl, rfl⟩ := h; exact .v rfl
  · simp only [Bool.and_eq_true, beq_iff_eq] at h; obtain ⟨⟨rfl, rfl⟩, rfl⟩ := h; exact .v rfl
  · cases h

theorem zsOk_spec {Z : Zs} : ∀ {vs : List Value} {ps : List Pl}, zsOk vs ps = true → PlsOk Z vs ps
  | [], [], _ => .nil
  | [], _ :: _, h => by simp [zsOk] at h
  | _ :: _, [], h => by simp [zsOk] at h
  | v :: vs, p :: ps, h => by
    simp only [zsOk, Bool.and_eq_true] at h
    exact .cons (zOk_spec h.1) (zsOk_spec h.2)

def tinfo (P : Program) (T : TypeId) (ks : List Kd) (zs : List Pl) : Option TI :=
  match P.underlying T, P.info? T with
  | some d, some i =>
    match i.zero with
    | some z =>
      if z.cells.size = i.size ∧ zsOk z.cells.toList zs = true then
      some { agg := aggB d, size := i.size, bytes := i.bytes, zero := zs, ks := ks
             flds := match d with | .struct fs => fs.toList.map fun f => (f.offset, f.type) | _ => []
             elem := match d with | .slice e => some e | .array _ e => some e | _ => none
             sl := match d with | .slice _ => true | _ => false
             nk := nkD d
             arr := match d with | .array n _ => some n | _ => none
             ik := match d with | .int k => some k | _ => none
             pl := match d with | .struct fs => places P fs.toList | _ => none }
      else none
    | none => none
  | _, _ => none

def TI.ok (P : Program) (T : TypeId) (ti : TI) : Prop := tinfo P T ti.ks ti.zero = some ti
def TI.kinds (t : TI) : List Kd := t.zero.map Pl.kd

theorem tinfo_some {P : Program} {T : TypeId} {ti : TI} (h : ti.ok P T) :
    ∃ d i z, P.underlying T = some d ∧ P.info? T = some i ∧ i.zero = some z ∧ (z.cells.size = i.size ∧ zsOk z.cells.toList ti.zero = true) ∧ ti.agg = aggB d ∧ ti.size = i.size ∧ ti.bytes = i.bytes ∧
      ti.flds = (match d with | .struct fs => fs.toList.map fun f => (f.offset, f.type) | _ => []) ∧ ti.elem = (match d with | .slice e => some e | .array _ e => some e | _ => none) ∧ ti.sl = (match d with | .slice _ => true | _ => false) ∧
      ti.nk = nkD d ∧ ti.arr = (match d with | .array n _ => some n | _ => none) ∧ ti.ik = (match d with | .int k => some k | _ => none) ∧ ti.pl = (match d with | .struct fs => places P fs.toList | _ => none) := by
  unfold TI.ok tinfo at h
  split at h
  · rename_i d i hd hi
    split at h
    · rename_i z hz
      split at h
      · rename_i hs
        have h := Option.some.inj h
        refine ⟨d, i, z, hd, hi, hz, hs, ?_, ?_, ?_, ?_, ?_, ?_, ?_, ?_, ?_, ?_⟩ <;> rw [← h]
      · cases h
    · cases h
  · cases h

theorem ti_zero {P : Program} {T : TypeId} {ti : TI} (h : ti.ok P T) : ti.zero.length = ti.size := by
  obtain ⟨d, i, z, _, _, _, ⟨h1, h2⟩, _, h3, _⟩ := tinfo_some h
  rw [h3, ← h1, ← Array.length_toList, (zsOk_spec (Z := fun _ => none) h2).length]

theorem ti_kinds_length {P : Program} {T : TypeId} {ti : TI} (h : ti.ok P T) : ti.kinds.length = ti.size := by
  rw [TI.kinds, List.length_map, ti_zero h]

/-! ### arithmetic -/
/-- a value that the reckoning leaves closed -/
structure Th where
  th : {α : Type} → (Unit → α) → α
  eq : ∀ {α : Type} (f : Unit → α), th f = f ()

abbrev Th.std : Th := ⟨fun {_} f => f (), fun _ => rfl⟩
theorem Th.uniq (O : Th) : O = Th.std := by
  obtain ⟨t, h⟩ := O
  have : @t = fun {_} f => f () := by
    funext α f
    exact h f
  subst this
  rfl

def cmpB {α : Type} [DecidableEq α] (lt le : α → α → Bool) : BinOp → α → α → Option Bool
  | .eql, a, b => some (a == b)
  | .neq, a, b => some (a != b)
  | .lss, a, b => some (lt a b)
  | .leq, a, b => some (le a b)
  | .gtr, a, b => some (lt b a)
  | .geq, a, b => some (le b a)
  | _, _, _ => none

/-- whole numbers, Bools -/
def abin (O : Th) : BinOp → Pl → Pl → Option (Prop × Pl)
  | .add, .i a, .i b => some (True, .i (O.th fun _ => wrap64 (a + b)))
  | .sub, .i a, .i b => some (True, .i (O.th fun _ => wrap64 (a - b)))
  | .mul, .i a, .i b => some (True, .i (O.th fun _ => wrap64 (a * b)))
  | .eql, .i a, .i b => some (True, .b (O.th fun _ => a == b))
  | .neq, .i a, .i b => some (True, .b (O.th fun _ => a != b))
  | .lss, .i a, .i b => some (True, .b (O.th fun _ => decide (a < b)))
  | .leq, .i a, .i b => some (True, .b (O.th fun _ => decide (a ≤ b)))
  | .gtr, .i a, .i b => some (True, .b (O.th fun _ => decide (b < a)))
  | .geq, .i a, .i b => some (True, .b (O.th fun _ => decide (b ≤ a)))
  | .add, .u a, .u b => some (True, .u (O.th fun _ => a + b))
  | .sub, .u a, .u b => some (True, .u (O.th fun _ => a - b))
  | .mul, .u a, .u b => some (True, .u (O.th fun _ => a * b))
  | .and, .u a, .u b => some (True, .u (O.th fun _ => a &&& b))
  | .or, .u a, .u b => some (True, .u (O.th fun _ => a ||| b))
  | .xor, .u a, .u b => some (True, .u (O.th fun _ => a ^^^ b))
  | .andNot, .u a, .u b => some (True, .u (O.th fun _ => a &&& ~~~b))
  | .eql, .u a, .u b => some (True, .b (O.th fun _ => a == b))
  | .neq, .u a, .u b => some (True, .b (O.th fun _ => a != b))
  | .lss, .u a, .u b => some (True, .b (O.th fun _ => decide (a < b)))
  | .leq, .u a, .u b => some (True, .b (O.th fun _ => decide (a ≤ b)))
  | .gtr, .u a, .u b => some (True, .b (O.th fun _ => decide (b < a)))
  | .geq, .u a, .u b => some (True, .b (O.th fun _ => decide (b ≤ a)))
  | .shl, .u a, .i n => some (O.th fun _ => 0 ≤ n, .u (O.th fun _ => a <<< n.toNat))
  | .shr, .u a, .i n => some (O.th fun _ => 0 ≤ n, .u (O.th fun _ => a >>> n.toNat))
  | .shl, .u a, .u n => some (True, .u (O.th fun _ => a <<< n.toNat))
  | .shr, .u a, .u n => some (True, .u (O.th fun _ => a >>> n.toNat))
  | .shl, .i a, .i n => some (O.th fun _ => 0 ≤ n, .i (O.th fun _ => wrap64 (a * 2 ^ min n.toNat 64)))
  | .shr, .i a, .i n => some (O.th fun _ => 0 ≤ n, .i (O.th fun _ => a / 2 ^ min n.toNat 64))
  | .quo, .i a, .i b => some (O.th fun _ => b ≠ 0, .i (O.th fun _ => wrap64 (a.tdiv b)))
  | .rem, .i a, .i b => some (O.th fun _ => b ≠ 0, .i (O.th fun _ => a.tmod b))
  | _, _, _ => none

theorem toNat_wrap_u64 (n : Int) : IntKind.u64.wrap n = ((BitVec.ofInt 64 n).toNat : Int) := by
  rw [IntKind.wrap_u64, BitVec.toNat_ofInt]
  omega
theorem u64_wrap_toNat (x : BitVec 64) : IntKind.u64.wrap (x.toNat : Int) = (x.toNat : Int) := by
  rw [IntKind.wrap_u64]
  have := x.isLt
  omega
theorem ofInt_toNat (x : BitVec 64) : BitVec.ofInt 64 (x.toNat : Int) = x := by
  apply BitVec.eq_of_toNat_eq
  rw [BitVec.toNat_ofInt]
  have := x.isLt
  omega
theorem beq_toNat (a b : BitVec 64) : ((a.toNat : Int) == (b.toNat : Int)) = (a == b) := by
  rw [Bool.eq_iff_iff, beq_iff_eq, beq_iff_eq]
  constructor
  · intro h; exact BitVec.eq_of_toNat_eq (by omega)
  · rintro rfl; rfl
theorem i64_w (n : Int) : IntKind.i64.wrap n = wrap64 n := by unfold wrap64; exact IntKind.wrap_i64 n
theorem two_pow (m : Nat) : ((2 : Int) ^ m) = ((2 ^ m : Nat) : Int) := by simp
theorem shl_u (a : BitVec 64) (m : Nat) : IntKind.u64.wrap ((a.toNat : Int) * 2 ^ (min m 64)) = ((a <<< m).toNat : Int) := by
  rw [IntKind.wrap_u64, BitVec.toNat_shiftLeft, Nat.shiftLeft_eq, two_pow]
  by_cases h : m ≤ 64
  · rw [Nat.min_eq_left h]
    generalize 2 ^ m = q
    rw [← Int.natCast_mul]
    generalize a.toNat * q = z
    omega
  · have h' : min m 64 = 64 := by omega
    rw [h']
    have e : a.toNat * 2 ^ m = a.toNat * 2 ^ (m - 64) * 2 ^ 64 := by rw [Nat.mul_assoc, ← Nat.pow_add]; congr 2; omega
    rw [e, Nat.mul_mod_left]
    omega
theorem shr_u (a : BitVec 64) (m : Nat) : (a.toNat : Int).fdiv (2 ^ (min m 64)) = ((a >>> m).toNat : Int) := by
  rw [BitVec.toNat_ushiftRight, Nat.shiftRight_eq_div_pow, two_pow, Int.fdiv_eq_ediv_of_nonneg _ (Int.natCast_nonneg _)]
  by_cases h : m ≤ 64
  · rw [Nat.min_eq_left h]; simp
  · have h' : min m 64 = 64 := by omega
    rw [h']
    have hl := a.isLt
    have e1 : a.toNat / 2 ^ m = 0 := Nat.div_eq_of_lt (Nat.lt_of_lt_of_le hl (Nat.pow_le_pow_right (by omega) (by omega)))
    rw [e1]
    omega
theorem add_u (a b : BitVec 64) : IntKind.u64.wrap ((a.toNat : Int) + b.toNat) = ((a + b).toNat : Int) := by
  rw [IntKind.wrap_u64, BitVec.toNat_add]; omega
theorem sub_u (a b : BitVec 64) : IntKind.u64.wrap ((a.toNat : Int) - b.toNat) = ((a - b).toNat : Int) := by
  rw [IntKind.wrap_u64, BitVec.toNat_sub]
  have := a.isLt; have := b.isLt; omega
theorem mul_u (a b : BitVec 64) : IntKind.u64.wrap ((a.toNat : Int) * b.toNat) = ((a * b).toNat : Int) := by
  rw [IntKind.wrap_u64, BitVec.toNat_mul, ← Int.natCast_mul]
  generalize a.toNat * b.toNat = z; omega
theorem bne_toNat (a b : BitVec 64) : ((a.toNat : Int) != (b.toNat : Int)) = (a != b) := by simp only [bne, beq_toNat]
theorem lt_toNat (a b : BitVec 64) : decide ((a.toNat : Int) < (b.toNat : Int)) = decide (a < b) := by
  rw [decide_eq_decide, BitVec.lt_def]; omega
theorem le_toNat (a b : BitVec 64) : decide ((a.toNat : Int) ≤ (b.toNat : Int)) = decide (a ≤ b) := by
  rw [decide_eq_decide, BitVec.le_def]; omega
theorem fdiv_i (a : Int) (m : Nat) : a.fdiv (2 ^ m) = a / 2 ^ m := by
  rw [two_pow, Int.fdiv_eq_ediv_of_nonneg _ (Int.natCast_nonneg _)]

theorem PlOk.inv_u {Z : Zs} {v : Value} {x : BitVec 64} (h : PlOk Z v (.u x)) : v = .int .u64 x.toNat := by cases h; rfl
theorem PlOk.inv_i {Z : Zs} {v : Value} {x : Int} (h : PlOk Z v (.i x)) : v = .int .i64 x := by cases h; rfl
theorem PlOk.inv_b {Z : Zs} {v : Value} {x : Bool} (h : PlOk Z v (.b x)) : v = .bool x := by cases h; rfl
theorem PlOk.inv_v {Z : Zs} {v : Value} {x : Value} (h : PlOk Z v (.v x)) : v = x := by cases h; rfl

/-- a cell whose value is told outright -/
def Pl.den : Pl → Value
  | .u x => .int .u64 x.toNat
  | .i m => .int .i64 m
  | .b x => .bool x
  | .v x => x
  | _ => .nilFunc
def Pl.flat : Pl → Bool
  | .u _ | .i _ | .b _ | .v _ => true
  | .n _ => true
  | _ => false

theorem abin_sound {O : Th} {Z : Zs} {op : BinOp} {x y r : Pl} {c : Prop} {v u : Value} (hx : PlOk Z v x) (hy : PlOk Z u y) (h : abin O op x y = some (c, r)) (hc : c) (P : Program) (w : World) (xT : TypeId) (ox oy : Operand) :
    ∃ q, ((do eqGuard op xT ox oy v u; Go.binOp op xT v u) : Sem Value).run P w = .ok q w ∧ PlOk Z q r := by
  obtain rfl := O.uniq
  unfold abin at h
  dsimp only [Th.std] at h
  split at h <;> (try (cases h; done)) <;> (simp only [Option.some.injEq, Prod.mk.injEq] at h; obtain ⟨rfl, rfl⟩ := h) <;> cases hx <;> cases hy
  all_goals (first | refine ⟨_, ?_, .i _⟩ | refine ⟨_, ?_, .u _⟩ | refine ⟨_, ?_, .b _⟩)
  all_goals simp only [eqGuard, Bool.not_true, Bool.not_false, Bool.false_eq_true, if_false, if_true, pure_bind, Sem.run_bind, Sem.run_pure, Result.andThen_ok]
  all_goals simp only [Go.binOp, ne_eq, not_true_eq_false, if_false, Op.intArith, Op.intCmp, Op.intDiv, Op.intBits, Op.shift, Sem.run_pure, i64_w, IntKind.bits, ofInt_toNat, beq_toNat, bne_toNat, Int.toNat_natCast, shl_u, shr_u, u64_wrap_toNat, add_u, sub_u, mul_u, lt_toNat, le_toNat, gt_iff_lt, ge_iff_le]
  all_goals first
    | rfl
    | (rw [if_neg (by omega)]; rfl)
    | (rw [if_neg hc]; rfl)
    | (rw [if_neg (by omega), fdiv_i]; rfl)

end Go.Vx

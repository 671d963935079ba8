import Derived.Test.YtijaimiefcohbaaDoorX14
set_option linter.unusedSimpArgs false
set_option linter.unusedVariables false
set_option linter.constructorNameAsVariable false
namespace Go.Vx
open Go Go.RowKit

/-! ### a region that draws its order -/
inductive Cl where | l | n | w
  deriving DecidableEq

/-- p: light, and out of the operands alone -/
inductive Cp where | c (x : Cl) | p
  deriving DecidableEq
def Cp.isW : Cp → Bool | .c .w => true | _ => false
def Cp.isL : Cp → Bool | .c .l => true | .p => true | _ => false
def Cp.isP : Cp → Bool | .p => true | _ => false

structure Rec where
  st : St
  E : Eff
  t : Bool
  cl : Cl
  cp : Cp

/-- the operations that one waits for -/
def direct (o : Oper) : List Nat := (o.after.toList.filter fun e => Region.binds .any e).map (·.on)

def befs : List Oper → List (List Nat) → List (List Nat)
  | [], acc => acc
  | o :: l, acc => befs l (acc ++ [direct o ++ (direct o).flatMap fun j => acc.getD j []])

/-- k comes ahead of i, whatever is drawn -/
inductive Bf (ops : List Oper) : Nat → Nat → Prop
  | one {k i : Nat} {o : Oper} : ops[i]? = some o → k ∈ direct o → Bf ops k i
  | more {k j i : Nat} : Bf ops k j → Bf ops j i → Bf ops k i

theorem befs_spec (ops : List Oper) : ∀ (l : List Oper) (acc : List (List Nat)), (∀ i, i < l.length → l[i]? = ops[acc.length + i]?) → (∀ i k, k ∈ acc.getD i [] → Bf ops k i) → ∀ i k, k ∈ (befs l acc).getD i [] → Bf ops k i
  | [], acc, _, h => h
  | o :: l, acc, hl, h => by
    refine befs_spec ops l _ ?_ ?_
    · intro i hi
      have := hl (i + 1) (by simp; omega)
      simp only [List.getElem?_cons_succ] at this
      rw [this, List.length_append]
      congr 1
      simp; omega
    · intro i k hk
      rw [List.getD_eq_getElem?_getD, List.getElem?_append] at hk
      split at hk
      · exact h i k (by rw [List.getD_eq_getElem?_getD]; exact hk)
      · rename_i hge
        have hi : i = acc.length := by
          rcases Nat.lt_or_ge acc.length i with hlt | hle
          · rw [List.getElem?_eq_none (by simp; omega)] at hk
            simp at hk
          · omega
        subst hi
        have ho : ops[acc.length]? = some o := by
          have := hl 0 (by simp)
          simpa using this.symm
        simp only [Nat.sub_self, List.getElem?_cons_zero, Option.getD_some, List.mem_append, List.mem_flatMap] at hk
        rcases hk with hk | ⟨j, hj, hk⟩
        · exact .one ho hk
        · exact .more (h j k hk) (.one ho hj)

/-- may operations i < j, neither waiting for the other, be carried out either way? -/
def freeB (ops : Array Oper) (oi oj : Oper) (ci cj : Cp) : Bool :=
  (!ci.isW || cj.isP) && (!cj.isW || ci.isP) && (ci.isL || cj.isL) &&
  (match oi.dst with | some d => !(oj.looksAt ops).contains d && oj.dst != some d | none => true) &&
  (match oj.dst with | some d => !(oi.looksAt ops).contains d | none => true)

def pairsOk (ops : Array Oper) (B : List (List Nat)) (cls : List Cp) (i : Nat) (oi : Oper) : Nat → List Oper → Bool
  | _, [] => true
  | j, oj :: l => ((B.getD j []).contains i || freeB ops oi oj (cls.getD i (.c .w)) (cls.getD j (.c .w))) && pairsOk ops B cls i oi (j + 1) l

def allPairs (ops : Array Oper) (B : List (List Nat)) (cls : List Cp) : Nat → List Oper → Bool
  | _, [] => true
  | i, oi :: l => pairsOk ops B cls i oi (i + 1) l && allPairs ops B cls (i + 1) l

def backOk : Nat → List Oper → Bool
  | _, [] => true
  | i, o :: l => (direct o).all (fun k => decide (k < i)) && backOk (i + 1) l

def drawOk (ops : Array Oper) (cls : List Cp) : Bool := backOk 0 ops.toList && allPairs ops (befs ops.toList []) cls 0 ops.toList

theorem pairsOk_spec {ops : Array Oper} {B : List (List Nat)} {cls : List Cp} {i : Nat} {oi : Oper} : ∀ {j : Nat} {l : List Oper}, pairsOk ops B cls i oi j l = true → ∀ m oj, l[m]? = some oj →
    i ∈ B.getD (j + m) [] ∨ freeB ops oi oj (cls.getD i (.c .w)) (cls.getD (j + m) (.c .w)) = true
  | j, [], _, m, oj, h => by simp at h
  | j, o :: l, hp, m, oj, h => by
    simp only [pairsOk, Bool.and_eq_true, Bool.or_eq_true] at hp
    cases m with
    | zero =>
      simp at h; subst h
      rcases hp.1 with h | h
      · exact .inl (by simpa using h)
      · exact .inr h
    | succ m =>
      simp at h
      have := pairsOk_spec hp.2 m oj h
      rw [show j + 1 + m = j + (m + 1) from by omega] at this
      exact this

theorem allPairs_spec {ops : Array Oper} {B : List (List Nat)} {cls : List Cp} : ∀ {i : Nat} {l : List Oper}, allPairs ops B cls i l = true → ∀ a b oa ob, a < b → l[a]? = some oa → l[b]? = some ob →
    i + a ∈ B.getD (i + b) [] ∨ freeB ops oa ob (cls.getD (i + a) (.c .w)) (cls.getD (i + b) (.c .w)) = true
  | i, [], _, a, b, oa, ob, _, h, _ => by simp at h
  | i, o :: l, hp, a, b, oa, ob, hab, ha, hb => by
    simp only [allPairs, Bool.and_eq_true] at hp
    cases b with
    | zero => omega
    | succ b =>
      simp at hb
      cases a with
      | zero =>
        simp at ha; subst ha
        have := pairsOk_spec hp.1 b ob hb
        rw [show i + 1 + b = i + (b + 1) from by omega] at this
        exact this
      | succ a =>
        simp at ha
        have := allPairs_spec hp.2 a b oa ob (by omega) ha hb
        rw [show i + 1 + a = i + (a + 1) from by omega, show i + 1 + b = i + (b + 1) from by omega] at this
        exact this

theorem backOk_spec : ∀ {i : Nat} {l : List Oper}, backOk i l = true → ∀ m o k, l[m]? = some o → k ∈ direct o → k < i + m
  | i, [], _, m, o, k, h, _ => by simp at h
  | i, o :: l, hp, m, o', k, h, hk => by
    simp only [backOk, Bool.and_eq_true, List.all_eq_true] at hp
    cases m with
    | zero => simp at h; subst h; exact of_decide_eq_true (hp.1 k hk)
    | succ m =>
      simp at h
      have := backOk_spec hp.2 m o' k h hk
      omega

/-- what drawOk says -/
structure DrawOk (ops : Array Oper) (cls : List Cp) : Prop where
  back : ∀ i o k, ops[i]? = some o → k ∈ direct o → k < i
  pair : ∀ i j oi oj, i < j → ops[i]? = some oi → ops[j]? = some oj → Bf ops.toList i j ∨ freeB ops oi oj (cls.getD i (.c .w)) (cls.getD j (.c .w)) = true

theorem drawOk_spec {ops : Array Oper} {cls : List Cp} (h : drawOk ops cls = true) : DrawOk ops cls := by
  simp only [drawOk, Bool.and_eq_true] at h
  refine ⟨fun i o k ho hk => ?_, fun i j oi oj hij hi hj => ?_⟩
  · have := backOk_spec h.1 i o k (by rw [Array.getElem?_toList]; exact ho) hk
    omega
  · have := allPairs_spec h.2 i j oi oj hij (by rw [Array.getElem?_toList]; exact hi) (by rw [Array.getElem?_toList]; exact hj)
    rw [Nat.zero_add, Nat.zero_add] at this
    rcases this with h1 | h1
    · exact .inl (befs_spec ops.toList ops.toList [] (fun i _ => by simp) (fun i k hk => by simp at hk) j i h1)
    · exact .inr h1

theorem Bf.lt {ops : Array Oper} {cls : List Cp} (hd : DrawOk ops cls) {k i : Nat} (h : Bf ops.toList k i) : k < i := by
  induction h with
  | one ho hk => exact hd.back _ _ _ (by rw [← Array.getElem?_toList]; exact ho) hk
  | more _ _ h1 h2 => omega

/-- who is listed has those ahead of it listed -/
def Down (ops : Array Oper) (S : Nat → Bool) : Prop := ∀ i o k, S i = true → ops[i]? = some o → k ∈ direct o → S k = true

theorem Down.bf {ops : Array Oper} {S : Nat → Bool} (h : Down ops S) {k i : Nat} (hb : Bf ops.toList k i) : S i = true → S k = true := by
  induction hb with
  | one ho hk => exact fun hi => h _ _ _ hi (by rw [← Array.getElem?_toList]; exact ho) hk
  | more _ _ h1 h2 => exact fun hi => h1 (h2 hi)

/-! the state behind the operations of a set, in the order of the text -/
def stepS (ops : Array Oper) (rec : Nat → Rec) (m : Nat) (s : St) : St :=
  { slots := (s.put ((ops[m]?).bind (·.dst)) (rec m).t (rec m).E.val).slots
    ents := if (rec m).cl = .l then s.ents else (rec (m + 1)).st.ents
    next := if (rec m).cl = .l then s.next else (rec (m + 1)).st.next
    nt := s.nt }

def foldS (ops : Array Oper) (rec : Nat → Rec) (s0 : St) (S : Nat → Bool) : Nat → St
  | 0 => s0
  | m + 1 => if S m then stepS ops rec m (foldS ops rec s0 S m) else foldS ops rec s0 S m

section
variable {ops : Array Oper} {rec : Nat → Rec} {s0 : St} {S S' : Nat → Bool}

theorem put_slots_lookup (s : St) (dst : Option Nat) (g : Bool) (x : Option SV) (t : Nat) :
    (s.put dst g x).slots.lookup t = if dst = some t then x.map (fun y => (g, y)) else s.slots.lookup t := by
  cases dst with
  | none => simp [St.put]
  | some d =>
    cases x with
    | none =>
      simp only [St.put, lookup_delK, Option.map_none, Option.some.injEq]
      by_cases h : t = d
      · subst h; simp
      · simp [h, Ne.symm h]
    | some y =>
      simp only [St.put, lookup_setK, Option.map_some, Option.some.injEq]
      by_cases h : t = d
      · subst h; simp
      · simp [h, Ne.symm h]

theorem put_ents (s : St) (dst : Option Nat) (g : Bool) (x : Option SV) : (s.put dst g x).ents = s.ents ∧ (s.put dst g x).next = s.next ∧ (s.put dst g x).nt = s.nt := by
  cases dst <;> cases x <;> exact ⟨rfl, rfl, rfl⟩

theorem stepS_lookup (m t : Nat) (s : St) : (stepS ops rec m s).slots.lookup t = if (ops[m]?).bind (·.dst) = some t then (rec m).E.val.map (fun y => ((rec m).t, y)) else s.slots.lookup t := by
  simp only [stepS, put_slots_lookup]

theorem foldS_slots (t : Nat) : ∀ m, (∀ k, k < m → (ops[k]?).bind (·.dst) = some t → S k = S' k) → (foldS ops rec s0 S m).slots.lookup t = (foldS ops rec s0 S' m).slots.lookup t
  | 0, _ => rfl
  | m + 1, h => by
    have ih := foldS_slots t m fun k hk => h k (by omega)
    simp only [foldS]
    by_cases hd : (ops[m]?).bind (·.dst) = some t
    · rw [h m (by omega) hd]
      split
      · rw [stepS_lookup, stepS_lookup, if_pos hd, if_pos hd]
      · exact ih
    · split <;> split <;> simp only [stepS_lookup, if_neg hd, ih]

theorem foldS_ents : ∀ m, (∀ k, k < m → (rec k).cl ≠ .l → S k = S' k) → (foldS ops rec s0 S m).ents = (foldS ops rec s0 S' m).ents ∧ (foldS ops rec s0 S m).next = (foldS ops rec s0 S' m).next
  | 0, _ => ⟨rfl, rfl⟩
  | m + 1, h => by
    have ih := foldS_ents m fun k hk => h k (by omega)
    simp only [foldS]
    by_cases hc : (rec m).cl = .l
    · split <;> split <;> simp only [stepS, hc, if_true, ih, and_self]
    · rw [h m (by omega) hc]
      split
      · simp only [stepS, hc, if_false, and_self]
      · exact ih

theorem foldS_nt : ∀ m, (foldS ops rec s0 S m).nt = s0.nt
  | 0 => rfl
  | m + 1 => by
    simp only [foldS]
    split
    · simp only [stepS, foldS_nt m]
    · exact foldS_nt m

end
end Go.Vx

import Derived.Test.YtijaimiefcohbaaDoorX15
set_option linter.unusedSimpArgs false
set_option linter.unusedVariables false
set_option linter.constructorNameAsVariable false
namespace Go.Vx
open Go Go.RowKit

theorem Sat.congr {B : Bs} {w : World} {Z : Zs} {V : Vl} {st st' : St} {a : Act} (hs : Sat B Z V st a w) (h1 : ∀ t, st'.slots.lookup t = st.slots.lookup t) (h2 : ∀ e, st'.ents.lookup e = st.ents.lookup e)
    (h3 : st'.next = st.next) (h4 : st'.nt = st.nt) : Sat B Z V st' a w :=
  ⟨hs.toEnvOk.sub fun e x hx => by rw [h2] at hx; exact hx, hs.defers, hs.size.trans h4.symm, fun t g x hx => hs.slots t g x (h1 t ▸ hx), fun t g x hx => hs.off t g x (h1 t ▸ hx), fun e he => hs.fresh e (h3 ▸ he)⟩

theorem St.ext4 {s s' : St} (h1 : s.slots = s'.slots) (h2 : s.ents = s'.ents) (h3 : s.next = s'.next) (h4 : s.nt = s'.nt) : s = s' := by
  cases s; cases s'; simp only at h1 h2 h3 h4; rw [h1, h2, h3, h4]

theorem addEnts_old : ∀ (xs : List Ent) (st : St), st.next ≤ (addEnts st xs).next ∧ (∀ e, e < st.next → (addEnts st xs).ents.lookup e = st.ents.lookup e) ∧ (addEnts st xs).slots = st.slots
  | [], st => ⟨Nat.le_refl _, fun _ _ => rfl, rfl⟩
  | x :: xs, st => by
    obtain ⟨h1, h2, h3⟩ := addEnts_old xs { st with ents := setK st.next x st.ents, next := st.next + 1 }
    refine ⟨by simp only [addEnts]; simp only at h1; omega, fun e he => ?_, h3⟩
    simp only [addEnts]
    rw [h2 e (by simp only; omega)]
    simp only [lookup_setK]
    rw [if_neg (by omega)]

/-- the run in the order of the text -/
structure RunOk (cx : Cx) (ops : Array Oper) (rec : Nat → Rec) (s0 : St) : Prop where
  start : (rec 0).st = s0
  next : ∀ i o, ops[i]? = some o → (rec (i + 1)).st = (rec i).st.app o.dst (rec i).t (rec i).E
  grd : ∀ i o, ops[i]? = some o → grd ops.toList (rec i).st o = some (rec i).t
  dst : ∀ i o, ops[i]? = some o → dstOk (rec i).st o = true
  light : ∀ i o, ops[i]? = some o → (rec i).cl = .l → (rec i).E.ea = .none ∧ ((rec i).t = true → (rec i).E.c) ∧
    (eff cx (rec i).st.ov (fun _ => none) 0 o = some (rec i).E ∨ ((∀ k, k < i → (rec k).cl ≠ .w) ∧ eff cx (rec i).st.ov (fun e => s0.ents.lookup e) 0 o = some (rec i).E))
  heavy : ∀ i o, ops[i]? = some o → (rec i).cl ≠ .l → (rec i).t = true ∧ o.guard = none ∧ (rec i).E.c ∧ eff cx (rec i).st.ov (fun e => (rec i).st.ents.lookup e) (rec i).st.next o = some (rec i).E
  fresh : ∀ i o, ops[i]? = some o → (rec i).cl = .n → (rec i).E.ea = .none ∨ ∃ xs, (rec i).E.ea = .new xs
  cp : ∀ i o, ops[i]? = some o → (rec i).cp = .c (rec i).cl ∨ ((rec i).cp = .p ∧ (rec i).cl = .l ∧ eff cx (rec i).st.ov (fun _ => none) 0 o = some (rec i).E)

section
variable {P : Program} {cx : Cx} {B : Bs} {ops : Array Oper} {rec : Nat → Rec} {s0 : St} {Q : Exit → Act → World → Prop}

theorem RunOk.notL (hr : RunOk cx ops rec s0) {i : Nat} (hi : i < ops.size) (h : (rec i).cl ≠ .l) : (rec i).cp.isL = false ∧ (rec i).cp.isP = false := by
  rcases hr.cp i _ (Array.getElem?_eq_getElem hi) with h1 | ⟨_, h1, _⟩
  · rw [h1]
    cases hc : (rec i).cl with
    | l => exact absurd hc h
    | n => exact ⟨rfl, rfl⟩
    | w => exact ⟨rfl, rfl⟩
  · exact absurd h1 h
theorem RunOk.isW (hr : RunOk cx ops rec s0) {i : Nat} (hi : i < ops.size) (h : (rec i).cl = .w) : (rec i).cp.isW = true := by
  rcases hr.cp i _ (Array.getElem?_eq_getElem hi) with h1 | ⟨_, h1, _⟩
  · rw [h1, h]; rfl
  · rw [h] at h1; cases h1

/-- without a write among the first m: what was told at the start is told still -/
theorem RunOk.keeps (hr : RunOk cx ops rec s0) : ∀ m, m ≤ ops.size → (∀ k, k < m → (rec k).cl ≠ .w) → s0.next ≤ (rec m).st.next ∧ ∀ e, e < s0.next → (rec m).st.ents.lookup e = s0.ents.lookup e
  | 0, _, _ => by rw [hr.start]; exact ⟨Nat.le_refl _, fun _ _ => rfl⟩
  | m + 1, hm, hw => by
    obtain ⟨h1, h2⟩ := hr.keeps m (by omega) fun k hk => hw k (by omega)
    have ho : ops[m]? = some ops[m] := Array.getElem?_eq_getElem (by omega)
    rw [hr.next m _ ho]
    unfold St.app
    obtain ⟨p1, p2, _⟩ := put_ents ((rec m).st.ea (rec m).E.ea) (ops[m]).dst (rec m).t (rec m).E.val
    rw [p1, p2]
    cases hc : (rec m).cl with
    | l =>
      rw [(hr.light m _ ho hc).1]
      exact ⟨h1, h2⟩
    | n =>
      rcases hr.fresh m _ ho hc with hx | ⟨xs, hx⟩
      · rw [hx]; exact ⟨h1, h2⟩
      rw [hx]
      obtain ⟨q1, q2, _⟩ := addEnts_old xs (rec m).st
      exact ⟨by simp only [St.ea]; omega, fun e he => by simp only [St.ea]; rw [q2 e (by omega), h2 e he]⟩
    | w => exact absurd hc (hw m (by omega))

/-- the state behind the first m operations -/
theorem RunOk.fold_true (hr : RunOk cx ops rec s0) : ∀ m, m ≤ ops.size → foldS ops rec s0 (fun _ => true) m = (rec m).st
  | 0, _ => hr.start.symm
  | m + 1, hm => by
    have ih := hr.fold_true m (by omega)
    have ho : ops[m]? = some ops[m] := Array.getElem?_eq_getElem (by omega)
    have hn := hr.next m _ ho
    simp only [foldS, if_true, ih, stepS, ho, Option.bind_some]
    rw [hn]
    simp only [St.app]
    obtain ⟨p1, p2, p3⟩ := put_ents ((rec m).st.ea (rec m).E.ea) (ops[m]).dst (rec m).t (rec m).E.val
    obtain ⟨q1, q2, q3⟩ := put_ents (rec m).st (ops[m]).dst (rec m).t (rec m).E.val
    have hslots : ((rec m).st.put (ops[m]).dst (rec m).t (rec m).E.val).slots = (((rec m).st.ea (rec m).E.ea).put (ops[m]).dst (rec m).t (rec m).E.val).slots := by
      have he : ((rec m).st.ea (rec m).E.ea).slots = (rec m).st.slots := by
        cases (rec m).E.ea with
        | none => rfl
        | new xs => exact (addEnts_old xs _).2.2
        | upd del put xs => exact (addEnts_old xs _).2.2
      cases (ops[m]).dst with
      | none => simp only [St.put]; exact he.symm
      | some d => cases (rec m).E.val <;> simp only [St.put, he]
    refine St.ext4 hslots ?_ ?_ ?_
    · show (if (rec m).cl = .l then _ else _) = _
      rw [p1]
      cases hc : (rec m).cl with
      | l => rw [(hr.light m _ ho hc).1]; rfl
      | n => rfl
      | w => rfl
    · show (if (rec m).cl = .l then _ else _) = _
      rw [p2]
      cases hc : (rec m).cl with
      | l => rw [(hr.light m _ ho hc).1]; rfl
      | n => rfl
      | w => rfl
    · rw [p3, St.ea_nt]

theorem RunOk.fold_lt (hr : RunOk cx ops rec s0) (i : Nat) (hi : i ≤ ops.size) : ∀ m, i ≤ m → foldS ops rec s0 (fun k => decide (k < i)) m = (rec i).st
  | m, him => by
    induction m with
    | zero => obtain rfl : i = 0 := by omega
              exact hr.start.symm
    | succ m ih =>
      rcases Nat.lt_or_ge m i with h | h
      · obtain rfl : i = m + 1 := by omega
        have key : ∀ m', m' ≤ m + 1 → foldS ops rec s0 (fun k => decide (k < m + 1)) m' = foldS ops rec s0 (fun _ => true) m' := by
          intro m' hm'
          induction m' with
          | zero => rfl
          | succ m' ih' =>
            simp only [foldS]
            rw [ih' (by omega)]
            rw [if_pos (decide_eq_true (by omega : m' < m + 1)), if_pos trivial]
        rw [key _ (Nat.le_refl _)]
        exact hr.fold_true _ hi
      · simp only [foldS]
        rw [if_neg (by simp; omega)]
        exact ih h

theorem free_spec {oi oj : Oper} {ci cj : Cp} (h : freeB ops oi oj ci cj = true) : (ci.isW = true → cj.isP = true) ∧ (cj.isW = true → ci.isP = true) ∧ (ci.isL = true ∨ cj.isL = true) ∧ (∀ d, oi.dst = some d → d ∉ oj.looksAt ops ∧ oj.dst ≠ some d) ∧ (∀ d, oj.dst = some d → d ∉ oi.looksAt ops) := by
  simp only [freeB, Bool.and_eq_true, Bool.or_eq_true] at h
  obtain ⟨⟨⟨⟨h1, h2⟩, h3⟩, h4⟩, h5⟩ := h
  refine ⟨fun q => ?_, fun q => ?_, h3, fun d hd => ?_, fun d hd => ?_⟩
  · rcases h1 with h1 | h1
    · rw [q] at h1; cases h1
    · exact h1
  · rcases h2 with h2 | h2
    · rw [q] at h2; cases h2
    · exact h2
  · rw [hd] at h4
    simp only [Bool.and_eq_true, Bool.not_eq_true', bne_iff_ne] at h4
    exact ⟨(fun hm => by have := List.contains_iff_mem.2 hm; rw [this] at h4; cases h4.1), h4.2⟩
  · rw [hd] at h5
    simp only [Bool.not_eq_true'] at h5
    exact fun hm => by have := List.contains_iff_mem.2 hm; rw [this] at h5; cases h5

/-- of two operations, one at hand and one that is not listed: who may stand in each other's way are told apart by the set -/
theorem told {S : Nat → Bool} {cls : List Cp} (hd : DrawOk ops cls) (hS : Down ops S) {i k : Nat} {oi ok : Oper} (hi : ops[i]? = some oi) (hk : ops[k]? = some ok) (hSi : S i = false)
    (hB : ∀ j, Bf ops.toList j i → S j = true) (hne : ∀ _ : freeB ops (if i < k then oi else ok) (if i < k then ok else oi) (if i < k then cls.getD i (.c .w) else cls.getD k (.c .w)) (if i < k then cls.getD k (.c .w) else cls.getD i (.c .w)) = true, False) :
    S k = decide (k < i) := by
  rcases Nat.lt_trichotomy k i with h | h | h
  · rw [decide_eq_true h]
    rcases hd.pair k i ok oi h hk hi with h1 | h1
    · exact hB k h1
    · rw [if_neg (by omega), if_neg (by omega), if_neg (by omega), if_neg (by omega)] at hne
      exact (hne h1).elim
  · subst h
    rw [hSi]
    exact (decide_eq_false (by omega)).symm
  · rw [decide_eq_false (by omega)]
    rcases hd.pair i k oi ok h hi hk with h1 | h1
    · cases hSk : S k with
      | false => rfl
      | true => have := hS.bf h1 hSk; rw [hSi] at this; cases this
    · rw [if_pos h, if_pos h, if_pos h, if_pos h] at hne
      exact (hne h1).elim

theorem told_dst {S : Nat → Bool} {cls : List Cp} (hd : DrawOk ops cls) (hS : Down ops S) {i k t : Nat} {oi ok : Oper} (hi : ops[i]? = some oi) (hk : ops[k]? = some ok) (hSi : S i = false)
    (hB : ∀ j, Bf ops.toList j i → S j = true) (hkt : ok.dst = some t) (ht : t ∈ oi.looksAt ops ∨ oi.dst = some t) : S k = decide (k < i) := by
  refine told hd hS hi hk hSi hB fun h => ?_
  by_cases hik : i < k
  · simp only [hik, if_true] at h
    obtain ⟨_, _, _, h4, h5⟩ := free_spec h
    rcases ht with ht | ht
    · exact h5 t hkt ht
    · exact (h4 t ht).2 hkt
  · simp only [hik, if_false] at h
    obtain ⟨_, _, _, h4, h5⟩ := free_spec h
    rcases ht with ht | ht
    · exact (h4 t hkt).1 ht
    · exact (h4 t hkt).2 ht

theorem told_heavy {S : Nat → Bool} {cls : List Cp} (hd : DrawOk ops cls) (hS : Down ops S) {i k : Nat} {oi ok : Oper} (hi : ops[i]? = some oi) (hk : ops[k]? = some ok) (hSi : S i = false)
    (hB : ∀ j, Bf ops.toList j i → S j = true) (h1 : (cls.getD i (.c .w)).isL = false) (h2 : (cls.getD k (.c .w)).isL = false) : S k = decide (k < i) := by
  refine told hd hS hi hk hSi hB fun h => ?_
  by_cases hik : i < k
  · simp only [hik, if_true] at h
    rcases (free_spec h).2.2.1 with h | h
    · rw [h1] at h; cases h
    · rw [h2] at h; cases h
  · simp only [hik, if_false] at h
    rcases (free_spec h).2.2.1 with h | h
    · rw [h2] at h; cases h
    · rw [h1] at h; cases h

theorem told_write {S : Nat → Bool} {cls : List Cp} (hd : DrawOk ops cls) (hS : Down ops S) {i k : Nat} {oi ok : Oper} (hi : ops[i]? = some oi) (hk : ops[k]? = some ok) (hSi : S i = false)
    (hB : ∀ j, Bf ops.toList j i → S j = true) (h2 : (cls.getD k (.c .w)).isW = true) (h3 : (cls.getD i (.c .w)).isP = false) : S k = decide (k < i) := by
  refine told hd hS hi hk hSi hB fun h => ?_
  by_cases hik : i < k
  · simp only [hik, if_true] at h
    have := (free_spec h).2.1 h2
    rw [h3] at this; cases this
  · simp only [hik, if_false] at h
    have := (free_spec h).1 h2
    rw [h3] at this; cases this

theorem ov_congr {st st' : St} {x : Operand} (h : ∀ t, x = .tmp t → st.slots.lookup t = st'.slots.lookup t) : st.ov x = st'.ov x := by
  cases x with
  | tmp t => exact h t rfl
  | _ => rfl

theorem looks_operand {o : Oper} {t : Tmp} (h : Operand.tmp t ∈ o.op.operands) : t ∈ o.looksAt ops := by
  unfold Oper.looksAt
  refine List.mem_append_left _ (List.mem_filterMap.2 ⟨.tmp t, by simpa using h, rfl⟩)

theorem grd_congr {st st' : St} {o : Oper} (h : ∀ t, t ∈ o.looksAt ops → st.slots.lookup t = st'.slots.lookup t) : Vx.grd ops.toList st o = Vx.grd ops.toList st' o := by
  unfold Vx.grd
  split
  · rfl
  · rename_i j want hg
    unfold gslot
    split
    · rename_i oj hoj
      split
      · rename_i d hdd
        rw [h d (by
          unfold Oper.looksAt
          refine List.mem_append_right _ ?_
          rw [hg]
          have : ops[j]? = some oj := by rw [← Array.getElem?_toList]; exact hoj
          simp [this, hdd])]
      · rfl
    · rfl

/-- one operation, ready at a set -/
theorem draw_step (hcx : CxG P cx B) (hr : RunOk cx ops rec s0) {cls : List Cp} (hcl : ∀ i, i < ops.size → cls.getD i (.c .w) = (rec i).cp) (hd : DrawOk ops cls)
    (hkeys : ∀ e x, s0.ents.lookup e = some x → e < s0.next) {S : Nat → Bool} (hS : Down ops S) {i : Nat} {o : Oper} (ho : ops[i]? = some o) (hSi : S i = false) (hB : ∀ j, Bf ops.toList j i → S j = true)
    {Z : Zs} {V : Vl} {a : Act} {w : World} (hs : Sat B Z V (foldS ops rec s0 S ops.size) a w) {K : Act → World → Prop}
    (hK : ∀ Z' V' a' w', Z.le Z' → V.le V' → Sat B Z' V' (foldS ops rec s0 (fun k => S k || decide (k = i)) ops.size) a' w' → K a' w') : wpOp P ops Q i K a w := by
  have hi : i < ops.size := (Array.getElem?_eq_some_iff.1 ho).1
  have hci := hcl i hi
  have hdst : ∀ (k t : Nat), (ops[k]?).bind (fun q : Oper => q.dst) = some t → ∃ ok : Oper, ops[k]? = some ok ∧ ok.dst = some t := fun k t h => by
    obtain ⟨ok, h1, h2⟩ := Option.bind_eq_some_iff.1 h
    exact ⟨ok, h1, h2⟩
  have hlook : ∀ t, t ∈ o.looksAt ops → (foldS ops rec s0 S ops.size).slots.lookup t = (rec i).st.slots.lookup t := by
    intro t ht
    rw [← hr.fold_lt i (by omega) ops.size (by omega)]
    refine foldS_slots t _ fun k hk hkt => ?_
    obtain ⟨ok, h1, h2⟩ := hdst k t hkt
    exact told_dst hd hS ho h1 hSi hB h2 (.inl ht)
  have hov : ∀ x ∈ o.op.operands, (rec i).st.ov x = (foldS ops rec s0 S ops.size).ov x := fun x hx => ov_congr fun t ht => (hlook t (looks_operand (by rw [← ht]; exact hx))).symm
  have hg : Vx.grd ops.toList (foldS ops rec s0 S ops.size) o = some (rec i).t := by
    rw [grd_congr hlook]; exact hr.grd i o ho
  have hdd : ∀ d, o.dst = some d → d < (foldS ops rec s0 S ops.size).nt := by
    have h1 := dstOk_spec (hr.dst i o ho)
    rw [foldS_nt]
    have h2 : (rec i).st.nt = s0.nt := by rw [← hr.fold_lt i (by omega) ops.size (by omega), foldS_nt]
    rw [← h2]; exact h1
  have hw := grd_sound (all := ops) hs hg
  -- the state behind it
  have hend : ∀ Z' V' a' w', Sat B Z' V' ((foldS ops rec s0 S ops.size).app o.dst (rec i).t (rec i).E) a' w' → Sat B Z' V' (foldS ops rec s0 (fun k => S k || decide (k = i)) ops.size) a' w' := by
    intro Z' V' a' w' h
    refine h.congr (fun t => ?_) (fun e => ?_) ?_ ?_
    · -- slots
      have hsl : ((foldS ops rec s0 S ops.size).ea (rec i).E.ea).slots = (foldS ops rec s0 S ops.size).slots := by
        cases (rec i).E.ea with
        | none => rfl
        | new xs => exact (addEnts_old xs _).2.2
        | upd del put xs => exact (addEnts_old xs _).2.2
      unfold St.app
      rw [put_slots_lookup, hsl]
      by_cases hdt : o.dst = some t
      · rw [if_pos hdt]
        have key : ∀ m, i < m → m ≤ ops.size → (foldS ops rec s0 (fun k => S k || decide (k = i)) m).slots.lookup t = (rec i).E.val.map (fun y => ((rec i).t, y)) := by
          intro m him hm
          induction m with
          | zero => omega
          | succ m ih =>
            simp only [foldS]
            by_cases hmi : m = i
            · subst hmi
              rw [if_pos (by simp), stepS_lookup, if_pos (by simp [ho, hdt])]
            · have ih' := ih (by omega) (by omega)
              by_cases hmt : (ops[m]?).bind (·.dst) = some t
              · obtain ⟨ok, h1, h2⟩ := hdst m t hmt
                have := told_dst hd hS ho h1 hSi hB h2 (.inr hdt)
                rw [decide_eq_false (by omega)] at this
                rw [if_neg (by simp [this, hmi])]
                exact ih'
              · split
                · rw [stepS_lookup, if_neg hmt]; exact ih'
                · exact ih'
        exact key ops.size hi (Nat.le_refl _)
      · rw [if_neg hdt]
        refine foldS_slots t _ fun k hk hkt => ?_
        by_cases hki : k = i
        · subst hki
          rw [ho] at hkt
          exact absurd hkt hdt
        · simp [hki]
    · -- entities
      unfold St.app
      rw [(put_ents _ _ _ _).1]
      by_cases hc : (rec i).cl = .l
      · rw [(hr.light i o ho hc).1]
        rw [(foldS_ents (S := fun k => S k || decide (k = i)) (S' := S) ops.size fun k hk hkc => by
          by_cases hki : k = i
          · subst hki; exact absurd hc hkc
          · simp [hki]).1]
        rfl
      · have h1 := foldS_ents (ops := ops) (rec := rec) (s0 := s0) (S := S) (S' := fun k => decide (k < i)) ops.size fun k hk hkc => told_heavy hd hS ho (Array.getElem?_eq_getElem hk) hSi hB (by rw [hci]; exact (hr.notL hi hc).1) (by rw [hcl k hk]; exact (hr.notL hk hkc).1)
        have h2 := foldS_ents (ops := ops) (rec := rec) (s0 := s0) (S := fun k => S k || decide (k = i)) (S' := fun k => decide (k < i + 1)) ops.size fun k hk hkc => by
          have := told_heavy hd hS ho (Array.getElem?_eq_getElem hk) hSi hB (by rw [hci]; exact (hr.notL hi hc).1) (by rw [hcl k hk]; exact (hr.notL hk hkc).1)
          rw [this]
          by_cases hki : k = i
          · subst hki; simp
          · rcases Nat.lt_or_ge k i with h | h
            · simp [h, Nat.lt_succ_of_lt h]
            · have : ¬ k < i := by omega
              have h' : ¬ k < i + 1 := by omega
              simp [this, h', hki]
        rw [hr.fold_lt i (by omega) ops.size (by omega)] at h1
        rw [hr.fold_lt (i + 1) (by omega) ops.size (by omega)] at h2
        rw [h2.1, hr.next i o ho]
        unfold St.app
        rw [(put_ents _ _ _ _).1]
        have hea : ∀ (s s' : St) (E : Ea), s.ents = s'.ents → s.next = s'.next → (s.ea E).ents = (s'.ea E).ents := by
          intro s s' E e1 e2
          have hadd : ∀ (xs : List Ent) (s s' : St), s.ents = s'.ents → s.next = s'.next → (addEnts s xs).ents = (addEnts s' xs).ents := by
            intro xs
            induction xs with
            | nil => intro s s' e1 _; exact e1
            | cons x xs ih => intro s s' e1 e2; exact ih _ _ (by simp only [e1, e2]) (by simp only [e2])
          cases E with
          | none => exact e1
          | new xs => exact hadd xs s s' e1 e2
          | upd del put xs => exact hadd xs _ _ (by simp only [e1]) e2
        rw [hea _ _ _ h1.1.symm h1.2.symm]
    · -- the next number
      unfold St.app
      rw [(put_ents _ _ _ _).2.1]
      by_cases hc : (rec i).cl = .l
      · rw [(hr.light i o ho hc).1]
        rw [(foldS_ents (S := fun k => S k || decide (k = i)) (S' := S) ops.size fun k hk hkc => by
          by_cases hki : k = i
          · subst hki; exact absurd hc hkc
          · simp [hki]).2]
        rfl
      · have h1 := foldS_ents (ops := ops) (rec := rec) (s0 := s0) (S := S) (S' := fun k => decide (k < i)) ops.size fun k hk hkc => told_heavy hd hS ho (Array.getElem?_eq_getElem hk) hSi hB (by rw [hci]; exact (hr.notL hi hc).1) (by rw [hcl k hk]; exact (hr.notL hk hkc).1)
        have h2 := foldS_ents (ops := ops) (rec := rec) (s0 := s0) (S := fun k => S k || decide (k = i)) (S' := fun k => decide (k < i + 1)) ops.size fun k hk hkc => by
          have := told_heavy hd hS ho (Array.getElem?_eq_getElem hk) hSi hB (by rw [hci]; exact (hr.notL hi hc).1) (by rw [hcl k hk]; exact (hr.notL hk hkc).1)
          rw [this]
          by_cases hki : k = i
          · subst hki; simp
          · rcases Nat.lt_or_ge k i with h | h
            · simp [h, Nat.lt_succ_of_lt h]
            · have : ¬ k < i := by omega
              have h' : ¬ k < i + 1 := by omega
              simp [this, h', hki]
        rw [hr.fold_lt i (by omega) ops.size (by omega)] at h1
        rw [hr.fold_lt (i + 1) (by omega) ops.size (by omega)] at h2
        rw [h2.2, hr.next i o ho]
        unfold St.app
        rw [(put_ents _ _ _ _).2.1]
        have hea : ∀ (s s' : St) (E : Ea), s.next = s'.next → (s.ea E).next = (s'.ea E).next := by
          intro s s' E e2
          have hadd : ∀ (xs : List Ent) (s s' : St), s.next = s'.next → (addEnts s xs).next = (addEnts s' xs).next := by
            intro xs
            induction xs with
            | nil => intro s s' e1; exact e1
            | cons x xs ih => intro s s' e2; exact ih _ _ (by simp only [e2])
          cases E with
          | none => exact e2
          | new xs => exact hadd xs s s' e2
          | upd del put xs => exact hadd xs _ _ e2
        rw [hea _ _ _ h1.2.symm]
    · unfold St.app
      rw [(put_ents _ _ _ _).2.2, St.ea_nt, foldS_nt, foldS_nt]
  -- the effect at this set
  have heff : (rec i).t = true → (rec i).E.c ∧ eff cx (foldS ops rec s0 S ops.size).ov (fun e => (foldS ops rec s0 S ops.size).ents.lookup e) (foldS ops rec s0 S ops.size).next o = some (rec i).E := by
    intro ht
    by_cases hc : (rec i).cl = .l
    · obtain ⟨h1, h2, h3⟩ := hr.light i o ho hc
      refine ⟨h2 ht, ?_⟩
      rw [← eff_congr hov]
      rcases (show eff cx (rec i).st.ov (fun _ => none) 0 o = some (rec i).E ∨ ((rec i).cp.isP = false ∧ (∀ k, k < i → (rec k).cl ≠ .w) ∧ eff cx (rec i).st.ov (fun e => s0.ents.lookup e) 0 o = some (rec i).E) from by
        rcases hr.cp i o ho with q | ⟨_, _, q⟩
        · rcases h3 with h3 | h3
          · exact .inl h3
          · exact .inr ⟨by rw [q, hc]; rfl, h3⟩
        · exact .inl q) with h3 | ⟨hnp, hnw, h3⟩
      · exact eff_mono (fun e x h => by cases h) h3 h1
      · refine eff_mono (fun e x h => ?_) h3 h1
        -- no write is in S; what S has brought is new
        have hSw : ∀ k, k < ops.size → (rec k).cl = .w → S k = false := by
          intro k hk hkw
          have := told_write hd hS ho (Array.getElem?_eq_getElem hk) hSi hB (by rw [hcl k hk]; exact hr.isW hk hkw) (by rw [hci]; exact hnp)
          rw [this]
          refine decide_eq_false fun hki => hnw k hki hkw
        have key : ∀ m, m ≤ ops.size → (foldS ops rec s0 S m).ents.lookup e = some x := by
          intro m
          induction m with
          | zero => intro _; exact h
          | succ m ih =>
            intro hm
            have ih' := ih (by omega)
            simp only [foldS]
            split
            · rename_i hSm
              simp only [stepS]
              split
              · exact ih'
              · rename_i hcm
                -- m is heavy, in S: no write ahead of it
                have hnwm : ∀ k, k < m + 1 → (rec k).cl ≠ .w := by
                  intro k hk hkw
                  have hSk := hSw k (by omega) hkw
                  rcases Nat.lt_or_ge k m with hkm | hkm
                  · rcases hd.pair k m _ _ hkm (Array.getElem?_eq_getElem (by omega)) (Array.getElem?_eq_getElem (by omega)) with h1 | h1
                    · have := hS.bf h1 hSm; rw [hSk] at this; cases this
                    · have := (free_spec h1).1 (by rw [hcl k (by omega)]; exact hr.isW (by omega) hkw)
                      rw [hcl m (by omega), (hr.notL (by omega) hcm).2] at this; cases this
                  · obtain rfl : k = m := by omega
                    rw [hSk] at hSm; cases hSm
                rw [(hr.keeps (m + 1) hm hnwm).2 e (hkeys e x h)]
                exact h
            · exact ih'
        exact key ops.size (Nat.le_refl _)
    · obtain ⟨_, _, h1, h2⟩ := hr.heavy i o ho hc
      refine ⟨h1, ?_⟩
      have h3 := foldS_ents (ops := ops) (rec := rec) (s0 := s0) (S := S) (S' := fun k => decide (k < i)) ops.size fun k hk hkc => told_heavy hd hS ho (Array.getElem?_eq_getElem hk) hSi hB (by rw [hci]; exact (hr.notL hi hc).1) (by rw [hcl k hk]; exact (hr.notL hk hkc).1)
      rw [hr.fold_lt i (by omega) ops.size (by omega)] at h3
      rw [← eff_congr hov, h3.1, h3.2]
      exact h2
  unfold wpOp
  rw [ho]
  simp only [hw]
  cases ht : (rec i).t with
  | true =>
    simp only [if_true]
    obtain ⟨h1, h2⟩ := heff ht
    refine .inl (eff_sound hcx hs hdd h2 h1 _ _ true rfl fun Z' V' v w' hz hle hs' => hK Z' V' _ _ hz hle (hend Z' V' _ _ (by rw [ht]; exact hs')))
  | false =>
    simp only [Bool.false_eq_true, if_false]
    have hc : (rec i).cl = .l := by
      cases hcc : (rec i).cl with
      | l => rfl
      | n => have := (hr.heavy i o ho (by rw [hcc]; simp)).1; rw [ht] at this; cases this
      | w => have := (hr.heavy i o ho (by rw [hcc]; simp)).1; rw [ht] at this; cases this
    refine hK Z V _ _ (Zs.le_refl Z) (Vl.le_refl V) (hend Z V _ _ ?_)
    rw [ht]
    unfold St.app
    rw [(hr.light i o ho hc).1]
    exact hs.put o.dst false (rec i).E.val undef hdd (fun s _ h => by cases h) (fun s _ _ => rfl)

end
end Go.Vx

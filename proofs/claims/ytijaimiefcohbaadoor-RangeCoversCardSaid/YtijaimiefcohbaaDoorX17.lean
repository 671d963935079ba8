import Derived.Test.YtijaimiefcohbaaDoorX16
set_option linter.unusedSimpArgs false
set_option linter.unusedVariables false
set_option linter.constructorNameAsVariable false
namespace Go.Vx
open Go Go.RowKit

section
variable {P : Program} {cx : Cx} {B : Bs} {ops : Array Oper} {rec : Nat → Rec} {s0 : St} {Q : Exit → Act → World → Prop}

/-- how many are not listed yet -/
def cnt (n : Nat) (listed : Array Bool) : Nat := ((List.range n).filter fun k => !listed.getD k true).length

theorem filter_lt {α : Type} {p q : α → Bool} : ∀ {l : List α} {x : α}, (∀ y, q y = true → p y = true) → x ∈ l → p x = true → q x = false → (l.filter q).length < (l.filter p).length
  | y :: l, x, h, hx, hp, hq => by
    have hle : ∀ (l : List α), (l.filter q).length ≤ (l.filter p).length := fun l => by
      induction l with
      | nil => simp
      | cons z l ih =>
        simp only [List.filter_cons]
        by_cases hz : q z = true
        · simp [hz, h z hz]; exact ih
        · simp only [hz, Bool.false_eq_true, if_false]
          split
          · simp; omega
          · exact ih
    simp only [List.filter_cons]
    rcases List.mem_cons.1 hx with rfl | hx
    · simp only [hq, Bool.false_eq_true, if_false, hp, if_true, List.length_cons]
      have := hle l
      omega
    · have ih := filter_lt h hx hp hq
      by_cases hz : q y = true
      · simp [hz, h y hz]; exact ih
      · simp only [hz, Bool.false_eq_true, if_false]
        split
        · simp; omega
        · exact ih

theorem ready_spec {listed : Array Bool} {i : Nat} : i ∈ Region.ready .any ops listed ↔ i < ops.size ∧ listed.getD i true = false ∧ ∃ o, ops[i]? = some o ∧ ∀ k ∈ direct o, listed.getD k false = true := by
  unfold Region.ready
  simp only [List.mem_filter, List.mem_range, Bool.and_eq_true, Bool.not_eq_true']
  constructor
  · rintro ⟨h1, h2, h3⟩
    refine ⟨h1, h2, ops[i], Array.getElem?_eq_getElem h1, fun k hk => ?_⟩
    rw [Array.getElem?_eq_getElem h1] at h3
    simp only [Option.map_some, Option.getD_some, Array.all_eq_true_iff_forall_mem, Bool.or_eq_true, Bool.not_eq_true'] at h3
    simp only [direct, List.mem_map, List.mem_filter] at hk
    obtain ⟨e, ⟨he, hb⟩, rfl⟩ := hk
    rcases h3 e (by simpa using he) with h | h
    · rw [hb] at h; cases h
    · exact h
  · rintro ⟨h1, h2, o, ho, h3⟩
    refine ⟨h1, h2, ?_⟩
    rw [ho]
    simp only [Option.map_some, Option.getD_some, Array.all_eq_true_iff_forall_mem, Bool.or_eq_true, Bool.not_eq_true']
    intro e he
    cases hb : Region.binds .any e with
    | false => exact .inl rfl
    | true => exact .inr (h3 e.on (by simp only [direct, List.mem_map, List.mem_filter]; exact ⟨e, ⟨by simpa using he, hb⟩, rfl⟩))

theorem draw_all (hcx : CxG P cx B) (hr : RunOk cx ops rec s0) {cls : List Cp} (hcl : ∀ i, i < ops.size → cls.getD i (.c .w) = (rec i).cp) (hd : DrawOk ops cls)
    (hkeys : ∀ e x, s0.ents.lookup e = some x → e < s0.next) {Z0 : Zs} {V0 : Vl} (hQ : ∀ Z' V' a' w', Z0.le Z' → V0.le V' → Sat B Z' V' (rec ops.size).st a' w' → Q .normal a' w') :
    ∀ (fuel : Nat) (listed : Array Bool) (Z : Zs) (V : Vl) (a : Act) (w : World), listed.size = ops.size → Down ops (fun k => listed.getD k false) → cnt ops.size listed ≤ fuel → Z0.le Z → V0.le V →
      Sat B Z V (foldS ops rec s0 (fun k => listed.getD k false) ops.size) a w → wpAny P .any ops Q fuel listed a w := by
  have same : ∀ {listed : Array Bool}, listed.size = ops.size → ∀ k, k < ops.size → listed.getD k true = listed.getD k false := fun hsz k hk => by
    simp only [Array.getD_eq_getD_getElem?]
    rw [Array.getElem?_eq_getElem (by omega)]
    rfl
  have full : ∀ {listed : Array Bool} {Z : Zs} {V : Vl} {a : Act} {w : World}, listed.size = ops.size → (∀ k, k < ops.size → listed.getD k true = true) → Z0.le Z → V0.le V → Sat B Z V (foldS ops rec s0 (fun k => listed.getD k false) ops.size) a w → Q .normal a w := by
    intro listed Z V a w hsz hall hlz hle hs
    refine hQ Z V a w hlz hle ?_
    have : foldS ops rec s0 (fun k => listed.getD k false) ops.size = foldS ops rec s0 (fun _ => true) ops.size := by
      have key : ∀ m, m ≤ ops.size → foldS ops rec s0 (fun k => listed.getD k false) m = foldS ops rec s0 (fun _ => true) m := by
        intro m
        induction m with
        | zero => intro _; rfl
        | succ m ih =>
          intro hm
          simp only [foldS]
          rw [ih (by omega), if_pos (by rw [← same hsz m (by omega)]; exact hall m (by omega)), if_pos trivial]
      exact key _ (Nat.le_refl _)
    rw [this, hr.fold_true _ (Nat.le_refl _)] at hs
    exact hs
  have minimal : ∀ {listed : Array Bool}, listed.size = ops.size → Region.ready .any ops listed = [] → ∀ k, k < ops.size → listed.getD k true = true := by
    intro listed hsz hrd k
    induction k using Nat.strongRecOn with
    | _ k ih =>
      intro hk
      cases hl : listed.getD k true with
      | true => rfl
      | false =>
        have : k ∈ Region.ready .any ops listed := ready_spec.2 ⟨hk, hl, ops[k], Array.getElem?_eq_getElem hk, fun j hj => by
          have hjk := hd.back k _ j (Array.getElem?_eq_getElem hk) hj
          rw [← same hsz j (by omega)]
          exact ih j hjk (by omega)⟩
        rw [hrd] at this
        cases this
  intro fuel
  induction fuel with
  | zero =>
    intro listed Z V a w hsz hdn hc hlz hle hs
    have hall : ∀ k, k < ops.size → listed.getD k true = true := by
      intro k hk
      cases hl : listed.getD k true with
      | true => rfl
      | false =>
        have : k ∈ (List.range ops.size).filter fun k => !listed.getD k true := List.mem_filter.2 ⟨List.mem_range.2 hk, by simp [hl]⟩
        have h0 : (List.range ops.size).filter (fun k => !listed.getD k true) = [] := List.eq_nil_of_length_eq_zero (by unfold cnt at hc; omega)
        rw [h0] at this; cases this
    refine ⟨?_, full hsz hall hlz hle hs⟩
    cases hrd : Region.ready .any ops listed with
    | nil => rfl
    | cons x xs =>
      have hx : x ∈ Region.ready .any ops listed := by rw [hrd]; exact List.mem_cons_self
      obtain ⟨h1, h2, _⟩ := ready_spec.1 hx
      rw [hall x h1] at h2; cases h2
  | succ fuel ih =>
    intro listed Z V a w hsz hdn hc hlz hle hs
    refine ⟨fun hrd => full hsz (minimal hsz hrd) hlz hle hs, fun i hi => ?_⟩
    obtain ⟨h1, h2, o, ho, h3⟩ := ready_spec.1 hi
    have hSi : listed.getD i false = false := by rw [← same hsz i h1]; exact h2
    have hB : ∀ j, Bf ops.toList j i → listed.getD j false = true := by
      intro j hj
      cases hj with
      | one ho' hk =>
        rw [Array.getElem?_toList, ho] at ho'
        obtain rfl := Option.some.inj ho'
        exact h3 j hk
      | more hb1 hb2 =>
        have aux : ∀ {j k : Nat}, Bf ops.toList j k → k = i → listed.getD j false = true := by
          intro j k hb
          induction hb with
          | one ho' hk =>
            intro e; subst e
            rw [Array.getElem?_toList, ho] at ho'
            obtain rfl := Option.some.inj ho'
            exact h3 _ hk
          | more q1 q2 _ r2 =>
            intro e
            exact hdn.bf q1 (r2 e)
        exact aux (.more hb1 hb2) rfl
    have hset : ∀ k, (listed.setIfInBounds i true).getD k false = (listed.getD k false || decide (k = i)) := by
      intro k
      simp only [Array.getD_eq_getD_getElem?]
      by_cases hki : k = i
      · subst hki
        rw [Array.getElem?_setIfInBounds_self_of_lt (by omega)]
        simp
      · rw [Array.getElem?_setIfInBounds_ne (by omega)]
        simp [hki]
    refine draw_step hcx hr hcl hd hkeys hdn ho hSi hB hs fun Z' V' a' w' hz' hle' hs' => ?_
    refine ih (listed.setIfInBounds i true) Z' V' a' w' (by simp [hsz]) ?_ ?_ (Zs.le_trans hlz hz') (Vl.le_trans hle hle') ?_
    · intro i' o' k hi' ho' hk
      simp only [hset, Bool.or_eq_true, decide_eq_true_eq] at hi' ⊢
      rcases hi' with h | h
      · exact .inl (hdn i' o' k h ho' hk)
      · subst h
        rw [ho] at ho'
        obtain rfl := Option.some.inj ho'
        exact .inl (h3 k hk)
    · have : cnt ops.size (listed.setIfInBounds i true) < cnt ops.size listed := by
        unfold cnt
        refine filter_lt (x := i) (fun y hy => ?_) (List.mem_range.2 h1) (by simp [h2]) ?_
        · simp only [Bool.not_eq_true', Array.getD_eq_getD_getElem?] at hy ⊢
          by_cases hyi : y = i
          · subst hyi
            rw [Array.getElem?_setIfInBounds_self_of_lt (by omega)] at hy
            simp at hy
          · rw [Array.getElem?_setIfInBounds_ne (by omega)] at hy
            exact hy
        · simp only [Array.getD_eq_getD_getElem?]
          rw [Array.getElem?_setIfInBounds_self_of_lt (by omega)]
          rfl
      omega
    · have : (fun k => (listed.setIfInBounds i true).getD k false) = fun k => (listed.getD k false || decide (k = i)) := funext hset
      rw [this]
      exact hs'

end

/-! ### the run, by computation -/
def Ea.wr : Ea → Bool
  | .upd _ _ _ => true
  | _ => false

/-- an effect that leaves the entities alone, out of what is told at the region's start (behind a write: out of the operands alone) -/
def lightEff (cx : Cx) (s0 : St) (wr : Bool) (st : St) (o : Oper) : Option Eff :=
  match eff cx st.ov (if wr then fun _ => none else fun e => s0.ents.lookup e) 0 o with
  | some E => match E.ea with
    | .none => some E
    | _ => none
  | none => none

/-- is it light out of the operands alone? -/
def pureOf (cx : Cx) (st : St) (o : Oper) : Cp :=
  match eff cx st.ov (fun _ => none) 0 o with
  | some E => match E.ea with
    | .none => .p
    | _ => .c .l
  | none => .c .l

def vcDraw (cx : Cx) (all : List Oper) (s0 : St) : List Oper → Bool → St → List Cp → (List Cp → St → Prop) → Prop
  | [], _, st, cls, k => k cls st
  | o :: l, wr, st, cls, k =>
    match grd all st o with
    | none => False
    | some t =>
      dstOk st o = true ∧
      (match lightEff cx s0 wr st o with
       | some E => (t = true → E.c) ∧ vcDraw cx all s0 l wr (st.app o.dst t E) (cls ++ [pureOf cx st o]) k
       | none => match o.guard, eff cx st.ov (fun e => st.ents.lookup e) st.next o with
         | none, some E => E.c ∧ vcDraw cx all s0 l (wr || E.ea.wr) (st.app o.dst true E) (cls ++ [.c (if E.ea.wr then .w else .n)]) k
         | _, _ => False)

/-- the whole of a region that draws: at its end the classes are looked at -/
def vcDrawn (cx : Cx) (ops : Array Oper) (st : St) (k : St → Prop) : Prop :=
  vcDraw cx ops.toList st ops.toList false st [] fun cls st' => drawOk ops cls = true ∧ k st'

/-- the run as a list -/
inductive Chain (cx : Cx) (all : List Oper) (s0 : St) : List Oper → Bool → St → List Rec → St → Prop
  | nil {wr : Bool} {st : St} : Chain cx all s0 [] wr st [] st
  | light {o : Oper} {l : List Oper} {wr : Bool} {st st' : St} {rs : List Rec} {t : Bool} {E : Eff} : grd all st o = some t → dstOk st o = true → lightEff cx s0 wr st o = some E → (t = true → E.c) →
      Chain cx all s0 l wr (st.app o.dst t E) rs st' → Chain cx all s0 (o :: l) wr st (⟨st, E, t, .l, pureOf cx st o⟩ :: rs) st'
  | heavy {o : Oper} {l : List Oper} {wr : Bool} {st st' : St} {rs : List Rec} {t : Bool} {E : Eff} : grd all st o = some t → dstOk st o = true → lightEff cx s0 wr st o = none → o.guard = none →
      eff cx st.ov (fun e => st.ents.lookup e) st.next o = some E → E.c →
      Chain cx all s0 l (wr || E.ea.wr) (st.app o.dst true E) rs st' → Chain cx all s0 (o :: l) wr st (⟨st, E, true, if E.ea.wr then .w else .n, .c (if E.ea.wr then .w else .n)⟩ :: rs) st'

theorem vcDraw_chain {cx : Cx} {all : List Oper} {s0 : St} : ∀ (l : List Oper) (wr : Bool) (st : St) (cls : List Cp) (k : List Cp → St → Prop), vcDraw cx all s0 l wr st cls k →
    ∃ rs st', Chain cx all s0 l wr st rs st' ∧ k (cls ++ rs.map Rec.cp) st'
  | [], wr, st, cls, k, h => ⟨[], st, .nil, by rw [List.map_nil, List.append_nil]; exact h⟩
  | o :: l, wr, st, cls, k, h => by
    simp only [vcDraw] at h
    split at h
    · exact h.elim
    · rename_i t ht
      obtain ⟨hd, h⟩ := h
      split at h
      · rename_i E hE
        obtain ⟨rs, st', h1, h2⟩ := vcDraw_chain l wr _ _ k h.2
        exact ⟨_, st', .light ht hd hE h.1 h1, by simpa using h2⟩
      · rename_i hE
        split at h
        · rename_i E hg hE2
          obtain ⟨rs, st', h1, h2⟩ := vcDraw_chain l _ _ _ k h.2
          exact ⟨_, st', .heavy ht hd hE hg hE2 h.1 h1, by simpa using h2⟩
        · exact h.elim

def recOf (rs : List Rec) (st' : St) (j : Nat) : Rec := rs.getD j ⟨st', ⟨True, none, .none⟩, true, .l, .c .l⟩

theorem recOf_st {rs : List Rec} {st st' : St} {cx : Cx} {all : List Oper} {s0 : St} {l : List Oper} {wr : Bool} (h : Chain cx all s0 l wr st rs st') : (recOf rs st' 0).st = st := by
  cases h <;> rfl

theorem lightEff_spec {cx : Cx} {s0 st : St} {wr : Bool} {o : Oper} {E : Eff} (h : lightEff cx s0 wr st o = some E) : E.ea = .none ∧ eff cx st.ov (if wr then fun _ => none else fun e => s0.ents.lookup e) 0 o = some E := by
  unfold lightEff at h
  split at h
  · rename_i E' hE
    split at h
    · rename_i he
      obtain rfl := Option.some.inj h
      exact ⟨he, hE⟩
    · cases h
  · cases h

theorem chain_run {cx : Cx} {all : List Oper} {s0 : St} : ∀ {l : List Oper} {wr : Bool} {st st' : St} {rs : List Rec}, Chain cx all s0 l wr st rs st' → ∀ (i : Nat) (o : Oper), l[i]? = some o →
    (recOf rs st' (i + 1)).st = (recOf rs st' i).st.app o.dst (recOf rs st' i).t (recOf rs st' i).E ∧
    grd all (recOf rs st' i).st o = some (recOf rs st' i).t ∧ dstOk (recOf rs st' i).st o = true ∧
    ((recOf rs st' i).cl = .l → (recOf rs st' i).E.ea = .none ∧ ((recOf rs st' i).t = true → (recOf rs st' i).E.c) ∧
      (eff cx (recOf rs st' i).st.ov (fun _ => none) 0 o = some (recOf rs st' i).E ∨ ((wr = false ∧ ∀ k, k < i → (recOf rs st' k).cl ≠ .w) ∧ eff cx (recOf rs st' i).st.ov (fun e => s0.ents.lookup e) 0 o = some (recOf rs st' i).E))) ∧
    ((recOf rs st' i).cl ≠ .l → (recOf rs st' i).t = true ∧ o.guard = none ∧ (recOf rs st' i).E.c ∧ eff cx (recOf rs st' i).st.ov (fun e => (recOf rs st' i).st.ents.lookup e) (recOf rs st' i).st.next o = some (recOf rs st' i).E) ∧
    ((recOf rs st' i).cl = .n → (recOf rs st' i).E.ea.wr = false ∧ lightEff cx s0 false (recOf rs st' i).st o = none ∨ (recOf rs st' i).cl ≠ .n ∨ (recOf rs st' i).E.ea.wr = false)
  | _, _, _, _, _, .nil, i, o, h => by simp at h
  | o' :: l, wr, st, st', _, .light (rs := rs) (t := t) (E := E) ht hd hE hc hch, i, o, h => by
    cases i with
    | zero =>
      simp at h; subst h
      have h0 : recOf (⟨st, E, t, .l, pureOf cx st o'⟩ :: rs) st' 0 = ⟨st, E, t, .l, pureOf cx st o'⟩ := rfl
      have h1 : recOf (⟨st, E, t, .l, pureOf cx st o'⟩ :: rs) st' (0 + 1) = recOf rs st' 0 := rfl
      rw [h1, h0, recOf_st hch]
      obtain ⟨k1, k2⟩ := lightEff_spec hE
      refine ⟨rfl, ht, hd, fun _ => ⟨k1, hc, ?_⟩, (fun h => absurd rfl h), fun h => by cases h⟩
      cases wr with
      | true => exact .inl k2
      | false => exact .inr ⟨⟨rfl, fun k hk => by omega⟩, k2⟩
    | succ i =>
      simp at h
      have hs : ∀ j, recOf (⟨st, E, t, .l, pureOf cx st o'⟩ :: rs) st' (j + 1) = recOf rs st' j := fun j => rfl
      rw [hs, hs]
      obtain ⟨q1, q2, q3, q4, q5, q6⟩ := chain_run hch i o h
      refine ⟨q1, q2, q3, fun hl => ?_, q5, q6⟩
      obtain ⟨r1, r2, r3⟩ := q4 hl
      refine ⟨r1, r2, r3.imp id fun r => ⟨⟨r.1.1, fun k hk => ?_⟩, r.2⟩⟩
      cases k with
      | zero => simp [recOf]
      | succ k => rw [hs]; exact r.1.2 k (by omega)
  | o' :: l, wr, st, st', _, .heavy (rs := rs) (t := t) (E := E) ht hd hE hg hE2 hc hch, i, o, h => by
    cases i with
    | zero =>
      simp at h; subst h
      have h0 : recOf (⟨st, E, true, if E.ea.wr then .w else .n, .c (if E.ea.wr then .w else .n)⟩ :: rs) st' 0 = ⟨st, E, true, if E.ea.wr then .w else .n, .c (if E.ea.wr then .w else .n)⟩ := rfl
      have h1 : recOf (⟨st, E, true, if E.ea.wr then .w else .n, .c (if E.ea.wr then .w else .n)⟩ :: rs) st' (0 + 1) = recOf rs st' 0 := rfl
      rw [h1, h0, recOf_st hch]
      have htt : t = true := by
        unfold grd at ht
        rw [hg] at ht
        exact (Option.some.inj ht).symm
      subst htt
      refine ⟨rfl, ht, hd, fun h => ?_, fun _ => ⟨rfl, hg, hc, hE2⟩, fun h => .inr (.inr ?_)⟩
      · simp only at h
        split at h <;> cases h
      · simp only at h ⊢
        cases hw : E.ea.wr with
        | false => rfl
        | true => rw [hw] at h; simp at h
    | succ i =>
      simp at h
      have hs : ∀ j, recOf (⟨st, E, true, if E.ea.wr then .w else .n, .c (if E.ea.wr then .w else .n)⟩ :: rs) st' (j + 1) = recOf rs st' j := fun j => rfl
      rw [hs, hs]
      obtain ⟨q1, q2, q3, q4, q5, q6⟩ := chain_run hch i o h
      refine ⟨q1, q2, q3, fun hl => ?_, q5, q6⟩
      obtain ⟨r1, r2, r3⟩ := q4 hl
      refine ⟨r1, r2, r3.imp id fun r => ?_⟩
      have hwr : wr = false ∧ E.ea.wr = false := by
        have := r.1.1
        simpa using this
      refine ⟨⟨hwr.1, fun k hk => ?_⟩, r.2⟩
      cases k with
      | zero => simp [recOf, hwr.2]
      | succ k => rw [hs]; exact r.1.2 k (by omega)

theorem pureOf_spec {cx : Cx} {st : St} {o : Oper} : pureOf cx st o = .c .l ∨ (pureOf cx st o = .p ∧ ∃ E, eff cx st.ov (fun _ => none) 0 o = some E ∧ E.ea = .none) := by
  unfold pureOf
  split
  · rename_i E hE
    split
    · rename_i he
      exact .inr ⟨rfl, E, hE, he⟩
    · exact .inl rfl
  · exact .inl rfl

theorem chain_cp {cx : Cx} {all : List Oper} {s0 : St} : ∀ {l : List Oper} {wr : Bool} {st st' : St} {rs : List Rec}, Chain cx all s0 l wr st rs st' → ∀ (i : Nat) (o : Oper), l[i]? = some o →
    (recOf rs st' i).cp = .c (recOf rs st' i).cl ∨ ((recOf rs st' i).cp = .p ∧ (recOf rs st' i).cl = .l ∧ eff cx (recOf rs st' i).st.ov (fun _ => none) 0 o = some (recOf rs st' i).E)
  | _, _, _, _, _, .nil, i, o, h => by simp at h
  | o' :: l, wr, st, st', _, .light (rs := rs) (t := t) (E := E) ht hd hE hc hch, i, o, h => by
    cases i with
    | zero =>
      simp at h; subst h
      show pureOf cx st o' = .c .l ∨ (pureOf cx st o' = .p ∧ Cl.l = .l ∧ eff cx st.ov (fun _ => none) 0 o' = some E)
      obtain ⟨k1, k2⟩ := lightEff_spec hE
      rcases pureOf_spec (cx := cx) (st := st) (o := o') with h1 | ⟨h1, E', h2, h3⟩
      · exact .inl h1
      · refine .inr ⟨h1, rfl, ?_⟩
        have := eff_mono (en' := if wr then fun _ => none else fun e => s0.ents.lookup e) (nx' := 0) (fun e x h => by cases h) h2 h3
        rw [k2] at this
        rw [h2, this]
    | succ i =>
      simp at h
      exact chain_cp hch i o h
  | o' :: l, wr, st, st', _, .heavy (rs := rs) (t := t) (E := E) ht hd hE hg hE2 hc hch, i, o, h => by
    cases i with
    | zero => exact .inl rfl
    | succ i =>
      simp at h
      exact chain_cp hch i o h

theorem chain_length {cx : Cx} {all : List Oper} {s0 : St} {l : List Oper} {wr : Bool} {st st' : St} {rs : List Rec} (h : Chain cx all s0 l wr st rs st') : rs.length = l.length := by
  induction h with
  | nil => rfl
  | light _ _ _ _ _ ih => simp [ih]
  | heavy _ _ _ _ _ _ _ ih => simp [ih]

/-- a heavy effect that writes nothing makes something -/
theorem repl_false (n k : Nat) : (Array.replicate n false).getD k false = false := by
  rw [Array.getD_eq_getD_getElem?, Array.getElem?_replicate]
  split <;> rfl

theorem drawn_sound {P : Program} {cx : Cx} {B : Bs} {w : World} (hcx : CxG P cx B) {Z : Zs} {V : Vl} {a : Act} {ops : Array Oper} {s0 : St} {id : Nat} {k : St → Prop} {Q : Exit → Act → World → Prop} (hm : P.follows .mixedOrders = true)
    (hs : Sat B Z V s0 a w) (h : vcDrawn cx ops s0 k) (hQ : ∀ Z' V' st' a' w', Z.le Z' → V.le V' → k st' → Sat B Z' V' st' a' w' → Q .normal a' w') : (Code.region id ops true).wp P Q a w := by
  refine wp_region_any hm ?_
  obtain ⟨rs, st', hch, hdo, hk⟩ := vcDraw_chain _ _ _ _ _ h
  simp only [List.nil_append] at hdo
  have hlen : rs.length = ops.size := by rw [chain_length hch, Array.length_toList]
  have hrun := chain_run hch
  have hs' : Sat B Z V s0 a { w with drawn := w.drawn + 1 } := hs.still ⟨rfl, rfl, rfl, Nat.le_refl _⟩ (fun _ _ => rfl)
  have hr : RunOk cx ops (recOf rs st') s0 := {
    start := recOf_st hch
    next := fun i o ho => (hrun i o (by rw [Array.getElem?_toList]; exact ho)).1
    grd := fun i o ho => (hrun i o (by rw [Array.getElem?_toList]; exact ho)).2.1
    dst := fun i o ho => (hrun i o (by rw [Array.getElem?_toList]; exact ho)).2.2.1
    cp := fun i o ho => chain_cp hch i o (by rw [Array.getElem?_toList]; exact ho)
    light := fun i o ho hl => by
      obtain ⟨r1, r2, r3⟩ := (hrun i o (by rw [Array.getElem?_toList]; exact ho)).2.2.2.1 hl
      exact ⟨r1, r2, r3.imp (fun q => q) fun r => ⟨r.1.2, r.2⟩⟩
    heavy := fun i o ho hl => (hrun i o (by rw [Array.getElem?_toList]; exact ho)).2.2.2.2.1 hl
    fresh := fun i o ho hn => by
      have h5 := (hrun i o (by rw [Array.getElem?_toList]; exact ho)).2.2.2.2.2 hn
      have hw : (recOf rs st' i).E.ea.wr = false := by
        rcases h5 with h5 | h5 | h5
        · exact h5.1
        · exact absurd hn h5
        · exact h5
      cases hea : (recOf rs st' i).E.ea with
      | none => exact .inl rfl
      | new xs => exact .inr ⟨xs, rfl⟩
      | upd del put xs => rw [hea] at hw; cases hw }
  refine draw_all (B := B) (cls := rs.map Rec.cp) hcx hr (fun i hi => ?_) (drawOk_spec hdo) (fun e x hx => ?_) (Z0 := Z) (V0 := V) (fun Z' V' a' w' hlz hle hs2 => ?_) ops.size _ Z V a _ (by simp) ?_ ?_ (Zs.le_refl Z) (Vl.le_refl V) ?_
  · have hi' : i < rs.length := by omega
    simp only [recOf, List.getD_eq_getElem?_getD, List.getElem?_map, List.getElem?_eq_getElem hi', Option.map_some, Option.getD_some]
  · obtain ⟨d, h1, _⟩ := hs.ents e x hx
    rcases Nat.lt_or_ge e s0.next with h | h
    · exact h
    · rw [hs.fresh e h] at h1; cases h1
  · have hst : (recOf rs st' ops.size).st = st' := by
      simp only [recOf, List.getD_eq_getElem?_getD]
      rw [List.getElem?_eq_none (by omega)]
      rfl
    rw [hst] at hs2
    exact hQ Z' V' st' a' w' hlz hle hk hs2
  · intro i o k' hi ho hk'
    have hi : (Array.replicate ops.size false).getD i false = true := hi
    rw [repl_false] at hi
    cases hi
  · unfold cnt
    exact Nat.le_trans (List.length_filter_le _ _) (by simp)
  · have : ∀ m, foldS ops (recOf rs st') s0 (fun k => (Array.replicate ops.size false).getD k false) m = s0 := by
      intro m
      induction m with
      | zero => rfl
      | succ m ih =>
        simp only [foldS]
        rw [if_neg (by rw [repl_false]; exact Bool.false_ne_true)]
        exact ih
    rw [this]
    exact hs'

end Go.Vx

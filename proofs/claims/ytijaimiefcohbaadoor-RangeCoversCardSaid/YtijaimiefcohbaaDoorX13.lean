import Derived.Test.YtijaimiefcohbaaDoorX12
import Derived.Scope
set_option linter.unusedSimpArgs false
set_option linter.unusedVariables false
set_option linter.constructorNameAsVariable false
namespace Go.Vx
open Go Go.RowKit

/-! ### regions, in the order of the text -/
def gslot (all : List Oper) (st : St) (j : Nat) : Option (Bool × Bool) :=
  match all[j]? with
  | some o => match o.dst with
    | some d => match st.slots.lookup d with
      | some (g, .a (.c (.p (.b b)))) => some (g, b)
      | _ => none
    | none => none
  | none => none

/-- is the operation wanted? -/
def grd (all : List Oper) (st : St) (o : Oper) : Option Bool :=
  match o.guard with
  | none => some true
  | some (j, want) => (gslot all st j).map fun p => bif want then (p.1 && p.2) else (p.1 && !p.2)

def dstOk (st : St) (o : Oper) : Bool :=
  match o.dst with
  | none => true
  | some d => decide (d < st.nt)

def Ea.light : Ea → Bool
  | .none => true
  | _ => false

def vcOps (cx : Cx) (all : List Oper) : List Oper → St → (St → Prop) → Prop
  | [], st, k => k st
  | o :: l, st, k =>
    match grd all st o, eff cx st.ov (fun e => st.ents.lookup e) st.next o with
    | some t, some E =>
      dstOk st o = true ∧
      (match o.guard with
       | none => E.c ∧ vcOps cx all l (st.app o.dst true E) k
       | some _ => if E.ea.light then (t = true → E.c) ∧ vcOps cx all l (st.app o.dst t E) k
         else (t = true → E.c ∧ vcOps cx all l (st.app o.dst true E) k) ∧ (t = false → vcOps cx all l (st.put o.dst true none) k))
    | _, _ => False

section
variable {P : Program} {cx : Cx} {B : Bs} {w : World} {Z : Zs} {V : Vl} {st : St} {a : Act} {o : Oper} {all : Array Oper} {Q : Exit → Act → World → Prop}

theorem grd_sound (hs : Sat B Z V st a w) {t : Bool} (h : grd all.toList st o = some t) : Region.wanted o (yielded all a.tmps) = t := by
  unfold grd at h
  unfold Region.wanted
  split at h
  · rename_i hg
    rw [hg]
    exact Option.some.inj h
  · rename_i j want hg
    rw [hg]
    obtain ⟨⟨g, b⟩, hp, rfl⟩ := Option.map_eq_some_iff.1 h
    unfold gslot at hp
    (repeat' split at hp) <;> (try (cases hp; done))
    rename_i _ oj hoj _ d hd _ g' b' hl
    simp only [Option.some.injEq, Prod.mk.injEq] at hp
    obtain ⟨rfl, rfl⟩ := hp
    have hoj' : all[j]? = some oj := by rw [← Array.getElem?_toList]; exact hoj
    cases g' with
    | true =>
      obtain ⟨v, h1, h2⟩ := hs.slots d true _ hl rfl
      cases h1; rename_i h1; cases h1; rename_i h1; cases h1; rename_i h1; cases h1
      simp only [yielded, hoj', Option.bind_some, hd, h2]
      cases want <;> cases b' <;> rfl
    | false =>
      have h2 := hs.off d false _ hl rfl
      simp only [yielded, hoj', Option.bind_some, hd, h2, undef]
      cases want <;> rfl

theorem dstOk_spec (h : dstOk st o = true) : ∀ d, o.dst = some d → d < st.nt := by
  intro d hd
  unfold dstOk at h
  rw [hd] at h
  exact of_decide_eq_true h

theorem vcOps_sound (hcx : CxG P cx B) : ∀ (l : List Oper) (i : Nat) (st : St) (Z : Zs) (V : Vl) (a : Act) (w : World) (k : St → Prop), all.toList.drop i = l → Sat B Z V st a w → vcOps cx all.toList l st k →
    (∀ Z' V' st' a' w', Z.le Z' → V.le V' → k st' → Sat B Z' V' st' a' w' → Q .normal a' w') → wpOps P all Q (List.range' i l.length) a w
  | [], i, st, Z, V, a, w, k, _, hs, h, hQ => by
    simp only [List.length_nil, List.range'_zero, wpOps]
    exact hQ Z V st a w (Zs.le_refl Z) (Vl.le_refl V) h hs
  | o :: l, i, st, Z, V, a, w, k, hi, hs, h, hQ => by
    have ho : all[i]? = some o := by
      rw [← Array.getElem?_toList]
      have := congrArg List.head? hi
      rw [List.head?_drop] at this
      simpa using this
    have hl : all.toList.drop (i + 1) = l := by
      rw [← List.drop_drop, hi]; rfl
    simp only [List.length_cons, List.range'_succ, wpOps, ho]
    simp only [vcOps] at h
    split at h
    case h_2 => exact h.elim
    rename_i t E hg hE
    obtain ⟨hd0, h⟩ := h
    have hd := dstOk_spec hd0
    have hw := grd_sound (all := all) hs hg
    rw [hw]
    have run : ∀ (g : Bool), g = true → E.c → vcOps cx all.toList l (st.app o.dst g E) k → o.wp P a w (wpOps P all Q (List.range' (i + 1) l.length)) Q := by
      intro g hgt hc hv
      exact eff_sound hcx hs hd hE hc _ _ g hgt (fun Z' V' v w' hz hle hs' => vcOps_sound hcx l (i + 1) _ Z' V' _ w' k hl hs' hv (fun Z2 V2 st2 a2 w2 hz2 hle2 => hQ Z2 V2 st2 a2 w2 (Zs.le_trans hz hz2) (Vl.le_trans hle hle2)))
    split at h
    · rename_i hgn
      have ht : t = true := by
        unfold grd at hg
        rw [hgn] at hg
        exact (Option.some.inj hg).symm
      rw [ht]
      simp only [if_true]
      exact .inl (run true rfl h.1 h.2)
    · split at h
      · rename_i hlight
        cases t with
        | true =>
          simp only [if_true]
          exact .inl (run true rfl (h.1 rfl) h.2)
        | false =>
          simp only [Bool.false_eq_true, if_false]
          have hea : E.ea = .none := by
            cases hh : E.ea <;> simp [Ea.light, hh] at hlight ⊢
          have hs' : Sat B Z V (st.app o.dst false E) (a.put o.dst undef) w := by
            unfold St.app
            rw [hea]
            exact hs.put o.dst false E.val undef hd (fun s _ h => by cases h) (fun s _ _ => rfl)
          exact vcOps_sound hcx l (i + 1) _ Z V _ w k hl hs' h.2 hQ
      · cases t with
        | true =>
          simp only [if_true]
          exact .inl (run true rfl (h.1 rfl).1 (h.1 rfl).2)
        | false =>
          simp only [Bool.false_eq_true, if_false]
          exact vcOps_sound hcx l (i + 1) _ Z V _ w k hl (hs.put o.dst true none undef hd (fun s h => by cases h) (fun s h => by cases h)) (h.2 rfl) hQ

theorem region_sound (hcx : CxG P cx B) {id : Nat} {k : St → Prop} (hs : Sat B Z V st a w) (h : vcOps cx all.toList all.toList st k)
    (hQ : ∀ Z' V' st' a' w', Z.le Z' → V.le V' → k st' → Sat B Z' V' st' a' w' → Q .normal a' w') : (Code.region id all false).wp P Q a w := by
  refine wp_region ?_
  have := vcOps_sound (all := all) (Q := Q) hcx all.toList 0 st Z V a w k (by simp) hs h hQ
  rw [Array.length_toList, ← List.range_eq_range'] at this
  exact this

end

end Go.Vx

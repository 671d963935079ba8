import Derived.Test.YtijaimiefcohbaaDoorX17
set_option linter.unusedSimpArgs false
set_option linter.unusedVariables false
set_option linter.constructorNameAsVariable false
namespace Go.Vx
open Go Go.RowKit

/-! ### a state may be seen as another one -/
def plP : Pl → Pl → Prop
  | .u x, .u y => x = y
  | .i x, .i y => x = y
  | .b x, .b y => x = y
  | .v x, .v y => x = y
  | .n ks, .n ks' => kdsb ks ks' = true
  | .n ks, .r ks' rows => kdsb ks ks' = true ∧ rows = []
  | .r ks rows, .r ks' rows' => kdsb ks ks' = true ∧ rows = rows'
  | .q ks cs, .q ks' cs' => kdsb ks ks' = true ∧ cs = cs'
  | x, y => x = y

theorem plP_ok {Z : Zs} {v : Value} {x y : Pl} (h : plP x y) (k : PlOk Z v x) : PlOk Z v y := by
  unfold plP at h
  split at h
  · exact h ▸ k
  · exact h ▸ k
  · exact h ▸ k
  · exact h ▸ k
  · rw [← kdsb_eq h]; exact k
  · obtain ⟨h1, rfl⟩ := h
    cases k; exact .r0 _ _ _
  · obtain ⟨h1, rfl⟩ := h
    rw [← kdsb_eq h1]; exact k
  · obtain ⟨h1, rfl⟩ := h
    rw [← kdsb_eq h1]; exact k
  · exact h ▸ k

/-- which number of the target stands for which of the source; none: for a nil slice -/
abbrev Mt := List (Nat × Option Nat)

mutual
def seesC (σ : Mt) : Cel → Cel → Prop
  | .p (.n _), .hdr e n => σ.lookup e = some none ∧ n = 0
  | .p x, .p y => plP x y
  | .ptr e k, .ptr e' k' => σ.lookup e' = some (some e) ∧ k = k'
  | .elt e sz i k, .elt e' sz' i' k' => σ.lookup e' = some (some e) ∧ sz = sz' ∧ i = i' ∧ k = k'
  | .hdr e n, .hdr e' n' => σ.lookup e' = some (some e) ∧ n = n'
  | .sub e sz o n, .sub e' sz' o' n' => σ.lookup e' = some (some e) ∧ sz = sz' ∧ o = o' ∧ n = n'
  | .relt ks rows i k, .relt ks' rows' i' k' => kdsb ks ks' = true ∧ rows = rows' ∧ i = i' ∧ k = k'
  | .rptr cs k, .rptr cs' k' => cs = cs' ∧ k = k'
  | .fn f a b, .fn f' a' b' => f = f' ∧ seesG σ a a' ∧ seesG σ b b'
  | _, _ => False
def seesG (σ : Mt) : List Cel → List Cel → Prop
  | [], [] => True
  | .g x :: xs, .g y :: ys => seesL σ x y ∧ seesG σ xs ys
  | x :: xs, y :: ys => seesC σ x y ∧ seesG σ xs ys
  | _, _ => False
def seesL (σ : Mt) : List Cel → List Cel → Prop
  | [], [] => True
  | x :: xs, y :: ys => seesC σ x y ∧ seesL σ xs ys
  | _, _ => False
end

def seesA (σ : Mt) : AV → AV → Prop
  | .c x, .c y => seesC σ x y
  | .agg xs, .agg ys => seesL σ xs ys
  | _, _ => False
def seesAs (σ : Mt) : List AV → List AV → Prop
  | [], [] => True
  | x :: xs, y :: ys => seesA σ x y ∧ seesAs σ xs ys
  | _, _ => False
def seesS (σ : Mt) : SV → SV → Prop
  | .a x, .a y => seesA σ x y
  | .tup xs, .tup ys => seesAs σ xs ys
  | _, _ => False
def seesE (σ : Mt) : Ent → Ent → Prop
  | .cells cs t, .cells cs' t' => seesL σ cs cs' ∧ t = t'
  | .own t ks rows, .own t' ks' rows' => t = t' ∧ kdsb ks ks' = true ∧ rows = rows'
  | _, _ => False

def seesSlots (σ : Mt) (ss : List (Nat × Bool × SV)) : List (Nat × Bool × SV) → Prop
  | [] => True
  | (t, g, y) :: l => (match ss.lookup t with | some (g', x) => g = g' ∧ seesS σ x y | none => False) ∧ seesSlots σ ss l

def seesEnts (σ : Mt) (es : List (Nat × Ent)) : List (Nat × Ent) → Prop
  | [] => True
  | (e, y) :: l => (match σ.lookup e with
      | some (some e') => (match es.lookup e' with | some x => seesE σ x y | none => False)
      | some none => (match y with | .own _ _ rows => rows = [] | _ => False)
      | none => False) ∧ seesEnts σ es l

/-! the match, by computing -/
def zipC : List Cel → List Cel → List (Cel × Cel)
  | x :: xs, y :: ys => (x, y) :: zipC xs ys
  | _, _ => []

def mkM (es es' : List (Nat × Ent)) : Nat → List (Cel × Cel) → Mt → Mt
  | 0, _, acc => acc
  | _ + 1, [], acc => acc
  | m + 1, (x, y) :: todo, acc =>
    let link (e e' : Nat) : Mt := match acc.lookup e' with
      | some _ => mkM es es' m todo acc
      | none => match es.lookup e, es'.lookup e' with
        | some (.cells cs _), some (.cells cs' _) => mkM es es' m (zipC cs cs' ++ todo) (acc ++ [(e', some e)])
        | _, _ => mkM es es' m todo (acc ++ [(e', some e)])
    match x, y with
    | .p (.n _), .hdr e' _ => match acc.lookup e' with
      | some _ => mkM es es' m todo acc
      | none => mkM es es' m todo (acc ++ [(e', none)])
    | .ptr e _, .ptr e' _ => link e e'
    | .elt e _ _ _, .elt e' _ _ _ => link e e'
    | .hdr e _, .hdr e' _ => link e e'
    | .sub e _ _ _, .sub e' _ _ _ => link e e'
    | .fn _ a b, .fn _ a' b' => mkM es es' m (zipC a a' ++ zipC b b' ++ todo) acc
    | .g a, .g a' => mkM es es' m (zipC a a' ++ todo) acc
    | _, _ => mkM es es' m todo acc

def pairsA : AV → AV → List (Cel × Cel)
  | .c x, .c y => [(x, y)]
  | .agg xs, .agg ys => zipC xs ys
  | _, _ => []
def pairsAs : List AV → List AV → List (Cel × Cel)
  | x :: xs, y :: ys => pairsA x y ++ pairsAs xs ys
  | _, _ => []
def pairsS : SV → SV → List (Cel × Cel)
  | .a x, .a y => pairsA x y
  | .tup xs, .tup ys => pairsAs xs ys
  | _, _ => []
def pairsSlots (ss : List (Nat × Bool × SV)) : List (Nat × Bool × SV) → List (Cel × Cel)
  | [] => []
  | (t, _, y) :: l => (match ss.lookup t with | some (_, x) => pairsS x y | none => []) ++ pairsSlots ss l

def injM : Mt → Bool
  | [] => true
  | p :: l => l.all (fun q => q.1 != p.1 && (match p.2, q.2 with | some a, some b => a != b | _, _ => true)) && injM l

def selfM : Nat → Mt
  | 0 => []
  | n + 1 => selfM n ++ [(n, some n)]
def selfP : Nat → List (Cel × Cel)
  | 0 => []
  | n + 1 => selfP n ++ [(.ptr n 0, .ptr n 0)]

/-- the first np numbers stand for themselves where they stand at all -/
def mkMt (np : Nat) (es es' : List (Nat × Ent)) (ps : List (Cel × Cel)) : Mt := mkM es es' 300 (selfP np ++ ps) []

/-- state st may be seen as state st' -/
def leqW (np : Nat) (st st' : St) (σ : Mt) : Prop :=
  (injM σ && (σ.all fun p => decide (p.1 < st'.next)) && (upto np).all (fun e => (match σ.lookup e with | some (some e') => e' == e | _ => false))) = true ∧
    st'.nt = st.nt ∧ seesSlots σ st.slots st'.slots ∧ seesEnts σ st.ents st'.ents
def leq (np : Nat) (st st' : St) : Prop := leqW np st st' (mkMt np st.ents st'.ents (pairsSlots st.slots st'.slots))

def renM (σ : Mt) (V : Vl) : Vl := fun e => match σ.lookup e with
  | some (some e') => V e'
  | some none => some ⟨0, none, 0⟩
  | none => none

mutual
theorem seesC_ok {σ : Mt} {Z : Zs} {V : Vl} : ∀ {x y : Cel} {v : Value}, seesC σ x y → CelOk Z V v x → CelOk Z (renM σ V) v y
  | .p x, y, v, h, k => by
    cases k with | p k =>
    cases y with
    | p y =>
      have h' : plP x y := by cases x <;> simpa [seesC] using h
      exact .p (plP_ok h' k)
    | hdr e n =>
      cases x with
      | n ks =>
        simp only [seesC] at h
        obtain ⟨h1, rfl⟩ := h
        cases k
        exact .hdr (d := ⟨0, none, 0⟩) (by simp [renM, h1])
      | _ => simp [seesC] at h
    | _ => cases x <;> simp [seesC] at h
  | .ptr e k, y, v, h, q => by
    cases y <;> simp only [seesC] at h
    obtain ⟨h1, rfl⟩ := h
    cases q with | ptr q => exact .ptr (by simp only [renM, h1]; exact q)
  | .elt e sz i k, y, v, h, q => by
    cases y <;> simp only [seesC] at h
    obtain ⟨h1, rfl, rfl, rfl⟩ := h
    cases q with | elt q q2 => exact .elt (by simp only [renM, h1]; exact q) q2
  | .hdr e n, y, v, h, q => by
    cases y <;> simp only [seesC] at h
    obtain ⟨h1, rfl⟩ := h
    cases q with | hdr q => exact .hdr (by simp only [renM, h1]; exact q)
  | .sub e sz o n, y, v, h, q => by
    cases y <;> simp only [seesC] at h
    obtain ⟨h1, rfl, rfl, rfl⟩ := h
    cases q with | sub q q2 => exact .sub (by simp only [renM, h1]; exact q) q2
  | .relt ks rows i k, y, v, h, q => by
    cases y <;> simp only [seesC] at h
    obtain ⟨h1, rfl, rfl, rfl⟩ := h
    rw [← kdsb_eq h1]
    cases q with | relt a b c => exact .relt a b c
  | .rptr cs k, y, v, h, q => by
    cases y <;> simp only [seesC] at h
    obtain ⟨rfl, rfl⟩ := h
    cases q with | rptr a b => exact .rptr a b
  | .fn f a b, y, v, h, q => by
    cases y <;> simp only [seesC] at h
    obtain ⟨rfl, h1, h2⟩ := h
    cases q with | fn q1 q2 => exact .fn (seesG_ok h1 q1) (seesG_ok h2 q2)
  | .g cs, y, v, h, q => by cases q
theorem seesG_ok {σ : Mt} {Z : Zs} {V : Vl} : ∀ {xs ys : List Cel} {vs : List Value}, seesG σ xs ys → CasOk Z V vs xs → CasOk Z (renM σ V) vs ys
  | [], ys, vs, h, k => by
    cases ys with
    | nil => cases k; exact .nil
    | cons y ys => simp [seesG] at h
  | x :: xs, ys, vs, h, k => by
    cases ys with
    | nil => cases x <;> simp [seesG] at h
    | cons y ys =>
      cases k with
      | cons k1 k2 =>
        have h' : seesC σ x y ∧ seesG σ xs ys := by
          cases x with
          | g cs => cases k1
          | _ => simpa [seesG] using h
        exact .cons (seesC_ok h'.1 k1) (seesG_ok h'.2 k2)
      | agg k1 k2 =>
        cases y with
        | g cs =>
          simp only [seesG] at h
          exact .agg (seesL_ok h.1 k1) (seesG_ok h.2 k2)
        | _ => simp [seesG, seesC] at h
theorem seesL_ok {σ : Mt} {Z : Zs} {V : Vl} : ∀ {xs ys : List Cel} {vs : List Value}, seesL σ xs ys → CelsOk Z V vs xs → CelsOk Z (renM σ V) vs ys
  | [], ys, vs, h, k => by
    cases ys with
    | nil => cases k; exact .nil
    | cons y ys => simp [seesL] at h
  | x :: xs, ys, vs, h, k => by
    cases ys with
    | nil => simp [seesL] at h
    | cons y ys =>
      simp only [seesL] at h
      cases k with | cons k1 k2 => exact .cons (seesC_ok h.1 k1) (seesL_ok h.2 k2)
end

theorem seesA_ok {σ : Mt} {Z : Zs} {V : Vl} {x y : AV} {v : Value} (h : seesA σ x y) (k : AVOk Z V v x) : AVOk Z (renM σ V) v y := by
  cases k with
  | c k => cases y with
    | c y => exact .c (seesC_ok h k)
    | agg y => exact h.elim
  | agg k => cases y with
    | c y => exact h.elim
    | agg y => exact .agg (seesL_ok h k)
theorem seesAs_ok {σ : Mt} {Z : Zs} {V : Vl} : ∀ {x y : List AV} {v : List Value}, seesAs σ x y → AVsOk Z V v x → AVsOk Z (renM σ V) v y
  | [], y, v, h, k => by
    cases y with
    | nil => cases k; exact .nil
    | cons y ys => exact h.elim
  | x :: xs, y, v, h, k => by
    cases y with
    | nil => exact h.elim
    | cons y ys => cases k with | cons k1 k2 => exact .cons (seesA_ok h.1 k1) (seesAs_ok h.2 k2)
theorem seesS_ok {σ : Mt} {Z : Zs} {V : Vl} {x y : SV} {v : Value} (h : seesS σ x y) (k : SVOk Z V v x) : SVOk Z (renM σ V) v y := by
  cases k with
  | a k => cases y with
    | a y => exact .a (seesA_ok h k)
    | tup y => exact h.elim
  | tup k => cases y with
    | a y => exact h.elim
    | tup y => exact .tup (seesAs_ok h k)

theorem seesE_ok {σ : Mt} {Z : Zs} {V : Vl} {w : World} {d : VD} {x y : Ent} (h : seesE σ x y) (k : x.ok Z w V d) : y.ok Z w (renM σ V) d ∧ y.blk d = x.blk d := by
  cases x with
  | cells cs t => cases y with
    | cells cs' t' =>
      obtain ⟨h1, rfl⟩ := h
      obtain ⟨vs, k1, k2⟩ := k
      exact ⟨⟨vs, seesL_ok h1 k1, k2⟩, rfl⟩
    | own t' ks' rows' => exact h.elim
  | own t ks rows => cases y with
    | cells cs' t' => exact h.elim
    | own t' ks' rows' =>
      obtain ⟨rfl, h1, rfl⟩ := h
      rw [← kdsb_eq h1]
      exact ⟨k, rfl⟩

theorem seesSlots_get {σ : Mt} {ss : List (Nat × Bool × SV)} : ∀ {l : List (Nat × Bool × SV)} {t : Nat} {g : Bool} {y : SV}, seesSlots σ ss l → l.lookup t = some (g, y) → ∃ x, ss.lookup t = some (g, x) ∧ seesS σ x y
  | [], t, g, y, _, h => by cases h
  | (t', g', y') :: l, t, g, y, hl, h => by
    rw [List.lookup_cons] at h
    split at h
    · rename_i he
      simp only [beq_iff_eq] at he
      subst he
      simp only [Option.some.injEq, Prod.mk.injEq] at h
      obtain ⟨rfl, rfl⟩ := h
      have := hl.1
      split at this
      · rename_i g2 x hx
        obtain ⟨rfl, h2⟩ := this
        exact ⟨x, hx, h2⟩
      · exact this.elim
    · exact seesSlots_get hl.2 h

theorem seesEnts_mem {σ : Mt} {es : List (Nat × Ent)} : ∀ {l : List (Nat × Ent)} {p : Nat × Ent}, seesEnts σ es l → p ∈ l →
    (∃ e' x, σ.lookup p.1 = some (some e') ∧ es.lookup e' = some x ∧ seesE σ x p.2) ∨ (σ.lookup p.1 = some none ∧ ∃ t ks, p.2 = .own t ks [])
  | [], p, _, h => by cases h
  | (e, y) :: l, p, hl, h => by
    rcases List.mem_cons.1 h with rfl | h
    · have := hl.1
      split at this
      · rename_i e' he
        split at this
        · rename_i x hx
          exact .inl ⟨e', x, he, hx, this⟩
        · exact this.elim
      · rename_i he
        split at this
        · rename_i t ks rows
          subst this
          exact .inr ⟨he, t, ks, rfl⟩
        · exact this.elim
      · exact this.elim
    · exact seesEnts_mem hl.2 h

theorem injM_spec : ∀ {σ : Mt}, injM σ = true → ∀ {a b c : Nat}, (a, some c) ∈ σ → (b, some c) ∈ σ → a = b
  | [], _, a, b, c, h, _ => by cases h
  | p :: σ, h, a, b, c, ha, hb => by
    simp only [injM, Bool.and_eq_true, List.all_eq_true] at h
    rcases List.mem_cons.1 ha with h1 | h1
    · rcases List.mem_cons.1 hb with h2 | h2
      · rw [← h1] at h2
        exact (Prod.mk.inj h2).1.symm
      · have := h.1 _ h2
        rw [← h1] at this
        simp at this
    · rcases List.mem_cons.1 hb with h2 | h2
      · have := h.1 _ h1
        rw [← h2] at this
        simp at this
      · exact injM_spec h.2 h1 h2

/-- the first np numbers mean what they meant -/
def Vk (np : Nat) (V V' : Vl) : Prop := ∀ e d, e < np → V e = some d → V' e = some d
theorem Vk.refl {np : Nat} (V : Vl) : Vk np V V := fun _ _ _ h => h
theorem Vk.trans {np : Nat} {a b c : Vl} (h : Vk np a b) (k : Vk np b c) : Vk np a c := fun e d he hd => k e d he (h e d he hd)
theorem Vk.of_le {np : Nat} {a b : Vl} (h : a.le b) : Vk np a b := fun e d _ hd => h e d hd

theorem renM_vk {σ : Mt} {np : Nat} {V : Vl} (h : (upto np).all (fun e => (match σ.lookup e with | some (some e') => e' == e | _ => false)) = true) : Vk np V (renM σ V) := by
  intro e d he hd
  have := List.all_eq_true.1 h e (List.mem_of_getElem? (upto_get he))
  split at this
  · rename_i e' h1
    simp only [beq_iff_eq] at this
    subst this
    simp only [renM, h1]; exact hd
  · cases this

theorem Sat.seen {B : Bs} {w : World} {Z : Zs} {V : Vl} {st st' : St} {a : Act} {np : Nat} (hs : Sat B Z V st a w) (h : leq np st st') : ∃ V', Vk np V V' ∧ Sat B Z V' st' a w := by
  unfold Vx.leq at h
  generalize mkMt np st.ents st'.ents (pairsSlots st.slots st'.slots) = σ at h
  obtain ⟨hchk, hnt, hsl, hel⟩ := h
  simp only [Bool.and_eq_true] at hchk
  obtain ⟨⟨hinj, hlt⟩, hself⟩ := hchk
  have which : ∀ e y, st'.ents.lookup e = some y → (∃ e' x d, σ.lookup e = some (some e') ∧ st.ents.lookup e' = some x ∧ V e' = some d ∧ renM σ V e = some d ∧ y.ok Z w (renM σ V) d ∧ y.blk d = x.blk d ∧ (∀ k, y.blk d = some k → (B.F k ∨ B.w0.heap.size ≤ k) ∧ Z k = none)) ∨
      (renM σ V e = some ⟨0, none, 0⟩ ∧ ∃ t ks, y = .own t ks []) := by
    intro e y hy
    rcases seesEnts_mem hel (lookup_mem' hy) with ⟨e', x, h1, h2, h3⟩ | ⟨h1, h2⟩
    · obtain ⟨d, g1, g2, g3⟩ := hs.ents e' x h2
      obtain ⟨q1, q2⟩ := seesE_ok h3 g2
      exact .inl ⟨e', x, d, h1, h2, g1, by simp only [renM, h1]; exact g1, q1, q2, fun k hk => g3 k (q2 ▸ hk)⟩
    · exact .inr ⟨by simp only [renM, h1], h2⟩
  refine ⟨renM σ V, renM_vk hself, ⟨fun e y hy => ?_, fun e e' y y' d d' k hne h1 h2 h3 h4 h5 h6 => ?_, hs.frz, hs.frame, hs.zn, hs.zl⟩, hs.defers, hs.size.trans hnt.symm, fun t g y hy hg => ?_, fun t g y hy hg => ?_, fun e he => ?_⟩
  · rcases which e y hy with ⟨e', x, d, h1, h2, h3, h4, h5, h6, h7⟩ | ⟨h1, t, ks, rfl⟩
    · exact ⟨d, h4, h5, h7⟩
    · exact ⟨_, h1, ⟨(fun r hr => by cases hr), [], .nil, World.ownsRow_nil _ _ _ _⟩, fun k hk => by simp [Ent.blk] at hk⟩
  · rcases which e y h1 with ⟨e1, x, d1, a1, a2, a3, a4, a5, a6, a7⟩ | ⟨a1, t, ks, rfl⟩
    · rcases which e' y' h2 with ⟨e1', x', d1', b1, b2, b3, b4, b5, b6, b7⟩ | ⟨b1, t, ks, rfl⟩
      · rw [a4] at h3
        rw [b4] at h4
        obtain rfl := Option.some.inj h3
        obtain rfl := Option.some.inj h4
        refine hs.apart e1 e1' x x' d1 d1' k (fun he => ?_) a2 b2 a3 b3 (a6 ▸ h5) (b6 ▸ h6)
        subst he
        exact hne (injM_spec hinj (lookup_mem' a1) (lookup_mem' b1))
      · rw [b1] at h4
        obtain rfl := Option.some.inj h4
        simp [Ent.blk] at h6
    · rw [a1] at h3
      obtain rfl := Option.some.inj h3
      simp [Ent.blk] at h5
  · obtain ⟨x, h1, h2⟩ := seesSlots_get hsl hy
    obtain ⟨v, k1, k2⟩ := hs.slots t g x h1 hg
    exact ⟨v, seesS_ok h2 k1, k2⟩
  · obtain ⟨x, h1, _⟩ := seesSlots_get hsl hy
    exact hs.off t g x h1 hg
  · have : σ.lookup e = none := by
      cases hl : σ.lookup e with
      | none => rfl
      | some y =>
        have := (List.all_eq_true.1 hlt) _ (lookup_mem' hl)
        have := of_decide_eq_true this
        simp only at this
        omega
    simp only [renM, this]

end Go.Vx

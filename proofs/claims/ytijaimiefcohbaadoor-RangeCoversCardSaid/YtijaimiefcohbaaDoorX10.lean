import Derived.Test.YtijaimiefcohbaaDoorX9
set_option linter.unusedSimpArgs false
set_option linter.unusedVariables false
set_option linter.constructorNameAsVariable false
namespace Go.Vx
open Go Go.RowKit

/-- numbers are turned: what was meant is meant -/
def Fwd (σ : List (Nat × Nat)) (V V' : Vl) : Prop := ∀ e e' d, σ.lookup e = some e' → V e = some d → V' e' = some d

mutual
theorem Cel.ok_fwd {σ : List (Nat × Nat)} {Z : Zs} {V V' : Vl} (hf : Fwd σ V V') : ∀ {c c' : Cel} {v : Value}, c.ren σ = some c' → CelOk Z V v c → CelOk Z V' v c'
  | .p x, c', v, h, k => by simp only [Cel.ren, Option.some.injEq] at h; subst h; cases k; exact .p (by assumption)
  | .ptr e j, c', v, h, k => by
    simp only [Cel.ren, Option.map_eq_some_iff] at h; obtain ⟨e', h1, rfl⟩ := h
    cases k with | ptr k => exact .ptr (hf _ _ _ h1 k)
  | .elt e sz i j, c', v, h, k => by
    simp only [Cel.ren, Option.map_eq_some_iff] at h; obtain ⟨e', h1, rfl⟩ := h
    cases k with | elt k k2 => exact .elt (hf _ _ _ h1 k) k2
  | .hdr e n, c', v, h, k => by
    simp only [Cel.ren, Option.map_eq_some_iff] at h; obtain ⟨e', h1, rfl⟩ := h
    cases k with | hdr k => exact .hdr (hf _ _ _ h1 k)
  | .sub e sz off n, c', v, h, k => by
    simp only [Cel.ren, Option.map_eq_some_iff] at h; obtain ⟨e', h1, rfl⟩ := h
    cases k with | sub k k2 => exact .sub (hf _ _ _ h1 k) k2
  | .relt ks rows i j, c', v, h, k => by simp only [Cel.ren, Option.some.injEq] at h; subst h; cases k; exact .relt (by assumption) (by assumption) (by assumption)
  | .rptr cs j, c', v, h, k => by simp only [Cel.ren, Option.some.injEq] at h; subst h; cases k; exact .rptr (by assumption) (by assumption)
  | .fn f a b, c', v, h, k => by
    simp only [Cel.ren] at h
    split at h
    · rename_i a' b' h1 h2
      obtain rfl := Option.some.inj h
      cases k with | fn k1 k2 => exact .fn (cas_fwd hf h1 k1) (cas_fwd hf h2 k2)
    · cases h
  | .g cs, c', v, h, k => by cases k
theorem cas_fwd {σ : List (Nat × Nat)} {Z : Zs} {V V' : Vl} (hf : Fwd σ V V') : ∀ {cs cs' : List Cel} {vs : List Value}, rens σ cs = some cs' → CasOk Z V vs cs → CasOk Z V' vs cs'
  | [], cs', vs, h, k => by
    simp only [rens, Option.some.injEq] at h; subst h
    cases k; exact .nil
  | c :: cs, cs', vs, h, k => by
    simp only [rens] at h
    split at h
    · rename_i c1 cs1 h1 h2
      obtain rfl := Option.some.inj h
      cases k with
      | cons k1 k2 => exact .cons (Cel.ok_fwd hf h1 k1) (cas_fwd hf h2 k2)
      | agg k1 k2 =>
        simp only [Cel.ren, Option.map_eq_some_iff] at h1
        obtain ⟨qs', h3, rfl⟩ := h1
        exact .agg (cels_fwd hf h3 k1) (cas_fwd hf h2 k2)
    · cases h
theorem cels_fwd {σ : List (Nat × Nat)} {Z : Zs} {V V' : Vl} (hf : Fwd σ V V') : ∀ {cs cs' : List Cel} {vs : List Value}, rens σ cs = some cs' → CelsOk Z V vs cs → CelsOk Z V' vs cs'
  | [], cs', vs, h, k => by
    simp only [rens, Option.some.injEq] at h; subst h
    cases k; exact .nil
  | c :: cs, cs', vs, h, k => by
    simp only [rens] at h
    split at h
    · rename_i c1 cs1 h1 h2
      obtain rfl := Option.some.inj h
      cases k with | cons k1 k2 => exact .cons (Cel.ok_fwd hf h1 k1) (cels_fwd hf h2 k2)
    · cases h
end

theorem AV.ok_fwd {σ : List (Nat × Nat)} {Z : Zs} {V V' : Vl} (hf : Fwd σ V V') {x x' : AV} {v : Value} (h : x.ren σ = some x') (k : AVOk Z V v x) : AVOk Z V' v x' := by
  cases x with
  | c y =>
    simp only [AV.ren, Option.map_eq_some_iff] at h; obtain ⟨y', h1, rfl⟩ := h
    cases k with | c k => exact .c (Cel.ok_fwd hf h1 k)
  | agg cs =>
    simp only [AV.ren, Option.map_eq_some_iff] at h; obtain ⟨y', h1, rfl⟩ := h
    cases k with | agg k => exact .agg (cels_fwd hf h1 k)

theorem avs_fwd {σ : List (Nat × Nat)} {Z : Zs} {V V' : Vl} (hf : Fwd σ V V') : ∀ {xs xs' : List AV} {vs : List Value}, renA σ xs = some xs' → AVsOk Z V vs xs → AVsOk Z V' vs xs'
  | [], xs', vs, h, k => by
    simp only [renA, Option.some.injEq] at h; subst h
    cases k; exact .nil
  | x :: xs, xs', vs, h, k => by
    simp only [renA] at h
    split at h
    · rename_i x1 xs1 h1 h2
      obtain rfl := Option.some.inj h
      cases k with | cons k1 k2 => exact .cons (AV.ok_fwd hf h1 k1) (avs_fwd hf h2 k2)
    · cases h

theorem Ent.ok_fwd {σ : List (Nat × Nat)} {Z : Zs} {V V' : Vl} (hf : Fwd σ V V') {w : World} {d : VD} {x x' : Ent} (h : x.ren σ = some x') (k : x.ok Z w V d) : x'.ok Z w V' d ∧ x'.blk d = x.blk d := by
  cases x with
  | cells cs t =>
    simp only [Ent.ren, Option.map_eq_some_iff] at h
    obtain ⟨cs', h1, rfl⟩ := h
    obtain ⟨vs, k1, k2⟩ := k
    exact ⟨⟨vs, cels_fwd hf h1 k1, k2⟩, rfl⟩
  | own t ks rows => simp only [Ent.ren, Option.some.injEq] at h; subst h; exact ⟨k, rfl⟩

theorem lookup_mem' {α : Type} : ∀ {l : List (Nat × α)} {e : Nat} {x : α}, l.lookup e = some x → (e, x) ∈ l
  | [], e, x, h => by cases h
  | (e', x') :: l, e, x, h => by
    rw [List.lookup_cons] at h
    split at h
    · rename_i he
      simp only [beq_iff_eq] at he
      subst he
      obtain rfl := Option.some.inj h
      exact List.mem_cons_self
    · exact List.mem_cons_of_mem _ (lookup_mem' h)

theorem zipIdx_lookup {ids : List Nat} {e j : Nat} (h : ids.zipIdx.lookup e = some j) : ids[j]? = some e ∧ j < ids.length := by
  have := lookup_mem' h
  have h2 := List.mem_zipIdx_iff_getElem?.1 this
  simp only at h2
  exact ⟨h2, (List.getElem?_eq_some_iff.1 h2).1⟩

theorem renE_mem {σ : List (Nat × Nat)} : ∀ {l l' : List (Nat × Ent)} {j : Nat} {x : Ent}, renE σ l = some l' → (j, x) ∈ l' → ∃ e y, (e, y) ∈ l ∧ σ.lookup e = some j ∧ y.ren σ = some x
  | [], l', j, x, h, hm => by
    simp only [renE, Option.some.injEq] at h; subst h; cases hm
  | (e, y) :: l, l', j, x, h, hm => by
    simp only [renE] at h
    split at h
    · rename_i e' x' l2 h1 h2 h3
      obtain rfl := Option.some.inj h
      rcases List.mem_cons.1 hm with hm | hm
      · simp only [Prod.mk.injEq] at hm
        obtain ⟨rfl, rfl⟩ := hm
        exact ⟨e, y, List.mem_cons_self, h1, h2⟩
      · obtain ⟨e2, y2, g1, g2, g3⟩ := renE_mem h3 hm
        exact ⟨e2, y2, List.mem_cons_of_mem _ g1, g2, g3⟩
    · cases h

theorem fetch_mem {en : En} : ∀ {ids : List Nat} {l : List (Nat × Ent)} {e : Nat} {x : Ent}, fetch en ids = some l → (e, x) ∈ l → e ∈ ids ∧ en e = some x
  | [], l, e, x, h, hm => by
    simp only [fetch, Option.some.injEq] at h; subst h; cases hm
  | i :: ids, l, e, x, h, hm => by
    simp only [fetch] at h
    split at h
    · rename_i y r h1 h2
      obtain rfl := Option.some.inj h
      rcases List.mem_cons.1 hm with hm | hm
      · simp only [Prod.mk.injEq] at hm
        obtain ⟨rfl, rfl⟩ := hm
        exact ⟨List.mem_cons_self, h1⟩
      · obtain ⟨g1, g2⟩ := fetch_mem h2 hm
        exact ⟨List.mem_cons_of_mem _ g1, g2⟩
    · cases h

theorem fetch_all {en : En} : ∀ {ids : List Nat} {l : List (Nat × Ent)} {e : Nat}, fetch en ids = some l → e ∈ ids → ∃ x, en e = some x
  | [], l, e, h, hm => by cases hm
  | i :: ids, l, e, h, hm => by
    simp only [fetch] at h
    split at h
    · rename_i y r h1 h2
      rcases List.mem_cons.1 hm with rfl | hm
      · exact ⟨y, h1⟩
      · exact fetch_all h2 hm
    · cases h

theorem splitE_mem {τ : List (Nat × Nat)} {m : Nat} : ∀ {l p n : List (Nat × Ent)}, splitE τ m l = some (p, n) →
    ∀ e y, ((e, y) ∈ p ∨ (e, y) ∈ n) → ∃ j x, (j, x) ∈ l ∧ τ.lookup j = some e ∧ x.ren τ = some y
  | [], p, n, h, e, y, hm => by
    simp only [splitE, Option.some.injEq, Prod.mk.injEq] at h
    obtain ⟨rfl, rfl⟩ := h
    rcases hm with hm | hm <;> cases hm
  | (k, x) :: l, p, n, h, e, y, hm => by
    simp only [splitE] at h
    split at h
    · rename_i k' x' p' n' h1 h2 h3
      have ih := splitE_mem h3
      split at h
      · simp only [Option.some.injEq, Prod.mk.injEq] at h
        obtain ⟨rfl, rfl⟩ := h
        rcases hm with hm | hm
        · rcases List.mem_cons.1 hm with hm | hm
          · simp only [Prod.mk.injEq] at hm
            obtain ⟨rfl, rfl⟩ := hm
            exact ⟨k, x, List.mem_cons_self, h1, h2⟩
          · obtain ⟨j, z, g1, g2⟩ := ih e y (.inl hm)
            exact ⟨j, z, List.mem_cons_of_mem _ g1, g2⟩
        · obtain ⟨j, z, g1, g2⟩ := ih e y (.inr hm)
          exact ⟨j, z, List.mem_cons_of_mem _ g1, g2⟩
      · simp only [Option.some.injEq, Prod.mk.injEq] at h
        obtain ⟨rfl, rfl⟩ := h
        rcases hm with hm | hm
        · obtain ⟨j, z, g1, g2⟩ := ih e y (.inl hm)
          exact ⟨j, z, List.mem_cons_of_mem _ g1, g2⟩
        · rcases List.mem_cons.1 hm with hm | hm
          · simp only [Prod.mk.injEq] at hm
            obtain ⟨rfl, rfl⟩ := hm
            exact ⟨k, x, List.mem_cons_self, h1, h2⟩
          · obtain ⟨j, z, g1, g2⟩ := ih e y (.inr hm)
            exact ⟨j, z, List.mem_cons_of_mem _ g1, g2⟩
    · cases h

theorem putAll_lookup : ∀ {l es : List (Nat × Ent)} {e : Nat} {y : Ent}, (putAll l es).lookup e = some y → (e, y) ∈ l ∨ es.lookup e = some y
  | [], es, e, y, h => .inr h
  | (k, x) :: l, es, e, y, h => by
    simp only [putAll] at h
    rcases putAll_lookup h with h1 | h1
    · exact .inl (List.mem_cons_of_mem _ h1)
    · rw [lookup_setK] at h1
      split at h1
      · rename_i he
        subst he
        obtain rfl := Option.some.inj h1
        exact .inl List.mem_cons_self
      · exact .inr h1

theorem addEnts_spec : ∀ (xs : List Ent) (st : St), (addEnts st xs).next = st.next + xs.length ∧ (addEnts st xs).slots = st.slots ∧
    ∀ e y, (addEnts st xs).ents.lookup e = some y → (∃ i, e = st.next + i ∧ xs[i]? = some y) ∨ st.ents.lookup e = some y
  | [], st => ⟨rfl, rfl, fun _ _ h => .inr h⟩
  | x :: xs, st => by
    obtain ⟨h1, h2, h3⟩ := addEnts_spec xs { st with ents := setK st.next x st.ents, next := st.next + 1 }
    refine ⟨by simp only [addEnts, h1, List.length_cons]; omega, by simp only [addEnts, h2], fun e y h => ?_⟩
    simp only [addEnts] at h
    rcases h3 e y h with ⟨i, g1, g2⟩ | h
    · exact .inl ⟨i + 1, by simp only at g1; omega, by simpa using g2⟩
    · simp only [lookup_setK] at h
      split at h
      · rename_i he
        exact .inl ⟨0, by omega, by simpa using h⟩
      · exact .inr h

theorem upto_get : ∀ {n i : Nat}, i < n → (upto n)[i]? = some i
  | n + 1, i, h => by
    have hl : ∀ n, (upto n).length = n := fun n => by induction n with | zero => rfl | succ n ih => simp [upto, ih]
    simp only [upto]
    by_cases hi : i < n
    · rw [List.getElem?_append_left (by rw [hl]; exact hi)]; exact upto_get hi
    · have : i = n := by omega
      subst this
      rw [List.getElem?_append_right (by rw [hl]; exact Nat.le_refl _), hl]; simp
theorem upto_len (n : Nat) : (upto n).length = n := by induction n with | zero => rfl | succ n ih => simp [upto, ih]
theorem upto_mem {n i : Nat} (h : i ∈ upto n) : i < n := by
  obtain ⟨j, hj⟩ := List.mem_iff_getElem?.1 h
  have hjl := (List.getElem?_eq_some_iff.1 hj).1
  rw [upto_len] at hjl
  rw [upto_get hjl] at hj
  obtain rfl := Option.some.inj hj
  exact hjl

section
variable {P : Program} {cx : Cx} {B : Bs} {w w' : World} {Z Z' : Zs} {V : Vl} {st : St} {a : Act} {o : Oper} {K : Act → World → Prop} {Q : Exit → Act → World → Prop}

theorem toArgs_sound {O : Th} (hs : EnvOk B Z V st.ents w) (hzz : Z.le Z') : ∀ {md : List Bool} {xs ys : List AV} {args : List Value} {c : Prop} {tmp : List Nat}, AVsOk Z V args xs → toArgs O (fun e => st.ents.lookup e) md xs = some (c, tmp, ys) → c → ZHas st.ents V w Z' tmp → AVsOk Z' V args ys
  | md, [], ys, args, c, tmp, hx, h, hc, hz => by
    have : toArgs O (fun e => st.ents.lookup e) md [] = some (True, [], []) := by cases md <;> rfl
    rw [this] at h
    simp only [Option.some.injEq, Prod.mk.injEq] at h
    obtain ⟨-, -, rfl⟩ := h
    cases hx; exact .nil
  | true :: md, x :: xs, ys, args, c, tmp, hx, h, hc, hz => by
    cases hx with | cons hx1 hx2 =>
    simp only [toArgs] at h
    split at h
    · rename_i c1 i1 ys1 h1
      simp only [Option.some.injEq, Prod.mk.injEq] at h
      obtain ⟨rfl, rfl, rfl⟩ := h
      exact .cons (hx1.mono hzz (Vl.le_refl V)) (toArgs_sound hs hzz hx2 h1 hc hz)
    · cases h
  | false :: md, x :: xs, ys, args, c, tmp, hx, h, hc, hz => by
    cases hx with | cons hx1 hx2 =>
    simp only [toArgs] at h
    split at h
    · rename_i c1 i1 y1 d1 j1 ys1 h1 h2
      simp only [Option.some.injEq, Prod.mk.injEq] at h
      obtain ⟨rfl, rfl, rfl⟩ := h
      exact .cons (frzA_sound hs hzz hx1 h1 hc.1 (hz.sub (fun e he => List.mem_append_left _ he)) V) (toArgs_sound hs hzz hx2 h2 hc.2 (hz.sub (fun e he => List.mem_append_right _ he)))
    · cases h
  | [], x :: xs, ys, args, c, tmp, hx, h, hc, hz => by
    cases hx with | cons hx1 hx2 =>
    simp only [toArgs] at h
    split at h
    · rename_i c1 i1 y1 d1 j1 ys1 h1 h2
      simp only [Option.some.injEq, Prod.mk.injEq] at h
      obtain ⟨rfl, rfl, rfl⟩ := h
      exact .cons (frzA_sound hs hzz hx1 h1 hc.1 (hz.sub (fun e he => List.mem_append_left _ he)) V) (toArgs_sound hs hzz hx2 h2 hc.2 (hz.sub (fun e he => List.mem_append_right _ he)))
    · cases h

theorem pack_ok {Z : Zs} {V : Vl} {rs : List AV} {vs : List Value} (h : AVsOk Z V vs rs) : SVOk Z V (pack vs) (packSV rs) := by
  cases h with
  | nil => exact .tup .nil
  | cons h1 h2 => cases h2 with
    | nil => exact .a h1
    | cons h3 h4 => exact .tup (.cons h1 (.cons h3 h4))

theorem Frz.lt {Z : Zs} (h : Frz Z w) {k : Nat} {cs : Array Value} (hk : Z k = some cs) : k < w.heap.size := by
  obtain ⟨t, fz, h1⟩ := h k cs hk
  exact (Array.getElem?_eq_some_iff.1 h1).1

theorem or_le {Z Zf : Zs} (h : ∀ k cs, Zf k = some cs → Z k = none) : Z.le (Z.or Zf) := by
  intro k cs hk
  unfold Zs.or
  cases hf : Zf k with
  | none => exact hk
  | some c => rw [h k c hf] at hk; cases hk
theorem or_ler {Z Zf : Zs} : Zf.le (Z.or Zf) := by
  intro k cs hk
  unfold Zs.or
  rw [hk]

theorem effCallA_sound (hcx : CxG P cx B) (hs : Sat B Z V st a w) (hd : ∀ d, o.dst = some d → d < st.nt) {f : FuncId} {args : List Value} {xs : List AV} (hargs : AVsOk Z V args xs) (hop : execOp a.eval o = callFunc f args.toArray)
    {E : Eff} (h : effCallA cx.O cx.con (fun e => st.ents.lookup e) st.next f xs = some E) (hc : E.c) : Sound P B Z V st a w o E := by
  unfold effCallA at h
  split at h
  case h_1 => cases h
  rename_i cn hcn
  dsimp only at h
  generalize reach (fun e => st.ents.lookup e) 60 (mutIds cn.md xs) [] = ids at h
  split at h
  case h_2 => cases h
  rename_i c tmp ys ents hta hfe
  split at h
  case isFalse => cases h
  rename_i hcond
  obtain ⟨htmp, hfr⟩ := hcond
  split at h
  case h_2 => cases h
  rename_i zs es hra hre
  split at h
  case h_2 => cases h
  rename_i c2 rs es2 hfn
  obtain ⟨n, hn⟩ : ∃ n, n = (es2.filter fun p => !decide (p.1 < ids.length)).length := ⟨_, rfl⟩
  rw [← hn] at h
  obtain ⟨τ, hτ⟩ : ∃ τ, τ = ids.zipIdx.map (fun p => (p.2, p.1)) ++ (upto n).map fun j => (ids.length + j, st.next + j) := ⟨_, rfl⟩
  rw [← hτ] at h
  split at h
  case h_2 => cases h
  rename_i rs' put new hrr hsp
  split at h
  case isFalse => cases h
  rename_i hcond2
  obtain ⟨hnew, hput, hm⟩ := hcond2
  obtain rfl := Option.some.inj h
  obtain ⟨hc1, hc2⟩ := hc
  have hnl : new.length = n := by
    have := congrArg List.length hnew
    simpa [upto_len] using this
  -- what the callee sees
  obtain ⟨Z', hZ'⟩ : ∃ Z', Z' = Z.plus w (isBlk st.ents V (· ∈ tmp)) := ⟨_, rfl⟩
  have hle : Z.le Z' := hZ' ▸ hs.toEnvOk.plus_le (· ∈ tmp)
  have hfz : Frz Z' w := hZ' ▸ hs.toEnvOk.plus_frz (· ∈ tmp)
  have hys := toArgs_sound hs.toEnvOk hle hargs hta hc1 (hZ' ▸ zhas_plus tmp)
  obtain ⟨Vl', hVl⟩ : ∃ V' : Vl, V' = fun j => if j < ids.length then (ids[j]?).bind V else none := ⟨_, rfl⟩
  have hσ : Fwd ids.zipIdx V Vl' := by
    intro e j d h1 h2
    obtain ⟨h3, h4⟩ := zipIdx_lookup h1
    rw [hVl]
    simp only [h4, if_true, h3, Option.bind_some, h2]
  have hzs := avs_fwd hσ hra hys
  -- an entity that is handed over, and the one that it is here
  have back : ∀ j x, (j, x) ∈ es → ∃ e y d, st.ents.lookup e = some y ∧ V e = some d ∧ ids.zipIdx.lookup e = some j ∧ y.ren ids.zipIdx = some x ∧ Vl' j = some d ∧ x.ok Z' w Vl' d ∧ x.blk d = y.blk d ∧ (∀ k, y.blk d = some k → (B.F k ∨ B.w0.heap.size ≤ k) ∧ Z k = none ∧ Z' k = none) := by
    intro j x hx
    obtain ⟨e, y, h1, h2, h3⟩ := renE_mem hre hx
    obtain ⟨h4, h5⟩ := fetch_mem hfe h1
    obtain ⟨d, g1, g2, g3⟩ := hs.ents e y h5
    obtain ⟨q1, q2⟩ := Ent.ok_fwd hσ h3 (Ent.ok_mono hle (Vl.le_refl V) g2)
    refine ⟨e, y, d, h5, g1, h2, h3, hσ e j d h2 g1, q1, q2, fun k hk => ⟨(g3 k hk).1, (g3 k hk).2, ?_⟩⟩
    rw [hZ']
    unfold Zs.plus
    rw [if_neg]
    · exact (g3 k hk).2
    · rintro ⟨e', y', d', r1, r2, r3, r4⟩
      have hne : e' ≠ e := by
        rintro rfl
        have := List.all_eq_true.1 htmp e' r1
        simp only [Bool.not_eq_true', List.contains_eq_mem, decide_eq_false_iff_not] at this
        exact this h4
      exact hs.apart e' e y' y d' d k hne r2 h5 r3 g1 r4 hk
  have henv : EnvOk (bsOf w Z' Vl' es) Z' Vl' es w := by
    refine ⟨fun j x hx => ?_, fun j j' x x' d d' k hne h1 h2 h3 h4 h5 h6 => ?_, hfz, ⟨rfl, rfl, rfl, Nat.le_refl _, fun _ _ _ => rfl⟩, fun k cs hk _ _ => hk, Zs.le_refl _⟩
    · obtain ⟨e, y, d, h1, h2, h3, h4, h5, h6, h7, h8⟩ := back j x (lookup_mem' hx)
      exact ⟨d, h5, h6, fun k hk => ⟨.inl ⟨j, x, d, trivial, hx, h5, hk⟩, (h8 k (h7 ▸ hk)).2.2⟩⟩
    · obtain ⟨e, y, d1, g1, g2, g3, g4, g5, g6, g7, g8⟩ := back j x (lookup_mem' h1)
      obtain ⟨e', y', d1', g1', g2', g3', g4', g5', g6', g7', g8'⟩ := back j' x' (lookup_mem' h2)
      rw [g5] at h3
      rw [g5'] at h4
      obtain rfl := Option.some.inj h3
      obtain rfl := Option.some.inj h4
      refine hs.apart e e' y y' d1 d1' k (fun he => ?_) g1 g1' g2 g2' (g7 ▸ h5) (g7' ▸ h6)
      subst he
      rw [g3] at g3'
      exact hne (Option.some.inj g3')
  have hkeys : ∀ e, es.length ≤ e → Vl' e = none := by
    intro e he
    rw [hVl]
    simp only
    rw [if_neg (by omega)]
  have hcall := hcx.con _ _ hcn w Z' Vl' es args zs (hcx.gl.mono (Zs.le_trans hs.zl hle)) henv hkeys hzs c2 rs es2 hfn hc2
  intro K Q g hg hK
  have fin : ∀ v w', (∃ vs, v = pack vs ∧ OutOk w Z' Vl' es cn.fr rs es2 vs w') → K (a.put o.dst v) w' := by
    rintro v w' ⟨vs, rfl, Zf, V', hZf, hfzf, hres, hents, hap, hframe, hVk⟩
    have hblk : ∀ k, isBlk es Vl' allI k → ∃ e y d, st.ents.lookup e = some y ∧ V e = some d ∧ y.blk d = some k ∧ e ∈ ids ∧ (B.F k ∨ B.w0.heap.size ≤ k) ∧ Z k = none ∧ Z' k = none := by
      rintro k ⟨j, x, d, _, h2, h3, h4⟩
      obtain ⟨e, y, d', g1, g2, g3, g4, g5, g6, g7, g8⟩ := back j x (lookup_mem' h2)
      rw [g5] at h3
      obtain rfl := Option.some.inj h3
      have g9 := g8 k (g7 ▸ h4)
      exact ⟨e, y, d', g1, g2, g7 ▸ h4, List.mem_of_getElem? (zipIdx_lookup g3).1, g9⟩
    have hZfn : ∀ k cs, Zf k = some cs → Z k = none := by
      intro k cs hk
      rcases hZf k cs hk with h | h
      · obtain ⟨_, _, _, _, _, _, _, _, h2, _⟩ := hblk k h; exact h2
      · cases hz : Z k with
        | none => rfl
        | some c => have := hs.frz.lt hz; omega
    have hz1 := or_le hZfn
    obtain ⟨Z1, hZ1⟩ : ∃ Z1, Z1 = (if cn.fr then Zf else Z'.or Zf) := ⟨_, rfl⟩
    rw [← hZ1] at hres hents
    have hz2 : Z1.le (Z.or Zf) := by
      rw [hZ1]
      split
      · exact or_ler
      · rename_i hfr'
        rcases hfr with hfr | hfr
        · have : Z' = Z := by
            rw [hZ']
            funext k
            unfold Zs.plus
            rw [if_neg]
            rintro ⟨e, y, d, h1, _⟩
            rw [hfr] at h1; cases h1
          rw [this]; exact Zs.le_refl _
        · exact absurd hfr hfr'
    obtain ⟨V2, hV2⟩ : ∃ V2 : Vl, V2 = fun e => if st.next ≤ e ∧ e < st.next + n then V' (ids.length + (e - st.next)) else V e := ⟨_, rfl⟩
    have hlt : ∀ e d, V e = some d → e < st.next := fun e d h => by
      rcases Nat.lt_or_ge e st.next with h1 | h1
      · exact h1
      · rw [hs.fresh e h1] at h; cases h
    have hv2 : V.le V2 := by
      intro e d h
      have := hlt e d h
      rw [hV2]
      simp only
      rw [if_neg (by omega)]; exact h
    have hτf : Fwd τ V' V2 := by
      intro j e d h1 h2
      have hmem := lookup_mem' h1
      rw [hτ] at hmem
      rcases List.mem_append.1 hmem with hmem | hmem
      · obtain ⟨⟨e', j'⟩, q1, q2⟩ := List.mem_map.1 hmem
        simp only [Prod.mk.injEq] at q2
        obtain ⟨rfl, rfl⟩ := q2
        have q3 := List.mem_zipIdx_iff_getElem?.1 q1
        simp only at q3
        have q4 := (List.getElem?_eq_some_iff.1 q3).1
        obtain ⟨x0, hx0⟩ := fetch_all hfe (List.mem_of_getElem? q3)
        obtain ⟨d0, g1, _⟩ := hs.ents e' x0 hx0
        have h3 := hVk j' d0 (by omega) (by rw [hVl]; simp only [q4, if_true, q3, Option.bind_some, g1])
        rw [h3] at h2
        obtain rfl := Option.some.inj h2
        exact hv2 _ _ g1
      · obtain ⟨i, q1, q2⟩ := List.mem_map.1 hmem
        simp only [Prod.mk.injEq] at q2
        obtain ⟨rfl, rfl⟩ := q2
        have := upto_mem q1
        rw [hV2]
        simp only
        rw [if_pos (by omega), Nat.add_sub_cancel_left]; exact h2
    have hres' : AVsOk (Z.or Zf) V2 vs rs' := avs_fwd hτf hrr (hres.mono hz2 (Vl.le_refl V'))
    -- the entities behind the call
    have hold : ∀ e y d k, st.ents.lookup e = some y → V e = some d → e ∉ ids → y.blk d = some k → k < w.heap.size ∧ ¬ isBlk es Vl' allI k := by
      intro e y d k h1 h2 h3 h4
      obtain ⟨d', g1, g2, _⟩ := hs.ents e y h1
      rw [h2] at g1
      obtain rfl := Option.some.inj g1
      refine ⟨Ent.blk_lt g2 h4, fun hb => ?_⟩
      obtain ⟨e', y', d', q1, q2, q3, q4, _⟩ := hblk k hb
      exact hs.apart e e' y y' d d' k (fun he => h3 (he ▸ q4)) h1 q1 h2 q2 h4 q3
    have hwhich : ∀ e y, (addEnts { st with ents := putAll put (delAll ids st.ents) } (new.map (·.2))).ents.lookup e = some y →
        (∃ j x, (j, x) ∈ es2 ∧ τ.lookup j = some e ∧ x.ren τ = some y) ∨ (e ∉ ids ∧ st.ents.lookup e = some y) := by
      intro e y h
      rcases (addEnts_spec _ _).2.2 e y h with ⟨i, h1, h2⟩ | h
      · left
        simp only at h1
        rw [List.getElem?_map, Option.map_eq_some_iff] at h2
        obtain ⟨⟨e', y'⟩, h3, h4⟩ := h2
        simp only at h4
        subst h4
        have h5 : (new.map (·.1))[i]? = some e' := by rw [List.getElem?_map, h3]; rfl
        rw [hnew, List.getElem?_map, upto_get (by have := (List.getElem?_eq_some_iff.1 h3).1; omega)] at h5
        simp only [Option.map_some, Option.some.injEq] at h5
        have he : e' = e := by omega
        subst he
        obtain ⟨j, x, q1, q2, q3⟩ := splitE_mem hsp e' y' (.inr (List.mem_of_getElem? h3))
        exact ⟨j, x, q1, q2, q3⟩
      · simp only at h
        rcases putAll_lookup h with h | h
        · left
          obtain ⟨j, x, q1, q2, q3⟩ := splitE_mem hsp e y (.inl h)
          exact ⟨j, x, q1, q2, q3⟩
        · right
          rw [lookup_delAll] at h
          split at h
          · cases h
          · rename_i hc
            exact ⟨by simpa using hc, h⟩
    have hZn : ∀ k, (isBlk es Vl' allI k ∨ w.heap.size ≤ k) ∧ Zf k = none → (B.F k ∨ B.w0.heap.size ≤ k) ∧ (Z.or Zf) k = none := by
      rintro k ⟨h1 | h1, h2⟩
      · obtain ⟨_, _, _, _, _, _, _, q1, q2, _⟩ := hblk k h1
        refine ⟨q1, ?_⟩
        unfold Zs.or; rw [h2]; exact q2
      · refine ⟨.inr (Nat.le_trans hs.frame.size h1), ?_⟩
        unfold Zs.or; rw [h2]
        cases hz : Z k with
        | none => rfl
        | some c => have := hs.frz.lt hz; omega
    have henv' : EnvOk B (Z.or Zf) V2 (addEnts { st with ents := putAll put (delAll ids st.ents) } (new.map (·.2))).ents w' := by
      have hfrm : Fr B.F B.w0 w' := hs.frame.step hframe.os hframe.tape hframe.output hframe.size (fun k h1 h2 => hframe.keep k (Nat.lt_of_lt_of_le h1 hs.frame.size) (fun hb => by
        obtain ⟨_, _, _, _, _, _, _, q1, _⟩ := hblk k hb
        rcases q1 with q1 | q1
        · exact h2 q1
        · omega))
      refine ⟨fun e y hy => ?_, fun e e' y y' d d' k hne h1 h2 h3 h4 h5 h6 => ?_, fun k cs hk => ?_, hfrm, fun k cs hk hlt' hF => ?_, Zs.le_trans hs.zl hz1⟩
      · rcases hwhich e y hy with ⟨j, x, q1, q2, q3⟩ | ⟨q1, q2⟩
        · obtain ⟨d, r1, r2, r3⟩ := hents (j, x) q1
          obtain ⟨s1, s2⟩ := Ent.ok_fwd hτf q3 (Ent.ok_mono hz2 (Vl.le_refl V') r2)
          exact ⟨d, hτf j e d q2 r1, s1, fun k hk => hZn k (r3 k (s2 ▸ hk))⟩
        · obtain ⟨d, r1, r2, r3⟩ := hs.ents e y q2
          refine ⟨d, hv2 e d r1, Ent.ok_mono hz1 hv2 (Ent.ok_world r2 fun k hk => ?_), fun k hk => ⟨(r3 k hk).1, ?_⟩⟩
          · obtain ⟨t1, t2⟩ := hold e y d k q2 r1 q1 hk
            exact hframe.keep k t1 t2
          · obtain ⟨t1, t2⟩ := hold e y d k q2 r1 q1 hk
            unfold Zs.or
            cases hz : Zf k with
            | none => exact (r3 k hk).2
            | some c =>
              rcases hZf k c hz with h | h
              · exact absurd h t2
              · omega
      · rcases hwhich e y h1 with ⟨j, x, q1, q2, q3⟩ | ⟨q1, q2⟩ <;> rcases hwhich e' y' h2 with ⟨j', x', q1', q2', q3'⟩ | ⟨q1', q2'⟩
        · obtain ⟨d1, r1, r2, r3⟩ := hents (j, x) q1
          obtain ⟨d1', r1', r2', r3'⟩ := hents (j', x') q1'
          obtain ⟨s1, s2⟩ := Ent.ok_fwd hτf q3 r2
          obtain ⟨s1', s2'⟩ := Ent.ok_fwd hτf q3' r2'
          rw [hτf j e d1 q2 r1] at h3
          rw [hτf j' e' d1' q2' r1'] at h4
          obtain rfl := Option.some.inj h3
          obtain rfl := Option.some.inj h4
          exact hap _ q1 _ q1' d1 d1' k (fun hjj => by simp only at hjj; subst hjj; rw [q2] at q2'; exact hne (Option.some.inj q2')) r1 r1' (s2 ▸ h5) (s2' ▸ h6)
        · obtain ⟨d1, r1, r2, r3⟩ := hents (j, x) q1
          obtain ⟨s1, s2⟩ := Ent.ok_fwd hτf q3 r2
          rw [hτf j e d1 q2 r1] at h3
          obtain rfl := Option.some.inj h3
          obtain ⟨d1', r1', r2', r3'⟩ := hs.ents e' y' q2'
          rw [hv2 e' d1' r1'] at h4
          obtain rfl := Option.some.inj h4
          obtain ⟨t1, t2⟩ := hold e' y' d1' k q2' r1' q1' h6
          rcases (r3 k (s2 ▸ h5)).1 with h | h
          · exact t2 h
          · omega
        · obtain ⟨d1', r1', r2', r3'⟩ := hents (j', x') q1'
          obtain ⟨s1', s2'⟩ := Ent.ok_fwd hτf q3' r2'
          rw [hτf j' e' d1' q2' r1'] at h4
          obtain rfl := Option.some.inj h4
          obtain ⟨d1, r1, r2, r3⟩ := hs.ents e y q2
          rw [hv2 e d1 r1] at h3
          obtain rfl := Option.some.inj h3
          obtain ⟨t1, t2⟩ := hold e y d1 k q2 r1 q1 h5
          rcases (r3' k (s2' ▸ h6)).1 with h | h
          · exact t2 h
          · omega
        · obtain ⟨d1, r1, _⟩ := hs.ents e y q2
          obtain ⟨d1', r1', _⟩ := hs.ents e' y' q2'
          rw [hv2 e d1 r1] at h3
          rw [hv2 e' d1' r1'] at h4
          obtain rfl := Option.some.inj h3
          obtain rfl := Option.some.inj h4
          exact hs.apart e e' y y' d1 d1' k hne q2 q2' r1 r1' h5 h6
      · unfold Zs.or at hk
        split at hk
        · rename_i c hz
          obtain rfl := Option.some.inj hk
          exact hfzf k c hz
        · obtain ⟨t, fz, h1⟩ := hs.frz k cs hk
          have hlt2 := (Array.getElem?_eq_some_iff.1 h1).1
          exact ⟨t, fz, by rw [hframe.keep k hlt2 (fun hb => by
            obtain ⟨_, _, _, _, _, _, _, _, q2, _⟩ := hblk k hb
            rw [q2] at hk; cases hk)]; exact h1⟩
      · unfold Zs.or at hk
        split at hk
        · rename_i c hz
          rcases hZf k c hz with h | h
          · obtain ⟨_, _, _, _, _, _, _, q1, _⟩ := hblk k h
            rcases q1 with q1 | q1
            · exact absurd q1 hF
            · omega
          · have := hs.frame.size; omega
        · exact hs.zn k cs hk hlt' hF
    have hnx := (addEnts_spec (new.map (·.2)) { st with ents := putAll put (delAll ids st.ents) }).1
    simp only [List.length_map] at hnx
    have hsat : Sat B (Z.or Zf) V2 { st with ents := (addEnts { st with ents := putAll put (delAll ids st.ents) } (new.map (·.2))).ents, next := (addEnts { st with ents := putAll put (delAll ids st.ents) } (new.map (·.2))).next } a w' :=
      hs.mem hz1 hv2 _ _ henv' (fun e he => by
        rw [hnx, hnl] at he
        rw [hV2]
        simp only
        rw [if_neg (by omega)]
        exact hs.fresh e (by omega))
    have hea : Sat B (Z.or Zf) V2 (st.ea (eaOf ids put new)) a w' := by
      unfold eaOf
      split
      · -- nothing new, nothing handed over
        have hp0 : put = [] := by
          cases put with
          | nil => rfl
          | cons p l => simp at hput
        subst hp0
        refine hsat.ents_eq rfl (fun e => ?_) rfl rfl
        simp only [St.ea, List.map_nil, addEnts, putAll, lookup_delAll]
        simp
      · have hp0 : put = [] := by
          cases put with
          | nil => rfl
          | cons p l => simp at hput
        subst hp0
        have hdel : delAll [] st.ents = st.ents := by
          unfold delAll
          simp
        simp only [putAll, hdel] at hsat
        refine hsat.ents_eq ?_ (fun e => rfl) rfl ?_
        · exact ((addEnts_spec (new.map (·.2)) st).2.1)
        · exact addEnts_nt _ _
      · refine hsat.ents_eq ?_ (fun e => rfl) rfl ?_
        · exact ((addEnts_spec (new.map (·.2)) _).2.1)
        · exact addEnts_nt _ _
    refine hK _ _ _ _ hz1 hv2 ?_
    unfold St.app
    exact hea.put o.dst g _ _ (fun d h => by rw [St.ea_nt]; exact hd d h) (fun s h _ => by
      obtain rfl := Option.some.inj h
      exact pack_ok hres') (fun s _ h => by rw [hg] at h; cases h)
  rcases hcall with ⟨hrun, hcalls⟩ | ⟨v, w', hrun, hR⟩
  · unfold Oper.wp
    rw [hop, hrun]
    refine Calls.mono hcalls fun e w' he => ?_
    obtain ⟨v, rfl, hR⟩ := he
    exact fin v w' hR
  · exact wp_value (by rw [hop, hrun]) (fin v w' hR)

end
end Go.Vx

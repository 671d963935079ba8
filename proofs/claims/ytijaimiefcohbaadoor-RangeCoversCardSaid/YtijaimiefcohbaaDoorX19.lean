import Derived.Test.YtijaimiefcohbaaDoorX18
import Derived.Calls
set_option linter.unusedSimpArgs false
set_option linter.unusedVariables false
set_option linter.constructorNameAsVariable false
namespace Go.Vx
open Go Go.RowKit

/-! ### code -/
inductive Ex where
  | n | x (id : Nat) | g (l : Nat) | r

def Ex.to : Ex → Exit
  | .n => .normal
  | .x id => .exit id
  | .g l => .goto l
  | .r => .ret

def vcR (cx : Cx) (ops : Array Oper) (draw : Bool) (st : St) (k : St → Prop) : Prop :=
  match draw with
  | false => vcOps cx ops.toList ops.toList st k
  | true => vcDrawn cx ops st k

/-- how a loop is shown to end well: states by an index, a measure -/
def LoopVc (np : Nat) (st : St) (body : St → (Ex → St → Prop) → Prop) (Q : Ex → St → Prop) : Prop :=
  ∃ (ι : Type) (inv : ι → St) (μ : ι → Nat) (i : ι), leq np st (inv i) ∧
      ∀ i, body (inv i) fun e st' => match e with | .n => ∃ j, μ j < μ i ∧ leq np st' (inv j) | e => Q e st'

def vc (cx : Cx) (np : Nat) : Code → St → (Ex → St → Prop) → Prop
  | .skip, st, Q => Q .n st
  | .region _ ops draw, st, Q => vcR cx ops draw st (Q .n)
  | .seq x y, st, Q => vc cx np x st fun e st' => match e with | .n => vc cx np y st' Q | e => Q e st'
  | .cond c x y, st, Q => match st.ov c with
    | some (g, .a (.c (.p (.b t)))) => g = true ∧ (if t = true then vc cx np x st Q else vc cx np y st Q)
    | _ => False
  | .block id x, st, Q => vc cx np x st fun e st' => match e with | .x id' => if id' = id then Q .n st' else Q (.x id') st' | e => Q e st'
  | .loop x, st, Q => LoopVc np st (vc cx np x) Q
  | .exit id, st, Q => Q (.x id) st
  | .scope x, st, Q => vc cx np x st fun e st' => match e with | .g _ => False | e => Q e st'
  | .label _, st, Q => Q .n st
  | .goto l, st, Q => Q (.g l) st
  | .ret, st, Q => Q .r st
  | _, _, _ => False

section
variable {P : Program} {cx : Cx} {B : Bs} {np : Nat}

/-- what a piece of code ends in -/
def Post (B : Bs) (np : Nat) (Z : Zs) (V : Vl) (Q : Ex → St → Prop) (e : Exit) (a : Act) (w : World) : Prop :=
  ∃ ex Z' V' st', e = ex.to ∧ Z.le Z' ∧ Vk np V V' ∧ Q ex st' ∧ Sat B Z' V' st' a w

theorem Post.mono {Z Z' : Zs} {V V' : Vl} {Q : Ex → St → Prop} {e : Exit} {a : Act} {w : World} (hz : Z.le Z') (h : Vk np V V') (k : Post B np Z' V' Q e a w) : Post B np Z V Q e a w := by
  obtain ⟨ex, Z2, V2, st', h1, hz2, h2, h3, h4⟩ := k
  exact ⟨ex, Z2, V2, st', h1, Zs.le_trans hz hz2, h.trans h2, h3, h4⟩

theorem vcR_sound (hcx : CxG P cx B) (hm : P.follows .mixedOrders = true) {id : Nat} {ops : Array Oper} {draw : Bool} {st : St} {Z : Zs} {V : Vl} {a : Act} {w : World} {k : St → Prop} {Q : Exit → Act → World → Prop} (hs : Sat B Z V st a w) (h : vcR cx ops draw st k)
    (hQ : ∀ Z' V' st' a' w', Z.le Z' → V.le V' → k st' → Sat B Z' V' st' a' w' → Q .normal a' w') : (Code.region id ops draw).wp P Q a w := by
  cases draw with
  | false => exact region_sound hcx hs h hQ
  | true => exact drawn_sound hcx hm hs h hQ

theorem loop_sound {st : St} {Z : Zs} {V : Vl} {a : Act} {w : World} {Q : Ex → St → Prop} {x : Code} {body : St → (Ex → St → Prop) → Prop}
    (hb : ∀ (st : St) (Z : Zs) (V : Vl) (a : Act) (w : World) (Q : Ex → St → Prop), Sat B Z V st a w → body st Q → x.wp P (Post B np Z V Q) a w)
    (hs : Sat B Z V st a w) (h : LoopVc np st body Q) : (Code.loop x).wp P (Post B np Z V Q) a w := by
  obtain ⟨ι, inv, μ, i, hl, hr⟩ := h
  obtain ⟨V1, hk1, hs1⟩ := hs.seen hl
  have key : ∀ n i Z1 V1 a w, μ i = n → Z.le Z1 → Vk np V V1 → Sat B Z1 V1 (inv i) a w → ∀ (b : Frame) (k : List Item) (cs : List Frame),
      ∃ e a' w', Post B np Z V Q e a' w' ∧ Arrives P (lone (b.at a (.code x :: .inLoop x :: k)) cs w) b k cs e a' w' := by
    intro n
    induction n using Nat.strongRecOn with
    | _ n ih =>
      intro i Z1 V1 a w hn hz hk hs b k cs
      obtain ⟨e, a₁, w₁, hq, harr⟩ := hb (inv i) Z1 V1 a w _ hs (hr i) b (.inLoop x :: k) cs
      obtain ⟨ex, Z2, V2, st2, rfl, hz2, hk2, hq2, hs2⟩ := hq
      have hz12 := Zs.le_trans hz hz2
      cases ex with
      | n =>
        obtain ⟨j, hj, hl2⟩ := hq2
        obtain ⟨V3, hk3, hs3⟩ := hs2.seen hl2
        obtain ⟨e₂, a₂, w₂, hq₂, harr₂⟩ := ih (μ j) (hn ▸ hj) j Z2 V3 a₁ w₁ rfl hz12 ((hk.trans hk2).trans hk3) hs3 b k cs
        exact ⟨e₂, a₂, w₂, hq₂, .of_steps (Steps.trans harr (.one step_inLoop)) harr₂⟩
      | x id => exact ⟨_, a₁, w₁, ⟨.x id, Z2, V2, st2, rfl, hz12, hk.trans hk2, hq2, hs2⟩, .pass (x := .inLoop x) rfl (fun _ _ => .inl (by simp [Ex.to])) harr⟩
      | g l => exact ⟨_, a₁, w₁, ⟨.g l, Z2, V2, st2, rfl, hz12, hk.trans hk2, hq2, hs2⟩, .pass (x := .inLoop x) rfl (fun _ _ => .inl (by simp [Ex.to])) harr⟩
      | r => exact ⟨_, a₁, w₁, ⟨.r, Z2, V2, st2, rfl, hz12, hk.trans hk2, hq2, hs2⟩, .pass (x := .inLoop x) rfl (fun _ _ => .inl (by simp [Ex.to])) harr⟩
  intro b k cs
  obtain ⟨e, a', w', hq, harr⟩ := key _ i Z V1 a w rfl (Zs.le_refl Z) hk1 hs1 b k cs
  exact ⟨e, a', w', hq, .of_steps (.one step_loop) harr⟩

theorem vc_sound (hcx : CxG P cx B) (hm : P.follows .mixedOrders = true) : ∀ (c : Code) (st : St) (Z : Zs) (V : Vl) (a : Act) (w : World) (Q : Ex → St → Prop), Sat B Z V st a w → vc cx np c st Q → c.wp P (Post B np Z V Q) a w
  | .skip, st, Z, V, a, w, Q, hs, h => wp_skip ⟨.n, Z, V, st, rfl, Zs.le_refl Z, .refl V, h, hs⟩
  | .region id ops draw, st, Z, V, a, w, Q, hs, h => vcR_sound hcx hm hs h fun Z' V' st' a' w' hz hle hk hs' => ⟨.n, Z', V', st', rfl, hz, .of_le hle, hk, hs'⟩
  | .seq x y, st, Z, V, a, w, Q, hs, h => by
    refine wp_seq (wp_mono (vc_sound hcx hm x st Z V a w _ hs h) ?_)
    rintro e a' w' ⟨ex, Z', V', st', rfl, hz, hk, hq, hs'⟩
    cases ex with
    | n => exact wp_mono (vc_sound hcx hm y st' Z' V' a' w' Q hs' hq) fun e a w h => Post.mono hz hk h
    | x id => exact ⟨.x id, Z', V', st', rfl, hz, hk, hq, hs'⟩
    | g l => exact ⟨.g l, Z', V', st', rfl, hz, hk, hq, hs'⟩
    | r => exact ⟨.r, Z', V', st', rfl, hz, hk, hq, hs'⟩
  | .cond c x y, st, Z, V, a, w, Q, hs, h => by
    simp only [vc] at h
    split at h
    · rename_i g t hc
      obtain ⟨hg, h⟩ := h
      obtain ⟨v, h1, h2⟩ := hs.ov hc hg
      cases h1; rename_i h1; cases h1; rename_i h1; cases h1; rename_i h1; cases h1
      refine wp_cond h2 ?_
      cases t with
      | true => exact vc_sound hcx hm x st Z V a w Q hs (by simpa using h)
      | false => exact vc_sound hcx hm y st Z V a w Q hs (by simpa using h)
    · exact h.elim
  | .block id x, st, Z, V, a, w, Q, hs, h => by
    refine wp_block (wp_mono (vc_sound hcx hm x st Z V a w _ hs h) ?_)
    rintro e a' w' ⟨ex, Z', V', st', rfl, hz, hk, hq, hs'⟩
    cases ex with
    | n => exact ⟨.n, Z', V', st', rfl, hz, hk, hq, hs'⟩
    | x id' =>
      simp only [Ex.to, Exit.inBlock] at hq ⊢
      split
      · rename_i hid
        rw [if_pos hid] at hq
        exact ⟨.n, Z', V', st', rfl, hz, hk, hq, hs'⟩
      · rename_i hid
        rw [if_neg hid] at hq
        exact ⟨.x id', Z', V', st', rfl, hz, hk, hq, hs'⟩
    | g l => exact ⟨.g l, Z', V', st', rfl, hz, hk, hq, hs'⟩
    | r => exact ⟨.r, Z', V', st', rfl, hz, hk, hq, hs'⟩
  | .loop x, st, Z, V, a, w, Q, hs, h => loop_sound (fun st Z V a w Q hs h => vc_sound hcx hm x st Z V a w Q hs h) hs h
  | .exit id, st, Z, V, a, w, Q, hs, h => wp_exit ⟨.x id, Z, V, st, rfl, Zs.le_refl Z, .refl V, h, hs⟩
  | .scope x, st, Z, V, a, w, Q, hs, h => by
    refine wp_scope_straight (wp_mono (vc_sound hcx hm x st Z V a w _ hs h) ?_)
    rintro e a' w' ⟨ex, Z', V', st', rfl, hz, hk, hq, hs'⟩
    cases ex with
    | n => exact ⟨.n, Z', V', st', rfl, hz, hk, hq, hs'⟩
    | x id => exact ⟨.x id, Z', V', st', rfl, hz, hk, hq, hs'⟩
    | g l => exact hq.elim
    | r => exact ⟨.r, Z', V', st', rfl, hz, hk, hq, hs'⟩
  | .label l, st, Z, V, a, w, Q, hs, h => wp_label ⟨.n, Z, V, st, rfl, Zs.le_refl Z, .refl V, h, hs⟩
  | .goto l, st, Z, V, a, w, Q, hs, h => wp_goto ⟨.g l, Z, V, st, rfl, Zs.le_refl Z, .refl V, h, hs⟩
  | .ret, st, Z, V, a, w, Q, hs, h => wp_ret ⟨.r, Z, V, st, rfl, Zs.le_refl Z, .refl V, h, hs⟩
  | .rangeFunc _ _ _ _, st, Z, V, a, w, Q, hs, h => h.elim
  | .refuse _, st, Z, V, a, w, Q, hs, h => h.elim

end

/-! ### a function's end -/
def initSlots : Nat → List AV → List (Nat × Bool × SV)
  | _, [] => []
  | i, x :: xs => (i, true, .a x) :: initSlots (i + 1) xs

/-- a result's value -/
def resOf (cx : Cx) (st : St) : ResultVar → Option (Prop × AV)
  | .tmp t => rd st.ov (.tmp t)
  | .cell t T => match rd st.ov (.tmp t) with
    | some (c, x) => (opLoad cx.toTb (fun e => st.ents.lookup e) T x).map fun p => (c ∧ p.1, p.2)
    | none => none

def resAll (cx : Cx) (st : St) : List ResultVar → (List AV → Prop) → Prop
  | [], k => k []
  | r :: rs, k => match resOf cx st r with
    | some (c, v) => c ∧ resAll cx st rs fun vs => k (v :: vs)
    | none => False

/-- is it all out of new blocks, once it is frozen? -/
def freshK (ks : List Kd) : Bool := ks.all Kd.plain
mutual
def freshC (en : En) : Nat → Cel → Bool
  | _, .p x => x.flat
  | _, .hdr e _ => match en e with | some (.own _ ks _) => freshK ks | _ => false
  | _, .sub e _ _ _ => match en e with | some (.own _ ks _) => freshK ks | _ => false
  | m + 1, .ptr e _ => match en e with | some (.cells cs _) => freshL en m cs | _ => false
  | _, _ => false
def freshL (en : En) : Nat → List Cel → Bool
  | _, [] => true
  | m + 1, c :: cs => freshC en m c && freshL en m cs
  | 0, _ :: _ => false
end
/-- the same by any frozen blocks -/
def anyZ : Cel → Bool
  | .p x => x.flat
  | .ptr _ _ | .elt _ _ _ _ | .hdr _ _ | .sub _ _ _ _ => true
  | _ => false

def outC (O : Th) (en : En) (σ : Mt) (fr : Bool) (x y : Cel) : Option (Prop × List Nat) :=
  match y with
  | .p p => match frzC O en 40 x with
    | some (c, ids, p') => if !fr || freshC en 40 x then some (c ∧ plP p' p, ids) else none
    | none => none
  | y => if !fr || anyZ y then some (seesC σ x y, []) else none
def outL (O : Th) (en : En) (σ : Mt) (fr : Bool) : List Cel → List Cel → Option (Prop × List Nat)
  | [], [] => some (True, [])
  | x :: xs, y :: ys => match outC O en σ fr x y, outL O en σ fr xs ys with
    | some (c, i), some (d, j) => some (c ∧ d, i ++ j)
    | _, _ => none
  | _, _ => none
def outA (O : Th) (en : En) (σ : Mt) (fr : Bool) : AV → AV → Option (Prop × List Nat)
  | .c x, .c y => outC O en σ fr x y
  | .agg xs, .agg ys => outL O en σ fr xs ys
  | _, _ => none
def outAs (O : Th) (en : En) (σ : Mt) (fr : Bool) : List AV → List AV → Option (Prop × List Nat)
  | [], [] => some (True, [])
  | x :: xs, y :: ys => match outA O en σ fr x y, outAs O en σ fr xs ys with
    | some (c, i), some (d, j) => some (c ∧ d, i ++ j)
    | _, _ => none
  | _, _ => none

def outE : Ent → Bool
  | .cells cs _ => cs.all anyZ
  | .own _ ks _ => freshK ks

def endW (cx : Cx) (np : Nat) (fr : Bool) (st : St) (avs rs : List AV) (es2 : List (Nat × Ent)) (σ : Mt) : Prop :=
    match outAs cx.O (fun e => st.ents.lookup e) σ fr avs rs with
    | some (c, ids) => (injM σ && (upto np).all (fun e => (match σ.lookup e with | some (some e') => e' == e | _ => false)) && σ.all (fun p => match p.2 with | some e => !ids.contains e | none => true) && (!fr || es2.all fun p => outE p.2)) = true ∧ c ∧ seesEnts σ st.ents es2
    | none => False
def endOk (cx : Cx) (np : Nat) (fr : Bool) (st : St) (avs rs : List AV) (es2 : List (Nat × Ent)) : Prop := endW cx np fr st avs rs es2 (mkMt np st.ents es2 (pairsAs avs rs))

def vcEnd (cx : Cx) (np : Nat) (fr : Bool) (results : Array ResultVar) (rs : List AV) (es2 : List (Nat × Ent)) (e : Ex) (st : St) : Prop :=
  match e with
  | .n | .r => resAll cx st results.toList fun avs => endOk cx np fr st avs rs es2
  | _ => False

def vcFun (cx : Cx) (fn : Func) (body : Code) (fr : Bool) (xs : List AV) (es : List (Nat × Ent)) (rs : List AV) (es2 : List (Nat × Ent)) : Prop :=
  vc cx es.length body { slots := initSlots 0 xs, ents := es, next := es.length, nt := max xs.length fn.ntmps } (vcEnd cx es.length fr fn.results rs es2)

section
variable {P : Program} {cx : Cx} {B : Bs} {w : World} {Z Z' : Zs} {V : Vl} {st : St} {a : Act} {es : List (Nat × Ent)}

theorem initSlots_ok : ∀ {xs : List AV} {args : List Value} {i : Nat}, AVsOk Z V args xs → ∀ t g x, (initSlots i xs).lookup t = some (g, x) → g = true ∧ i ≤ t ∧ ∃ v, args[t - i]? = some v ∧ SVOk Z V v x
  | [], args, i, h, t, g, x, hx => by simp [initSlots] at hx
  | y :: xs, args, i, h, t, g, x, hx => by
    cases h with | cons h hs =>
    simp only [initSlots, List.lookup_cons] at hx
    split at hx
    · rename_i he
      simp only [beq_iff_eq] at he
      subst he
      simp only [Option.some.injEq, Prod.mk.injEq] at hx
      obtain ⟨rfl, rfl⟩ := hx
      exact ⟨rfl, Nat.le_refl _, _, by rw [Nat.sub_self]; rfl, .a h⟩
    · obtain ⟨q1, q2, u, q3, q4⟩ := initSlots_ok hs t g x hx
      refine ⟨q1, by omega, u, ?_, q4⟩
      rw [show t - i = (t - (i + 1)) + 1 from by omega]
      simpa using q3

theorem flat_any {v : Value} {p : Pl} (h : p.flat = true) (k : PlOk Z v p) : PlOk Z' v p := by
  cases k <;> first | (simp [Pl.flat] at h; done) | constructor
  assumption

theorem plain_any : ∀ {vs : List Value} {ps : List Pl}, (ps.map Pl.kd).all Kd.plain = true → PlsOk Z vs ps → PlsOk Z' vs ps
  | [], ps, h, k => by cases k; exact .nil
  | v :: vs, ps, h, k => by
    cases k with | cons k ks =>
    simp only [List.map_cons, List.all_cons, Bool.and_eq_true] at h
    refine .cons (flat_any ?_ k) (plain_any h.2 ks)
    cases k <;> first | rfl | (simp [Pl.kd, Kd.plain] at h)

theorem typed_plain {ks : List Kd} (h : freshK ks = true) : ∀ {rows : List (List Pl)}, typed ks rows → (rows.flatten.map Pl.kd).all Kd.plain = true
  | [], _ => rfl
  | r :: rows, ht => by
    simp only [List.flatten_cons, List.map_append, List.all_append, Bool.and_eq_true]
    refine ⟨?_, typed_plain h (fun r hr => ht r (List.mem_cons_of_mem _ hr))⟩
    rw [ht r List.mem_cons_self]; exact h

theorem anyZ_ok {v : Value} {x : Cel} (h : anyZ x = true) (k : CelOk Z V v x) : CelOk Z' V v x := by
  cases x <;> simp only [anyZ, Bool.false_eq_true] at h
  · cases k with | p k => exact .p (flat_any h k)
  · cases k with | ptr k => exact .ptr k
  · cases k with | elt k k2 => exact .elt k k2
  · cases k with | hdr k => exact .hdr k
  · cases k with | sub k k2 => exact .sub k k2

theorem anyZs_ok : ∀ {vs : List Value} {xs : List Cel}, xs.all anyZ = true → CelsOk Z V vs xs → CelsOk Z' V vs xs
  | _, _, _, .nil => .nil
  | _, _, h, .cons k ks => by
    simp only [List.all_cons, Bool.and_eq_true] at h
    exact .cons (anyZ_ok h.1 k) (anyZs_ok h.2 ks)

theorem outE_ok {x : Ent} {d : VD} (h : outE x = true) (k : x.ok Z w V d) : x.ok Z' w V d := by
  cases x with
  | cells cs t => obtain ⟨vs, k1, k2⟩ := k; exact ⟨vs, anyZs_ok h k1, k2⟩
  | own t ks rows => obtain ⟨k1, vs, k2, k3⟩ := k; exact ⟨k1, vs, plain_any (typed_plain h k1) k2, k3⟩

mutual
theorem frzC_fresh {O : Th} (hs : EnvOk B Z V es w) : ∀ {m : Nat} {x : Cel} {v : Value} {c : Prop} {ids : List Nat} {p : Pl}, freshC (fun e => es.lookup e) m x = true → CelOk Z V v x → frzC O (fun e => es.lookup e) m x = some (c, ids, p) → c → ZHas es V w Z' ids → PlOk Z' v p
  | m, .p x, v, c, ids, p, hf, hx, h, hc, hz => by
    have hf' : x.flat = true := by unfold freshC at hf; exact hf
    cases hx with | p hx =>
    unfold frzC at h
    split at h
    · simp only [Option.some.injEq, Prod.mk.injEq] at h
      obtain ⟨-, -, rfl⟩ := h
      cases hx
      exact .r0 _ _ _
    · simp only [Option.some.injEq, Prod.mk.injEq] at h
      obtain ⟨-, -, rfl⟩ := h
      exact flat_any hf' hx
  | m, .hdr e n, v, c, ids, p, hf, hx, h, hc, hz => by
    unfold frzC at h
    split at h
    · rename_i t ks rows he
      have hf' : freshK ks = true := by unfold freshC at hf; simp only [he] at hf; exact hf
      simp only [Option.some.injEq, Prod.mk.injEq] at h
      obtain ⟨rfl, rfl, rfl⟩ := h
      rw [O.eq] at hc
      rw [O.eq]
      cases hx with | hdr hV =>
      rename_i d
      obtain ⟨ht, hcap, vs, hv, hat⟩ := own_cellsAt hs he hV hz
      have hl : (rows.take n).length = n := by rw [List.length_take]; omega
      rcases Nat.eq_zero_or_pos n with h0 | h0
      · subst h0; simp only [List.take_zero]; exact .r0 _ _ _
      · obtain ⟨ad, had, hat⟩ := hat (by omega)
        rw [had]
        have := PlOk.r (Z := Z') (ad := ad) (cap := d.cap) (ks := ks) (rows := rows.take n) (vs := vs.take (n * ks.length)) (by omega) (typed_take n ht)
          (by rw [flatten_take n (typed_length ht)]; exact (plain_any (typed_plain hf' ht) hv).take _) (fun j u hj => hat j u (by rw [List.getElem?_take] at hj; split at hj; exact hj; cases hj))
        rw [hl] at this
        exact this
    · cases h
  | m, .sub e sz off n, v, c, ids, p, hf, hx, h, hc, hz => by
    unfold frzC at h
    split at h
    · rename_i t ks rows he
      have hf' : freshK ks = true := by unfold freshC at hf; simp only [he] at hf; exact hf
      split at h
      · rename_i hsz
        subst hsz
        simp only [Option.some.injEq, Prod.mk.injEq] at h
        obtain ⟨rfl, rfl, rfl⟩ := h
        rw [O.eq] at hc
        rw [O.eq]
        cases hx with | sub hV hA =>
        rename_i d A
        obtain ⟨ht, hcap, vs, hv, hat⟩ := own_cellsAt hs he hV hz
        have hl : ((rows.drop off).take n).length = n := by rw [List.length_take, List.length_drop]; omega
        rcases Nat.eq_zero_or_pos n with h0 | h0
        · subst h0; simp only [List.take_zero]; exact .r0 _ _ _
        · obtain ⟨ad, had, hat⟩ := hat (by omega)
          have hA' : A = some (ad.add (off * ks.length)) := by
            rcases hA with hA | hA
            · omega
            · rw [hA, had]; rfl
          rw [hA']
          have := PlOk.r (Z := Z') (ad := ad.add (off * ks.length)) (cap := d.cap - off) (ks := ks) (rows := (rows.drop off).take n) (vs := (vs.drop (off * ks.length)).take (n * ks.length)) (by omega) (typed_take n (typed_drop off ht))
            (by rw [flatten_take n (typed_length (typed_drop off ht)), flatten_drop off (typed_length ht)]; exact ((plain_any (typed_plain hf' ht) hv).drop _).take _) (fun j u hj => by
              rw [List.getElem?_take] at hj
              split at hj
              · rw [List.getElem?_drop] at hj
                rw [add_add]
                exact hat _ u hj
              · cases hj)
          rw [hl] at this
          exact this
      · cases h
    · cases h
  | 0, .ptr e k, v, c, ids, p, hf, hx, h, hc, hz => by simp [frzC] at h
  | m + 1, .ptr e k, v, c, ids, p, hf, hx, h, hc, hz => by
    unfold frzC at h
    split at h
    · rename_i cs t he
      have hf' : freshL (fun e => es.lookup e) m cs = true := by unfold freshC at hf; simp only [he] at hf; exact hf
      split at h
      · rename_i c' ids' ps hl
        simp only [Option.some.injEq, Prod.mk.injEq] at h
        obtain ⟨rfl, rfl, rfl⟩ := h
        cases hx with | ptr hV =>
        obtain ⟨vs, hv, hat⟩ := cells_cellsAt hs he hV (hz.sub (by simp))
        exact .q rfl (frzL_fresh hs hf' hv hl hc (hz.sub (fun e he => List.mem_cons_of_mem _ he))) hat
      · cases h
    · cases h
  | m, .fn f first caps, v, c, ids, p, hf, hx, h, hc, hz => by simp [freshC] at hf
  | m, .rptr cs k, v, c, ids, p, hf, hx, h, hc, hz => by simp [freshC] at hf
  | m, .elt _ _ _ _, v, c, ids, p, hf, hx, h, hc, hz => by simp [frzC] at h
  | m, .relt _ _ _ _, v, c, ids, p, hf, hx, h, hc, hz => by simp [frzC] at h
  | m, .g _, v, c, ids, p, hf, hx, h, hc, hz => by cases hx
theorem frzL_fresh {O : Th} (hs : EnvOk B Z V es w) : ∀ {m : Nat} {xs : List Cel} {vs : List Value} {c : Prop} {ids : List Nat} {ps : List Pl}, freshL (fun e => es.lookup e) m xs = true → CelsOk Z V vs xs → frzL O (fun e => es.lookup e) m xs = some (c, ids, ps) → c → ZHas es V w Z' ids → PlsOk Z' vs ps
  | m, [], vs, c, ids, ps, hf, hx, h, hc, hz => by
    unfold frzL at h
    simp only [Option.some.injEq, Prod.mk.injEq] at h
    obtain ⟨-, -, rfl⟩ := h
    cases hx
    exact .nil
  | 0, x :: xs, vs, c, ids, ps, hf, hx, h, hc, hz => by simp [frzL] at h
  | m + 1, x :: xs, vs, c, ids, ps, hf, hx, h, hc, hz => by
    unfold freshL at hf
    simp only [Bool.and_eq_true] at hf
    unfold frzL at h
    split at h
    · rename_i c1 ids1 p d1 jds1 qs h1 h2
      simp only [Option.some.injEq, Prod.mk.injEq] at h
      obtain ⟨rfl, rfl, rfl⟩ := h
      cases hx with | cons hx1 hx2 =>
      exact .cons (frzC_fresh hs hf.1 hx1 h1 hc.1 (hz.sub (fun e he => List.mem_append_left _ he))) (frzL_fresh hs hf.2 hx2 h2 hc.2 (hz.sub (fun e he => List.mem_append_right _ he)))
    · cases h
end

theorem outC_ok {O : Th} (hs : EnvOk B Z V es w) {σ : Mt} {fr : Bool} {x y : Cel} {v : Value} {c : Prop} {ids : List Nat} (h : outC O (fun e => es.lookup e) σ fr x y = some (c, ids)) (hc : c) (hle : fr = false → Z.le Z') (hz : ZHas es V w Z' ids) (hx : CelOk Z V v x) :
    CelOk Z' (renM σ V) v y := by
  unfold outC at h
  split at h
  · rename_i p
    split at h
    · rename_i c' i' p' h1
      split at h
      · rename_i hf
        simp only [Option.some.injEq, Prod.mk.injEq] at h
        obtain ⟨rfl, rfl⟩ := h
        refine .p (plP_ok hc.2 ?_)
        cases fr with
        | false => exact frzC_sound hs (hle rfl) hx h1 hc.1 hz
        | true =>
          have hf' : freshC (fun e => es.lookup e) 40 x = true := by simpa using hf
          exact frzC_fresh hs hf' hx h1 hc.1 hz
      · cases h
    · cases h
  · split at h
    · rename_i hf
      simp only [Option.some.injEq, Prod.mk.injEq] at h
      obtain ⟨rfl, rfl⟩ := h
      have := seesC_ok hc hx
      cases fr with
      | false => exact this.mono (hle rfl) (Vl.le_refl _)
      | true => exact anyZ_ok (by simpa using hf) this
    · cases h

theorem outL_ok {O : Th} (hs : EnvOk B Z V es w) {σ : Mt} {fr : Bool} (hle : fr = false → Z.le Z') : ∀ {xs ys : List Cel} {vs : List Value} {c : Prop} {ids : List Nat}, outL O (fun e => es.lookup e) σ fr xs ys = some (c, ids) → c → ZHas es V w Z' ids → CelsOk Z V vs xs →
    CelsOk Z' (renM σ V) vs ys
  | [], [], vs, c, ids, h, hc, hz, hx => by cases hx; exact .nil
  | x :: xs, y :: ys, vs, c, ids, h, hc, hz, hx => by
    simp only [outL] at h
    split at h
    · rename_i c1 i1 d1 j1 h1 h2
      simp only [Option.some.injEq, Prod.mk.injEq] at h
      obtain ⟨rfl, rfl⟩ := h
      cases hx with | cons k ks =>
      exact .cons (outC_ok hs h1 hc.1 hle (hz.sub (fun e he => List.mem_append_left _ he)) k) (outL_ok hs hle h2 hc.2 (hz.sub (fun e he => List.mem_append_right _ he)) ks)
    · cases h
  | [], _ :: _, vs, c, ids, h, hc, hz, hx => by simp [outL] at h
  | _ :: _, [], vs, c, ids, h, hc, hz, hx => by simp [outL] at h

theorem outA_ok {O : Th} (hs : EnvOk B Z V es w) {σ : Mt} {fr : Bool} (hle : fr = false → Z.le Z') {x y : AV} {v : Value} {c : Prop} {ids : List Nat} (h : outA O (fun e => es.lookup e) σ fr x y = some (c, ids)) (hc : c) (hz : ZHas es V w Z' ids) (hx : AVOk Z V v x) :
    AVOk Z' (renM σ V) v y := by
  cases hx with
  | c k => cases y with
    | c y => exact .c (outC_ok hs h hc hle hz k)
    | agg y => cases h
  | agg k => cases y with
    | c y => cases h
    | agg y => exact .agg (outL_ok hs hle h hc hz k)

theorem outAs_ok {O : Th} (hs : EnvOk B Z V es w) {σ : Mt} {fr : Bool} (hle : fr = false → Z.le Z') : ∀ {xs ys : List AV} {vs : List Value} {c : Prop} {ids : List Nat}, outAs O (fun e => es.lookup e) σ fr xs ys = some (c, ids) → c → ZHas es V w Z' ids → AVsOk Z V vs xs →
    AVsOk Z' (renM σ V) vs ys
  | [], [], vs, c, ids, h, hc, hz, hx => by cases hx; exact .nil
  | x :: xs, y :: ys, vs, c, ids, h, hc, hz, hx => by
    simp only [outAs] at h
    split at h
    · rename_i c1 i1 d1 j1 h1 h2
      simp only [Option.some.injEq, Prod.mk.injEq] at h
      obtain ⟨rfl, rfl⟩ := h
      cases hx with | cons k ks =>
      exact .cons (outA_ok hs hle h1 hc.1 (hz.sub (fun e he => List.mem_append_left _ he)) k) (outAs_ok hs hle h2 hc.2 (hz.sub (fun e he => List.mem_append_right _ he)) ks)
    · cases h
  | [], _ :: _, vs, c, ids, h, hc, hz, hx => by simp [outAs] at h
  | _ :: _, [], vs, c, ids, h, hc, hz, hx => by simp [outAs] at h

def resSem (a : Act) : ResultVar → Sem Value
  | .tmp t => pure (a.tmps.getD t undef)
  | .cell t T => do loadVar T (← asAddr (a.tmps.getD t undef))

theorem resOf_sound (htb : TbOk P cx.toTb) (hs : Sat B Z V st a w) {r : ResultVar} {c : Prop} {v : AV} (h : resOf cx st r = some (c, v)) (hc : c) :
    ∃ u, AVOk Z V u v ∧ (resSem a r).run P w = .ok u w := by
  cases r with
  | tmp t =>
    have h1 := rd_sound hs h hc
    exact ⟨_, h1, by simp only [resSem, Sem.run_pure]; rfl⟩
  | cell t T =>
    simp only [resOf] at h
    split at h
    · rename_i c1 x hx
      obtain ⟨⟨c2, v'⟩, h1, h2⟩ := Option.map_eq_some_iff.1 h
      simp only [Prod.mk.injEq] at h2
      obtain ⟨rfl, rfl⟩ := h2
      have k1 := rd_sound hs hx hc.1
      obtain ⟨q, q1, q2⟩ := opLoad_sound (P := P) htb hs.toEnvOk k1 h1 hc.2
      refine ⟨q, q1, ?_⟩
      have hev : a.tmps.getD t undef = a.eval (.tmp t) := rfl
      simp only [resSem, hev]
      rw [← q2]
      generalize a.eval (.tmp t) = u at *
      unfold opLoad at h1
      split at h1
      · cases k1; rename_i k1; cases k1; rfl
      · cases k1; rename_i k1; cases k1; rfl
      · cases k1; rename_i k1; cases k1; rfl
      · cases k1; rename_i k1; cases k1; rfl
      · cases h1
    · cases h

theorem resAll_sound (htb : TbOk P cx.toTb) (hs : Sat B Z V st a w) : ∀ (rs : List ResultVar) (k : List AV → Prop), resAll cx st rs k →
    ∃ avs vs, k avs ∧ AVsOk Z V vs avs ∧ (rs.mapM (resSem a)).run P w = .ok vs w
  | [], k, h => ⟨[], [], h, .nil, rfl⟩
  | r :: rs, k, h => by
    simp only [resAll] at h
    split at h
    · rename_i c v hr
      obtain ⟨u, h1, h2⟩ := resOf_sound htb hs hr h.1
      obtain ⟨avs, vs, k1, k2, k3⟩ := resAll_sound htb hs rs _ h.2
      refine ⟨v :: avs, u :: vs, k1, .cons h1 k2, ?_⟩
      simp only [List.mapM_cons, Sem.run_bind, h2, Result.andThen_ok, k3]
      rfl
    · exact h.elim

/-- the end of a call -/
theorem endOk_sound {w w' : World} {Z Zs' : Zs} {V Vs : Vl} {es : List (Nat × Ent)} {fr : Bool} {avs rs : List AV} {es2 : List (Nat × Ent)} {vs : List Value} (hs : Sat (bsOf w Z V es) Zs' Vs st a w') (hz : Z.le Zs') (hk : Vk es.length V Vs)
    (h : endOk cx es.length fr st avs rs es2) (hv : AVsOk Zs' Vs vs avs) : OutOk w Z V es fr rs es2 vs w' := by
  unfold endOk at h
  generalize mkMt es.length st.ents es2 (pairsAs avs rs) = σ at h
  unfold endW at h
  split at h
  case h_2 => exact h.elim
  rename_i c ids hout
  obtain ⟨hchk, hc, hel⟩ := h
  simp only [Bool.and_eq_true] at hchk
  obtain ⟨⟨⟨hinj, hself⟩, hdis⟩, hfre⟩ := hchk
  obtain ⟨Z2, hZ2⟩ : ∃ Z2, Z2 = Zs'.plus w' (isBlk st.ents Vs (· ∈ ids)) := ⟨_, rfl⟩
  have hle2 : Zs'.le Z2 := hZ2 ▸ hs.toEnvOk.plus_le (· ∈ ids)
  have hfz2 : Frz Z2 w' := hZ2 ▸ hs.toEnvOk.plus_frz (· ∈ ids)
  obtain ⟨Zf, hZf⟩ : ∃ Zf : Zs, Zf = fun k => open Classical in if fr then (if isBlk st.ents Vs (· ∈ ids) k then hcells w' k else none) else (match Z k with | none => Z2 k | some _ => none) := ⟨_, rfl⟩
  have hblkB : ∀ e y d k, st.ents.lookup e = some y → Vs e = some d → y.blk d = some k → (isBlk es V allI k ∨ w.heap.size ≤ k) ∧ Zs' k = none := by
    intro e y d k h1 h2 h3
    obtain ⟨d', g1, _, g3⟩ := hs.ents e y h1
    rw [h2] at g1
    obtain rfl := Option.some.inj g1
    exact g3 k h3
  have hfz : Frz Zf w' := by
    intro k cs hk'
    rw [hZf] at hk'
    simp only at hk'
    split at hk'
    · split at hk'
      · unfold hcells at hk'
        split at hk'
        · rename_i c t fz h
          obtain rfl := Option.some.inj hk'
          exact ⟨t, fz, h⟩
        · cases hk'
      · cases hk'
    · split at hk'
      · exact hfz2 k cs hk'
      · cases hk'
  have hZ1 : fr = false → Z2.le (Z.or Zf) := by
    intro hfr k cs hk'
    unfold Zs.or
    rw [hZf]
    simp only [hfr, Bool.false_eq_true, if_false]
    cases hzk : Z k with
    | none => simp only [hk']
    | some c' =>
      simp only
      have := hle2 k c' (hz k c' hzk)
      rw [this] at hk'
      exact hk'
  obtain ⟨Z1, hZ1d⟩ : ∃ Z1, Z1 = (if fr then Zf else Z.or Zf) := ⟨_, rfl⟩
  have hle1 : fr = false → Zs'.le Z1 := fun hfr => by
    rw [hZ1d, hfr]
    exact Zs.le_trans hle2 (hZ1 hfr)
  have hhas : ZHas st.ents Vs w' Z1 ids := by
    intro e he y d k h1 h2 h3
    have hb : isBlk st.ents Vs (· ∈ ids) k := ⟨e, y, d, he, h1, h2, h3⟩
    cases hfr : fr with
    | true =>
      rw [hZ1d, hZf]
      simp only [hfr, if_true, hb]
    | false =>
      obtain ⟨d', g1, g2, _⟩ := hs.ents e y h1
      rw [h2] at g1
      obtain rfl := Option.some.inj g1
      obtain ⟨cs, t, q1, q2⟩ := Ent.hcells g2 h3
      rw [q1]
      rw [hZ1d, hfr]
      refine hZ1 hfr k cs ?_
      rw [hZ2]
      unfold Zs.plus
      rw [if_pos hb]; exact q1
  refine ⟨Zf, renM σ Vs, fun k cs hk' => ?_, hfz, ?_, fun p hp => ?_, fun p hp q hq d d' k hne h1 h2 h3 h4 => ?_, hs.frame, fun e d he hd => renM_vk hself e d he (hk e d he hd)⟩
  · rw [hZf] at hk'
    simp only at hk'
    split at hk'
    · split at hk'
      · rename_i hb
        obtain ⟨e, y, d, _, g2, g3, g4⟩ := hb
        exact (hblkB e y d k g2 g3 g4).1
      · cases hk'
    · split at hk'
      · rename_i hzk
        rw [hZ2] at hk'
        unfold Zs.plus at hk'
        split at hk'
        · rename_i hb
          obtain ⟨e, y, d, _, g2, g3, g4⟩ := hb
          exact (hblkB e y d k g2 g3 g4).1
        · rcases Nat.lt_or_ge k w.heap.size with hlt | hge
          · by_cases hF : isBlk es V allI k
            · exact .inl hF
            · have := hs.zn k cs hk' hlt hF
              simp only [bsOf] at this
              rw [hzk] at this; cases this
          · exact .inr hge
      · cases hk'
  · rw [← hZ1d]
    exact outAs_ok hs.toEnvOk hle1 hout hc hhas hv
  · rw [← hZ1d]
    rcases seesEnts_mem hel hp with ⟨e', x, h1, h2, h3⟩ | ⟨h1, t, ks, h2⟩
    · obtain ⟨d, g1, g2, g3⟩ := hs.ents e' x h2
      obtain ⟨q1, q2⟩ := seesE_ok h3 g2
      refine ⟨d, by simp only [renM, h1]; exact g1, ?_, fun k hk' => ⟨(g3 k (q2 ▸ hk')).1, ?_⟩⟩
      · cases hfr : fr with
        | false => exact Ent.ok_mono (hle1 hfr) (Vl.le_refl _) q1
        | true =>
          rw [hfr] at hfre
          simp only [Bool.not_true, Bool.false_or, List.all_eq_true] at hfre
          exact outE_ok (hfre p hp) q1
      · have hnb : ¬ isBlk st.ents Vs (· ∈ ids) k := by
          rintro ⟨e2, y2, d2, r1, r2, r3, r4⟩
          have hne : e2 ≠ e' := by
            rintro rfl
            have := List.all_eq_true.1 hdis _ (lookup_mem' h1)
            simp only [Bool.not_eq_true', List.contains_eq_mem, decide_eq_false_iff_not] at this
            exact this r1
          exact hs.apart e2 e' y2 x d2 d k hne r2 h2 r3 g1 r4 (q2 ▸ hk')
        rw [hZf]
        simp only
        split
        · first | rfl | rw [if_neg hnb]
        · split
          · rw [hZ2]
            unfold Zs.plus
            rw [if_neg hnb]
            exact (g3 k (q2 ▸ hk')).2
          · rfl
    · refine ⟨⟨0, none, 0⟩, by simp only [renM, h1], ?_, fun k hk' => ?_⟩
      · rw [h2]
        exact ⟨(fun r hr => by cases hr), [], .nil, World.ownsRow_nil _ _ _ _⟩
      · rw [h2] at hk'
        simp [Ent.blk] at hk'
  · rcases seesEnts_mem hel hp with ⟨e1, x, a1, a2, a3⟩ | ⟨a1, t, ks, a2⟩
    · rcases seesEnts_mem hel hq with ⟨e1', x', b1, b2, b3⟩ | ⟨b1, t', ks', b2⟩
      · obtain ⟨d1, g1, g2, _⟩ := hs.ents e1 x a2
        obtain ⟨d1', g1', g2', _⟩ := hs.ents e1' x' b2
        obtain ⟨_, q2⟩ := seesE_ok a3 g2
        obtain ⟨_, q2'⟩ := seesE_ok b3 g2'
        simp only [renM, a1] at h1
        simp only [renM, b1] at h2
        rw [g1] at h1
        rw [g1'] at h2
        obtain rfl := Option.some.inj h1
        obtain rfl := Option.some.inj h2
        refine hs.apart e1 e1' x x' d1 d1' k (fun he => ?_) a2 b2 g1 g1' (q2 ▸ h3) (q2' ▸ h4)
        subst he
        exact hne (injM_spec hinj (lookup_mem' a1) (lookup_mem' b1))
      · rw [b2] at h4
        simp only [renM, b1, Option.some.injEq] at h2
        subst h2
        simp [Ent.blk] at h4
    · rw [a2] at h3
      simp only [renM, a1, Option.some.injEq] at h1
      subst h1
      simp [Ent.blk] at h3

theorem con_of_vc (hcx : CxOk P cx) (hm : P.follows .mixedOrders = true) {f : FuncId} {fn : Func} {body : Code} (hf : P.funcs[f]? = some fn) (hb : fn.body = some body) (hname : (fn.name == "runtime.NumGoroutine") = false) {g : Cn}
    (h : ∀ xs es c rs es2, g.fn xs es = some (c, rs, es2) → c → vcFun cx fn body g.fr xs es rs es2) : ConOk P f g := by
  intro w Z V es args xs hgl henv hkeys hargs c rs es2 hg hc
  have hcx : CxG P cx (bsOf w Z V es) := ⟨hcx, hgl⟩
  refine .inl ⟨?_, ?_⟩
  · have h1 : fn.name ≠ "runtime.NumGoroutine" := by simpa using hname
    simp [callFunc, hf, h1, hb]
  · have hsat : Sat (bsOf w Z V es) Z V { slots := initSlots 0 xs, ents := es, next := es.length, nt := max xs.length fn.ntmps } { tmps := args.toArray ++ Array.replicate (fn.ntmps - args.length) undef, defers := [] } w := by
      refine ⟨henv, rfl, ?_, fun t g x hx hg => ?_, fun t g x hx hg => ?_, hkeys⟩
      · simp only [Array.size_append, List.size_toArray, Array.size_replicate, hargs.length]
        omega
      · obtain ⟨_, _, v, q3, q4⟩ := initSlots_ok hargs t g x hx
        refine ⟨v, q4, ?_⟩
        simp only [Nat.sub_zero] at q3
        have hlt : t < args.length := (List.getElem?_eq_some_iff.1 q3).1
        rw [Array.getElem?_append_left (by simpa using hlt)]
        simpa using q3
      · obtain ⟨q, _⟩ := initSlots_ok hargs t g x hx
        rw [q] at hg; cases hg
    have hv := vc_sound (np := es.length) hcx hm body _ Z V _ w _ hsat (h xs es c rs es2 hg hc)
    refine calls_of_wp hf hb ?_
    have hsz : args.toArray.size = args.length := by simp
    rw [hsz]
    refine wp_mono hv ?_
    rintro e a w' ⟨ex, Z', V', st', rfl, hz, hk, hq, hs'⟩
    have main : resAll cx st' fn.results.toList (fun avs => endOk cx es.length g.fr st' avs rs es2) → a.defers = [] ∧ ∃ v, (results fn a.tmps).run P w' = .ok v w' ∧ ∃ v', Ending.returned v = Ending.returned v' ∧ ∃ vs, v' = pack vs ∧ OutOk w Z V es g.fr rs es2 vs w' := by
      intro hres
      obtain ⟨avs, vs, k1, k2, k3⟩ := resAll_sound hcx.tb hs' _ _ hres
      refine ⟨hs'.defers, pack vs, ?_, pack vs, rfl, vs, rfl, endOk_sound hs' hz hk k1 k2⟩
      have he : results fn a.tmps = (do let vs ← fn.results.mapM (resSem a); pure (if h : vs.size = 1 then vs[0] else .tuple vs)) := by
        unfold results
        congr 1
      rw [he, Array.mapM_eq_mapM_toList]
      simp only [Sem.run_bind, Sem.run_map, k3, Result.andThen_ok, Sem.run_pure]
      congr 1
      match vs with
      | [] => rfl
      | [v] => rfl
      | v :: u :: l => simp [pack]
    cases ex with
    | n => exact main hq
    | r => exact main hq
    | x id => exact hq.elim
    | g l => exact hq.elim

end
end Go.Vx

import Derived.Test.YtijaimiefcohbaaDoorX4
set_option linter.unusedSimpArgs false
set_option linter.unusedVariables false
set_option linter.constructorNameAsVariable false
namespace Go.Vx
open Go Go.RowKit

/-- one key is set -/
def setK {α : Type} (k : Nat) (x : α) (l : List (Nat × α)) : List (Nat × α) := (k, x) :: l.filter fun p => p.1 != k
def delK {α : Type} (k : Nat) (l : List (Nat × α)) : List (Nat × α) := l.filter fun p => p.1 != k

theorem lookup_delK {α : Type} (k j : Nat) : ∀ (l : List (Nat × α)), (delK k l).lookup j = if j = k then none else l.lookup j
  | [] => by simp [delK]
  | (a, x) :: l => by
    have ih := lookup_delK k j l
    unfold delK at ih ⊢
    by_cases ha : a = k
    · subst ha
      simp only [List.filter_cons, bne_self_eq_false, Bool.false_eq_true, if_false, ih]
      by_cases hj : j = a
      · simp [hj]
      · simp only [hj, if_false, List.lookup_cons]
        have : (j == a) = false := by simpa using hj
        simp [this]
    · have hb : (a != k) = true := by simpa using ha
      simp only [List.filter_cons, hb, if_true, List.lookup_cons]
      by_cases hj : j = a
      · subst hj; simp [ha]
      · have : (j == a) = false := by simpa using hj
        simp only [this, ih]

theorem lookup_setK {α : Type} (k j : Nat) (x : α) (l : List (Nat × α)) : (setK k x l).lookup j = if j = k then some x else l.lookup j := by
  unfold setK
  by_cases hj : j = k
  · subst hj; simp [List.lookup_cons]
  · have : (j == k) = false := by simpa using hj
    have h2 := lookup_delK k j l
    unfold delK at h2
    simp only [List.lookup_cons, this, h2, hj, if_false]

def Vl.set (V : Vl) (e : Nat) (d : VD) : Vl := fun j => if j = e then some d else V j
theorem Vl.le_set {V : Vl} {e : Nat} {d : VD} (h : V e = none) : V.le (V.set e d) := fun j x hx => by
  unfold Vl.set
  split
  · rename_i hj; subst hj; rw [h] at hx; cases hx
  · exact hx
theorem Vl.set_same (V : Vl) (e : Nat) (d : VD) : (V.set e d) e = some d := by simp [Vl.set]
theorem Vl.set_other (V : Vl) {e j : Nat} (d : VD) (h : j ≠ e) : (V.set e d) j = V j := by simp [Vl.set, h]

section
variable {B : Bs} {w w' : World} {Z Z' : Zs} {V V' : Vl} {st : St} {a : Act} {es : List (Nat × Ent)}

theorem Ent.ok_mono {x : Ent} {d : VD} (hz : Z.le Z') (hv : V.le V') (h : x.ok Z w V d) : x.ok Z' w V' d := by
  cases x with
  | cells cs t => obtain ⟨vs, h1, h2⟩ := h; exact ⟨vs, h1.mono hz hv, h2⟩
  | own t ks rows => obtain ⟨h1, vs, h2, h3⟩ := h; exact ⟨h1, vs, h2.mono hz, h3⟩

theorem Ent.ok_world {x : Ent} {d : VD} (h : x.ok Z w V d) (hw : ∀ k, x.blk d = some k → w'.heap[k]? = w.heap[k]?) : x.ok Z w' V d := by
  cases x with
  | cells cs t => obtain ⟨vs, h1, h2⟩ := h; exact ⟨vs, h1, (hw _ rfl).trans h2⟩
  | own t ks rows =>
    obtain ⟨h1, vs, h2, h3, h4⟩ := h
    refine ⟨h1, vs, h2, h3, ?_⟩
    rcases h4 with h4 | ⟨g, cap, cur, e1, e2, e3, rest⟩
    · exact .inl h4
    · refine .inr ⟨g, cap, cur, e1, e2, ?_, rest⟩
      injection e1 with e4
      rw [hw g (by simp [Ent.blk, e4])]
      exact e3

/-- an entity's block is there -/
theorem Ent.blk_lt {x : Ent} {d : VD} (h : x.ok Z w V d) {k : Nat} (hk : x.blk d = some k) : k < w.heap.size := by
  cases x with
  | cells cs t =>
    obtain ⟨vs, _, h2⟩ := h
    simp only [Ent.blk, Option.some.injEq] at hk
    subst hk
    exact (Array.getElem?_eq_some_iff.1 h2).1
  | own t ks rows =>
    obtain ⟨_, vs, _, ho⟩ := h
    simp only [Ent.blk, Option.map_eq_some_iff] at hk
    obtain ⟨ad, had, rfl⟩ := hk
    exact (ho.lt ad.block (by rw [had]; rfl)).2

theorem Fr.step {F : Nat → Prop} {w0 w1 w2 : World} (h : Fr F w0 w1) (ho : w2.os = w1.os) (ht : w2.tape = w1.tape) (hu : w2.output = w1.output) (hz : w1.heap.size ≤ w2.heap.size)
    (hk : ∀ k, k < w0.heap.size → ¬ F k → w2.heap[k]? = w1.heap[k]?) : Fr F w0 w2 :=
  ⟨ho.trans h.os, ht.trans h.tape, hu.trans h.output, Nat.le_trans h.size hz, fun k h1 h2 => (hk k h1 h2).trans (h.keep k h1 h2)⟩

/-- what of two worlds is alike but the heap -/
structure Alike (w w' : World) : Prop where
  os : w'.os = w.os
  tape : w'.tape = w.tape
  output : w'.output = w.output
  size : w.heap.size ≤ w'.heap.size

/-- the world has turned at blocks of W, where no entity of these is -/
theorem EnvOk.step (hs : EnvOk B Z V es w) (W : Nat → Prop) (ha : Alike w w') (hk : ∀ k, k < w.heap.size → ¬ W k → w'.heap[k]? = w.heap[k]?)
    (hW : ∀ k, k < w.heap.size → W k → (B.F k ∨ B.w0.heap.size ≤ k) ∧ Z k = none)
    (hE : ∀ e x d k, es.lookup e = some x → V e = some d → x.blk d = some k → ¬ W k) : EnvOk B Z V es w' := by
  refine ⟨fun e x hx => ?_, hs.apart, fun k cs hz => ?_, hs.frame.step ha.os ha.tape ha.output ha.size (fun k h1 h2 => ?_), hs.zn, hs.zl⟩
  · obtain ⟨d, h1, h2, h3⟩ := hs.ents e x hx
    exact ⟨d, h1, Ent.ok_world h2 fun k hb => hk k (Ent.blk_lt h2 hb) (hE e x d k hx h1 hb), h3⟩
  · obtain ⟨t, fz, h⟩ := hs.frz k cs hz
    have hlt : k < w.heap.size := (Array.getElem?_eq_some_iff.1 h).1
    exact ⟨t, fz, by rw [hk k hlt (fun hw => by have := (hW k hlt hw).2; rw [this] at hz; cases hz)]; exact h⟩
  · have hlt : k < w.heap.size := Nat.lt_of_lt_of_le h1 hs.frame.size
    refine hk k hlt fun hw => ?_
    rcases (hW k hlt hw).1 with h | h
    · exact h2 h
    · omega

theorem EnvOk.sub {es' : List (Nat × Ent)} (hs : EnvOk B Z V es w) (h : ∀ e x, es'.lookup e = some x → es.lookup e = some x) : EnvOk B Z V es' w :=
  ⟨fun e x hx => hs.ents e x (h e x hx), fun e e' x x' d d' k hne h1 h2 => hs.apart e e' x x' d d' k hne (h e x h1) (h e' x' h2), hs.frz, hs.frame, hs.zn, hs.zl⟩

theorem EnvOk.mono (hs : EnvOk B Z V es w) (hv : V.le V') : EnvOk B Z V' es w :=
  ⟨fun e x hx => by
    obtain ⟨d, h1, h2, h3⟩ := hs.ents e x hx
    exact ⟨d, hv e d h1, Ent.ok_mono (Zs.le_refl Z) hv h2, h3⟩, fun e e' x x' d d' k hne h1 h2 h3 h4 => by
    obtain ⟨q, g1, _⟩ := hs.ents e x h1
    obtain ⟨q', g1', _⟩ := hs.ents e' x' h2
    rw [hv e q g1] at h3
    rw [hv e' q' g1'] at h4
    obtain rfl := Option.some.inj h3
    obtain rfl := Option.some.inj h4
    exact hs.apart e e' x x' q q' k hne h1 h2 g1 g1', hs.frz, hs.frame, hs.zn, hs.zl⟩

/-- an entity is told under a key -/
theorem EnvOk.insK (hs : EnvOk B Z V es w) {e : Nat} {x : Ent} {d : VD} (hV : V e = some d) (hok : x.ok Z w V d)
    (hb : ∀ k, x.blk d = some k → (B.F k ∨ B.w0.heap.size ≤ k) ∧ Z k = none ∧ ∀ e' y d', e' ≠ e → es.lookup e' = some y → V e' = some d' → y.blk d' ≠ some k) : EnvOk B Z V (setK e x es) w := by
  refine ⟨fun e' y hy => ?_, fun e1 e2 y1 y2 d1 d2 k hne h1 h2 h3 h4 h5 h6 => ?_, hs.frz, hs.frame, hs.zn, hs.zl⟩
  · rw [lookup_setK] at hy
    split at hy
    · rename_i he
      subst he
      obtain rfl := Option.some.inj hy
      exact ⟨d, hV, hok, fun k hk => ⟨(hb k hk).1, (hb k hk).2.1⟩⟩
    · exact hs.ents e' y hy
  · rw [lookup_setK] at h1 h2
    split at h1
    · rename_i he
      subst he
      obtain rfl := Option.some.inj h1
      rw [hV] at h3
      obtain rfl := Option.some.inj h3
      split at h2
      · rename_i he'; exact hne he'.symm
      · rename_i he'
        exact (hb k h5).2.2 e2 y2 d2 he' h2 h4 h6
    · rename_i he
      split at h2
      · rename_i he'
        subst he'
        obtain rfl := Option.some.inj h2
        rw [hV] at h4
        obtain rfl := Option.some.inj h4
        exact (hb k h6).2.2 e1 y1 d1 he h1 h3 h5
      · exact hs.apart e1 e2 y1 y2 d1 d2 k hne h1 h2 h3 h4 h5 h6

def St.ov (st : St) : Ov
  | .tmp t => st.slots.lookup t
  | .const v => match v with
    | .int .u64 n => some (true, .a (.c (.p (if 0 ≤ n ∧ n < 18446744073709551616 then .u (BitVec.ofNat 64 n.toNat) else .v (.int .u64 n)))))
    | .int .i64 n => some (true, .a (.c (.p (.i n))))
    | .bool x => some (true, .a (.c (.p (.b x))))
    | .agg _ => none
    | .tuple _ => none
    | v => some (true, .a (.c (.p (.v v))))
  | .global g => some (true, .a (.c (.p (.v (.pointer (some ⟨g, 0, none⟩))))))
  | .func f => some (true, .a (.c (.p (.f f [] []))))

theorem Sat.ov (hs : Sat B Z V st a w) {x : Operand} {g : Bool} {s : SV} (h : st.ov x = some (g, s)) (hg : g = true) : ∃ v, SVOk Z V v s ∧ a.eval x = v := by
  cases x with
  | tmp t =>
    obtain ⟨v, h1, h2⟩ := hs.slots t g s h hg
    exact ⟨v, h1, by simp [Act.eval, h2]⟩
  | const v =>
    refine ⟨v, ?_, rfl⟩
    simp only [St.ov] at h
    split at h <;> (try (cases h; done)) <;> (simp only [Option.some.injEq, Prod.mk.injEq] at h; obtain ⟨-, rfl⟩ := h)
    · rename_i n
      refine .a (.c (.p ?_))
      split
      · rename_i hn
        have : n = ((BitVec.ofNat 64 n.toNat).toNat : Int) := by
          rw [BitVec.toNat_ofNat, Nat.mod_eq_of_lt (by omega)]; omega
        have e : Value.int .u64 n = .int .u64 ((BitVec.ofNat 64 n.toNat).toNat : Int) := by rw [← this]
        rw [e]
        exact .u _
      · exact .v rfl
    · exact .a (.c (.p (.i _)))
    · exact .a (.c (.p (.b _)))
    · rename_i h1 h2 h3 h4 h5
      refine .a (.c (.p (.v ?_)))
      cases v <;> first | rfl | (exfalso; simp_all)
  | global g' =>
    simp only [St.ov, Option.some.injEq, Prod.mk.injEq] at h
    obtain ⟨-, rfl⟩ := h
    exact ⟨_, .a (.c (.p (.v rfl))), rfl⟩
  | func f =>
    simp only [St.ov, Option.some.injEq, Prod.mk.injEq] at h
    obtain ⟨-, rfl⟩ := h
    exact ⟨_, .a (.c (.p (.f .nil .nil))), rfl⟩

/-- a slot is written -/
def St.put (st : St) (dst : Option Nat) (g : Bool) (x : Option SV) : St :=
  match dst with
  | none => st
  | some d => match x with
    | some x => { st with slots := setK d (g, x) st.slots }
    | none => { st with slots := delK d st.slots }

theorem Sat.put (hs : Sat B Z V st a w) (dst : Option Nat) (g : Bool) (x : Option SV) (v : Value) (hd : ∀ d, dst = some d → d < st.nt)
    (hv : ∀ s, x = some s → g = true → SVOk Z V v s) (hu : ∀ s, x = some s → g = false → v = undef) : Sat B Z V (st.put dst g x) (a.put dst v) w := by
  cases dst with
  | none => exact hs
  | some d =>
    have hlt := hd d rfl
    have hsz : (a.put (some d) v).tmps.size = st.nt := by simp [Act.put, hs.size]
    cases x with
    | none =>
      refine ⟨hs.toEnvOk, hs.defers, hsz, fun t g' x hx hg => ?_, fun t g' x hx hg => ?_, hs.fresh⟩
      · simp only [St.put, lookup_delK] at hx
        split at hx
        · cases hx
        · rename_i hne
          obtain ⟨u, h1, h2⟩ := hs.slots t g' x hx hg
          refine ⟨u, h1, ?_⟩
          simp only [Act.put]
          rw [Array.getElem?_setIfInBounds_ne (by omega)]
          exact h2
      · simp only [St.put, lookup_delK] at hx
        split at hx
        · cases hx
        · rename_i hne
          simp only [Act.put]
          rw [Array.getElem?_setIfInBounds_ne (by omega)]
          exact hs.off t g' x hx hg
    | some s =>
      refine ⟨hs.toEnvOk, hs.defers, hsz, fun t g' x hx hg => ?_, fun t g' x hx hg => ?_, hs.fresh⟩
      · simp only [St.put, lookup_setK] at hx
        split at hx
        · rename_i he
          subst he
          simp only [Option.some.injEq, Prod.mk.injEq] at hx
          obtain ⟨rfl, rfl⟩ := hx
          refine ⟨v, hv _ rfl hg, ?_⟩
          simp [Act.put, Array.getElem?_setIfInBounds_self_of_lt (by rw [hs.size]; exact hlt : t < a.tmps.size)]
        · rename_i hne
          obtain ⟨u, h1, h2⟩ := hs.slots t g' x hx hg
          refine ⟨u, h1, ?_⟩
          simp only [Act.put]
          rw [Array.getElem?_setIfInBounds_ne (by omega)]
          exact h2
      · simp only [St.put, lookup_setK] at hx
        split at hx
        · rename_i he
          subst he
          simp only [Option.some.injEq, Prod.mk.injEq] at hx
          obtain ⟨rfl, rfl⟩ := hx
          rw [← hu _ rfl hg]
          simp [Act.put, Array.getElem?_setIfInBounds_self_of_lt (by rw [hs.size]; exact hlt : t < a.tmps.size)]
        · rename_i hne
          simp only [Act.put]
          rw [Array.getElem?_setIfInBounds_ne (by omega)]
          exact hs.off t g' x hx hg

/-- the memory has turned -/
theorem Sat.mem (hs : Sat B Z V st a w) (hz : Z.le Z') (hv : V.le V') (es' : List (Nat × Ent)) (next' : Nat) (he : EnvOk B Z' V' es' w')
    (hfr : ∀ e, next' ≤ e → V' e = none) : Sat B Z' V' { st with ents := es', next := next' } a w' :=
  ⟨he, hs.defers, hs.size, fun t g x hx hg => by
    obtain ⟨v, h1, h2⟩ := hs.slots t g x hx hg
    exact ⟨v, h1.mono hz hv, h2⟩, hs.off, hfr⟩

/-- a new entity -/
theorem Sat.ins (hs : Sat B Z V st a w) (x : Ent) (d : VD) (hok : x.ok Z w (V.set st.next d) d)
    (hnew : ∀ k, x.blk d = some k → (B.F k ∨ B.w0.heap.size ≤ k) ∧ Z k = none ∧ ∀ e y d', st.ents.lookup e = some y → V e = some d' → y.blk d' ≠ some k) :
    Sat B Z (V.set st.next d) { st with ents := setK st.next x st.ents, next := st.next + 1 } a w ∧ V.le (V.set st.next d) := by
  have hfresh := hs.fresh st.next (Nat.le_refl _)
  have hle := Vl.le_set (d := d) hfresh
  refine ⟨hs.mem (Zs.le_refl Z) hle _ _ ((hs.toEnvOk.mono hle).insK (Vl.set_same _ _ _) hok (fun k hk => ?_)) (fun e he => ?_), hle⟩
  · obtain ⟨h1, h2, h3⟩ := hnew k hk
    refine ⟨h1, h2, fun e' y d' hne hy hd => h3 e' y d' hy ?_⟩
    rw [Vl.set_other _ _ hne] at hd
    exact hd
  · rw [Vl.set_other _ _ (by omega : e ≠ st.next)]
    exact hs.fresh e (by omega)

/-- the world has turned, no block of ours -/
theorem Sat.still (hs : Sat B Z V st a w) (ha : Alike w w') (hold : ∀ k, k < w.heap.size → w'.heap[k]? = w.heap[k]?) : Sat B Z V st a w' :=
  hs.mem (Zs.le_refl Z) (Vl.le_refl V) st.ents st.next (hs.toEnvOk.step (fun _ => False) ha (fun k h _ => hold k h) (fun _ _ h => h.elim) (fun _ _ _ _ _ _ _ h => h)) hs.fresh

/-- a new entity in a new block -/
theorem Sat.add (hs : Sat B Z V st a w) (x : Ent) (d : VD) (ha : Alike w w') (hold : ∀ k, k < w.heap.size → w'.heap[k]? = w.heap[k]?)
    (hok : x.ok Z w' (V.set st.next d) d) (hnew : ∀ k, x.blk d = some k → w.heap.size ≤ k) :
    Sat B Z (V.set st.next d) { st with ents := setK st.next x st.ents, next := st.next + 1 } a w' ∧ V.le (V.set st.next d) := by
  refine (hs.still ha hold).ins x d hok fun k hk => ?_
  have h1 := hnew k hk
  refine ⟨.inr (Nat.le_trans hs.frame.size h1), ?_, fun e y d' hy hd hk' => ?_⟩
  · cases hz : Z k with
    | none => rfl
    | some cs =>
      obtain ⟨t, fz, h⟩ := hs.frz k cs hz
      have := (Array.getElem?_eq_some_iff.1 h).1
      omega
  · obtain ⟨d2, g1, g2, _⟩ := hs.ents e y hy
    rw [hd] at g1
    obtain rfl := Option.some.inj g1
    have := Ent.blk_lt g2 hk'
    omega

/-- an entity is written in its place -/
theorem Sat.turn (hs : Sat B Z V st a w) {e : Nat} {x x' : Ent} {d : VD} (hx : st.ents.lookup e = some x) (hd : V e = some d) (ha : Alike w w')
    (hold : ∀ k, x.blk d ≠ some k → w'.heap[k]? = w.heap[k]?) (hb : x'.blk d = x.blk d) (hok : x'.ok Z w' V d) :
    Sat B Z V { st with ents := setK e x' st.ents } a w' := by
  obtain ⟨d0, g1, g2, g3⟩ := hs.ents e x hx
  rw [hd] at g1
  obtain rfl := Option.some.inj g1
  have h1 : EnvOk B Z V (delK e st.ents) w' := by
    refine (hs.toEnvOk.sub (es' := delK e st.ents) (fun e' y hy => ?_)).step (fun k => x.blk d = some k) ha (fun k _ hk => hold k hk) (fun k _ hk => g3 k hk) (fun e' y d' k hy hd' hk hk' => ?_)
    · rw [lookup_delK] at hy; split at hy; cases hy; exact hy
    · rw [lookup_delK] at hy
      split at hy
      · cases hy
      · rename_i he
        exact hs.apart e' e y x d' d k he hy hx hd' hd hk hk'
  have h2 : EnvOk B Z V (setK e x' (delK e st.ents)) w' := h1.insK hd hok (fun k hk => ⟨(g3 k (hb ▸ hk)).1, (g3 k (hb ▸ hk)).2, fun e' y d' hne hy hd' hk' => by
    rw [lookup_delK, if_neg hne] at hy
    exact hs.apart e' e y x d' d k hne hy hx hd' hd hk' (hb ▸ hk)⟩)
  refine hs.mem (Zs.le_refl Z) (Vl.le_refl V) _ _ (h2.sub fun e' y hy => ?_) hs.fresh
  rw [lookup_setK] at hy ⊢
  split
  · rename_i he; rw [if_pos he] at hy; exact hy
  · rename_i he; rw [if_neg he] at hy; rw [lookup_delK, if_neg he]; exact hy

/-- entities may be forgotten -/
theorem Sat.drop (hs : Sat B Z V st a w) (e : Nat) : Sat B Z V { st with ents := delK e st.ents } a w :=
  hs.mem (Zs.le_refl Z) (Vl.le_refl V) _ _ (hs.toEnvOk.sub fun e' y hy => by rw [lookup_delK] at hy; split at hy; cases hy; exact hy) hs.fresh

/-- a row has moved (or grown in its place): the old entity is gone, a new one is there -/
theorem Sat.move (hs : Sat B Z V st a w) {e : Nat} {x : Ent} {d : VD} (hx : st.ents.lookup e = some x) (hd : V e = some d) (x' : Ent) (d' : VD) (ha : Alike w w')
    (hold : ∀ k, k < w.heap.size → x.blk d ≠ some k → w'.heap[k]? = w.heap[k]?)
    (hok : x'.ok Z w' (V.set st.next d') d') (hnew : ∀ k, x'.blk d' = some k → x.blk d = some k ∨ w.heap.size ≤ k) :
    Sat B Z (V.set st.next d') { st with ents := setK st.next x' (delK e st.ents), next := st.next + 1 } a w' ∧ V.le (V.set st.next d') := by
  obtain ⟨d0, g1, g2, g3⟩ := hs.ents e x hx
  rw [hd] at g1
  obtain rfl := Option.some.inj g1
  have h1 : EnvOk B Z V (delK e st.ents) w' := by
    refine (hs.toEnvOk.sub (es' := delK e st.ents) (fun e' y hy => ?_)).step (fun k => x.blk d = some k) ha hold (fun k _ hk => g3 k hk) (fun e' y d' k hy hd' hk hk' => ?_)
    · rw [lookup_delK] at hy; split at hy; cases hy; exact hy
    · rw [lookup_delK] at hy
      split at hy
      · cases hy
      · rename_i he
        exact hs.apart e' e y x d' d k he hy hx hd' hd hk hk'
  have hst : Sat B Z V { st with ents := delK e st.ents } a w' := hs.mem (Zs.le_refl Z) (Vl.le_refl V) _ _ h1 hs.fresh
  refine hst.ins x' d' hok fun k hk => ?_
  rcases hnew k hk with h | h
  · refine ⟨(g3 k h).1, (g3 k h).2, fun e' y d1 hy h1 hk' => ?_⟩
    simp only [lookup_delK] at hy
    split at hy
    · cases hy
    · rename_i he
      exact hs.apart e' e y x d1 d k he hy hx h1 hd hk' h
  · refine ⟨.inr (Nat.le_trans hs.frame.size h), ?_, fun e' y d1 hy h1 hk' => ?_⟩
    · cases hz : Z k with
      | none => rfl
      | some cs =>
        obtain ⟨t, fz, h'⟩ := hs.frz k cs hz
        have := (Array.getElem?_eq_some_iff.1 h').1
        omega
    · simp only [lookup_delK] at hy
      split at hy
      · cases hy
      · obtain ⟨d2, q1, q2, _⟩ := hs.ents e' y hy
        rw [h1] at q1
        obtain rfl := Option.some.inj q1
        have := Ent.blk_lt q2 hk'
        omega

end
end Go.Vx

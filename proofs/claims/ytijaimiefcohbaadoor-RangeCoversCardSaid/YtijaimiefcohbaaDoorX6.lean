import Derived.Test.YtijaimiefcohbaaDoorX5
set_option linter.unusedSimpArgs false
set_option linter.unusedVariables false
set_option linter.constructorNameAsVariable false
namespace Go.Vx
open Go Go.RowKit

/-! ### what is ours, seen as never written again -/
mutual
def frzC (O : Th) (en : En) : Nat → Cel → Option (Prop × List Nat × Pl)
  | _, .p x => match x with
    | .n ks => some (True, [], .r ks [])
    | x => some (True, [], x)
  | _, .hdr e n => match en e with
    | some (.own _ ks rows) => some (O.th fun _ => n ≤ rows.length, [e], .r ks (O.th fun _ => rows.take n))
    | _ => none
  | _, .sub e sz off n => match en e with
    | some (.own _ ks rows) => if sz = ks.length then some (O.th fun _ => off + n ≤ rows.length, [e], .r ks (O.th fun _ => (rows.drop off).take n)) else none
    | _ => none
  | m + 1, .ptr e k => match k, en e with
    | 0, some (.cells cs _) => match frzL O en m cs with
      | some (c, ids, ps) => some (c, e :: ids, .q (ps.map Pl.kd) ps)
      | none => none
    | _, _ => none
  | m + 1, .fn f first caps => match frzG O en m first, frzG O en m caps with
    | some (c, ids, ps), some (d, jds, qs) => some (c ∧ d, ids ++ jds, .f f ps qs)
    | _, _ => none
  | _, .rptr cs k => match k with
    | 0 => some (True, [], .q (cs.map Pl.kd) cs)
    | _ => none
  | _, _ => none
def frzL (O : Th) (en : En) : Nat → List Cel → Option (Prop × List Nat × List Pl)
  | _, [] => some (True, [], [])
  | m + 1, c :: cs => match frzC O en m c, frzL O en m cs with
    | some (c, ids, p), some (d, jds, ps) => some (c ∧ d, ids ++ jds, p :: ps)
    | _, _ => none
  | 0, _ :: _ => none
def frzG (O : Th) (en : En) : Nat → List Cel → Option (Prop × List Nat × List Pl)
  | _, [] => some (True, [], [])
  | m + 1, .g cs :: r => match frzL O en m cs, frzG O en m r with
    | some (c, ids, p), some (d, jds, ps) => some (c ∧ d, ids ++ jds, .g p :: ps)
    | _, _ => none
  | m + 1, c :: cs => match frzC O en m c, frzG O en m cs with
    | some (c, ids, p), some (d, jds, ps) => some (c ∧ d, ids ++ jds, p :: ps)
    | _, _ => none
  | 0, _ :: _ => none
end

def frzA (O : Th) (en : En) : AV → Option (Prop × List Nat × AV)
  | .c x => (frzC O en 40 x).map fun r => (r.1, r.2.1, .c (.p r.2.2))
  | .agg cs => (frzL O en 40 cs).map fun r => (r.1, r.2.1, .agg (r.2.2.map .p))

def hcells (w : World) (k : Nat) : Option (Array Value) :=
  match w.heap[k]? with
  | some (.cells c _ _) => some c
  | _ => none

/-- a block of one of these entities -/
def isBlk (es : List (Nat × Ent)) (V : Vl) (ids : Nat → Prop) (k : Nat) : Prop := ∃ e y d, ids e ∧ es.lookup e = some y ∧ V e = some d ∧ y.blk d = some k

open Classical in
noncomputable def Zs.plus (Z : Zs) (w : World) (B : Nat → Prop) : Zs := fun k => if B k then hcells w k else Z k

section
variable {B : Bs} {w w' : World} {Z Z' : Zs} {V V' : Vl} {es : List (Nat × Ent)}

theorem Ent.hcells {x : Ent} {d : VD} (h : x.ok Z w V d) {k : Nat} (hk : x.blk d = some k) : ∃ cs t, Vx.hcells w k = some cs ∧ w.heap[k]? = some (.cells cs t (0, 0)) := by
  unfold Vx.hcells
  cases x with
  | cells cs t =>
    obtain ⟨vs, _, h2⟩ := h
    simp only [Ent.blk, Option.some.injEq] at hk
    subst hk
    rw [h2]
    exact ⟨_, _, rfl, rfl⟩
  | own t ks rows =>
    obtain ⟨_, vs, _, ho⟩ := h
    simp only [Ent.blk, Option.map_eq_some_iff] at hk
    obtain ⟨ad, had, rfl⟩ := hk
    rcases ho.2 with ⟨h3, _⟩ | ⟨g, cap, cur, e1, e2, e3, rest⟩
    · rw [had] at h3; cases h3
    · injection e1 with e4
      rw [had] at e4
      obtain rfl := Option.some.inj e4
      simp only at e3 ⊢
      rw [e3]
      exact ⟨_, _, rfl, rfl⟩

theorem EnvOk.plus_le (hs : EnvOk B Z V es w) (ids : Nat → Prop) : Z.le (Z.plus w (isBlk es V ids)) := by
  intro k cs hk
  unfold Zs.plus
  split
  · rename_i hb
    obtain ⟨e, y, d, _, h2, h3, h4⟩ := hb
    obtain ⟨d', g1, _, g3⟩ := hs.ents e y h2
    rw [h3] at g1
    obtain rfl := Option.some.inj g1
    rw [(g3 k h4).2] at hk; cases hk
  · exact hk

theorem EnvOk.plus_frz (hs : EnvOk B Z V es w) (ids : Nat → Prop) : Frz (Z.plus w (isBlk es V ids)) w := by
  intro k cs hk
  unfold Zs.plus at hk
  split at hk
  · unfold Vx.hcells at hk
    split at hk
    · rename_i c t fz h
      obtain rfl := Option.some.inj hk
      exact ⟨t, fz, h⟩
    · cases hk
  · exact hs.frz k cs hk

/-- these entities' blocks are never written again -/
def ZHas (es : List (Nat × Ent)) (V : Vl) (w : World) (Z' : Zs) (ids : List Nat) : Prop := ∀ e ∈ ids, ∀ y d k, es.lookup e = some y → V e = some d → y.blk d = some k → Z' k = hcells w k

theorem ZHas.sub {ids jds : List Nat} (h : ZHas es V w Z' ids) (k : ∀ e ∈ jds, e ∈ ids) : ZHas es V w Z' jds := fun e he => h e (k e he)

theorem zhas_plus (ids : List Nat) : ZHas es V w (Z.plus w (isBlk es V (· ∈ ids))) ids := by
  intro e he y d k h1 h2 h3
  unfold Zs.plus
  rw [if_pos ⟨e, y, d, he, h1, h2, h3⟩]

theorem own_cellsAt (hs : EnvOk B Z V es w) {e : Nat} {t : TypeId} {ks : List Kd} {rows : List (List Pl)} {d : VD} (h : es.lookup e = some (.own t ks rows)) (hV : V e = some d) (hz : ZHas es V w Z' [e]) :
    typed ks rows ∧ rows.length ≤ d.cap ∧ ∃ vs, PlsOk Z vs rows.flatten ∧ (0 < rows.length → ∃ ad, d.adr = some ad ∧ CellsAt Z' ad vs) := by
  obtain ⟨d', vs, hV', ht, hv, ho, hcap, _⟩ := hs.own h
  rw [hV] at hV'
  obtain rfl := Option.some.inj hV'
  refine ⟨ht, hcap, vs, hv, fun hp => ?_⟩
  rcases ho.2 with ⟨_, h2⟩ | ⟨g, cap, cur, e1, e2, e3, e4, e5, e6, e7⟩
  · omega
  · injection e1 with e8 _ _
    refine ⟨⟨g, 0, none⟩, e8, fun j u hj => ?_⟩
    have hzk := hz e (List.mem_singleton.2 rfl) _ d g h hV (by simp [Ent.blk, e8])
    have hg : hcells w g = some cur := by unfold hcells; rw [e3]
    unfold zcell
    have hb : ((⟨g, 0, none⟩ : Addr).add j) = ⟨g, j, none⟩ := by unfold Addr.add; split <;> simp_all
    rw [hb]
    simp only [Option.isSome_none, Bool.false_eq_true, if_false, hzk, hg, Option.bind_some]
    rw [← e7] at hj
    rw [List.getElem?_take] at hj
    split at hj
    · simpa using hj
    · cases hj

theorem cells_cellsAt (hs : EnvOk B Z V es w) {e : Nat} {t : TypeId} {cs : List Cel} {d : VD} (h : es.lookup e = some (.cells cs t)) (hV : V e = some d) (hz : ZHas es V w Z' [e]) :
    ∃ vs, CelsOk Z V vs cs ∧ CellsAt Z' ⟨d.blk, 0, none⟩ vs := by
  obtain ⟨d', hV', ⟨vs, hv, hb⟩, _⟩ := hs.ents _ _ h
  rw [hV] at hV'
  obtain rfl := Option.some.inj hV'
  refine ⟨vs, hv, fun j u hj => ?_⟩
  have hzk := hz e (List.mem_singleton.2 rfl) _ d d.blk h hV rfl
  have hg : hcells w d.blk = some vs.toArray := by unfold hcells; rw [hb]
  unfold zcell
  have hb : ((⟨d.blk, 0, none⟩ : Addr).add j) = ⟨d.blk, j, none⟩ := by unfold Addr.add; split <;> simp_all
  rw [hb]
  simpa [hzk, hg] using hj

mutual
theorem frzC_sound {O : Th} (hs : EnvOk B Z V es w) (hzz : Z.le Z') : ∀ {m : Nat} {x : Cel} {v : Value} {c : Prop} {ids : List Nat} {p : Pl}, CelOk Z V v x → frzC O (fun e => es.lookup e) m x = some (c, ids, p) → c → ZHas es V w Z' ids → PlOk Z' v p
  | m, .p x, v, c, ids, p, hx, h, hc, hz => by
    cases hx with | p hx =>
    unfold frzC at h
    split at h
    · simp only [Option.some.injEq, Prod.mk.injEq] at h
      obtain ⟨-, -, rfl⟩ := h
      cases hx
      exact .r0 _ _ _
    · simp only [Option.some.injEq, Prod.mk.injEq] at h
      obtain ⟨-, -, rfl⟩ := h
      exact hx.mono hzz
  | m, .hdr e n, v, c, ids, p, hx, h, hc, hz => by
    unfold frzC at h
    split at h
    · rename_i t ks rows he
      simp only [Option.some.injEq, Prod.mk.injEq] at h
      obtain ⟨rfl, rfl, rfl⟩ := h
      rw [O.eq] at hc
      rw [O.eq]
      cases hx with | hdr hV =>
      rename_i d
      obtain ⟨ht, hcap, vs, hv, hat⟩ := own_cellsAt hs he hV hz
      have hl : (rows.take n).length = n := by rw [List.length_take]; omega
      rcases Nat.eq_zero_or_pos n with h0 | h0
      · subst h0; simp only [List.take_zero]; exact .r0 _ _ _
      · obtain ⟨ad, had, hat⟩ := hat (by omega)
        rw [had]
        have := PlOk.r (Z := Z') (ad := ad) (cap := d.cap) (ks := ks) (rows := rows.take n) (vs := vs.take (n * ks.length)) (by omega) (typed_take n ht)
          (by rw [flatten_take n (typed_length ht)]; exact (hv.take _).mono hzz) (fun j u hj => hat j u (by rw [List.getElem?_take] at hj; split at hj; exact hj; cases hj))
        rw [hl] at this
        exact this
    · cases h
  | m, .sub e sz off n, v, c, ids, p, hx, h, hc, hz => by
    unfold frzC at h
    split at h
    · rename_i t ks rows he
      split at h
      · rename_i hsz
        subst hsz
        simp only [Option.some.injEq, Prod.mk.injEq] at h
        obtain ⟨rfl, rfl, rfl⟩ := h
        rw [O.eq] at hc
        rw [O.eq]
        cases hx with | sub hV hA =>
        rename_i d A
        obtain ⟨ht, hcap, vs, hv, hat⟩ := own_cellsAt hs he hV hz
        have hl : ((rows.drop off).take n).length = n := by rw [List.length_take, List.length_drop]; omega
        rcases Nat.eq_zero_or_pos n with h0 | h0
        · subst h0; simp only [List.take_zero]; exact .r0 _ _ _
        · obtain ⟨ad, had, hat⟩ := hat (by omega)
          have hA' : A = some (ad.add (off * ks.length)) := by
            rcases hA with hA | hA
            · omega
            · rw [hA, had]; rfl
          rw [hA']
          have := PlOk.r (Z := Z') (ad := ad.add (off * ks.length)) (cap := d.cap - off) (ks := ks) (rows := (rows.drop off).take n) (vs := (vs.drop (off * ks.length)).take (n * ks.length)) (by omega) (typed_take n (typed_drop off ht))
            (by rw [flatten_take n (typed_length (typed_drop off ht)), flatten_drop off (typed_length ht)]; exact ((hv.drop _).take _).mono hzz) (fun j u hj => by
              rw [List.getElem?_take] at hj
              split at hj
              · rw [List.getElem?_drop] at hj
                rw [add_add]
                exact hat _ u hj
              · cases hj)
          rw [hl] at this
          exact this
      · cases h
    · cases h
  | 0, .ptr e k, v, c, ids, p, hx, h, hc, hz => by simp [frzC] at h
  | m + 1, .ptr e k, v, c, ids, p, hx, h, hc, hz => by
    unfold frzC at h
    split at h
    · rename_i cs t he
      split at h
      · rename_i c' ids' ps hl
        simp only [Option.some.injEq, Prod.mk.injEq] at h
        obtain ⟨rfl, rfl, rfl⟩ := h
        cases hx with | ptr hV =>
        obtain ⟨vs, hv, hat⟩ := cells_cellsAt hs he hV (hz.sub (by simp))
        exact .q rfl (frzL_sound hs hzz hv hl hc (hz.sub (fun e he => List.mem_cons_of_mem _ he))) hat
      · cases h
    · cases h
  | 0, .fn f first caps, v, c, ids, p, hx, h, hc, hz => by simp [frzC] at h
  | m + 1, .fn f first caps, v, c, ids, p, hx, h, hc, hz => by
    unfold frzC at h
    split at h
    · rename_i c1 ids1 ps d1 jds1 qs h1 h2
      simp only [Option.some.injEq, Prod.mk.injEq] at h
      obtain ⟨rfl, rfl, rfl⟩ := h
      cases hx with | fn hx1 hx2 =>
      exact .f (frzG_sound hs hzz hx1 h1 hc.1 (hz.sub (fun e he => List.mem_append_left _ he))) (frzG_sound hs hzz hx2 h2 hc.2 (hz.sub (fun e he => List.mem_append_right _ he)))
    · cases h
  | m, .rptr cs k, v, c, ids, p, hx, h, hc, hz => by
    unfold frzC at h
    split at h
    · simp only [Option.some.injEq, Prod.mk.injEq] at h
      obtain ⟨rfl, rfl, rfl⟩ := h
      cases hx with | rptr h3 h4 =>
      rename_i ad vs
      have : ad.add 0 = ad := by simp [Addr.add]
      rw [this]
      exact .q rfl (h3.mono hzz) (h4.mono hzz)
    · cases h
  | m, .elt _ _ _ _, v, c, ids, p, hx, h, hc, hz => by simp [frzC] at h
  | m, .relt _ _ _ _, v, c, ids, p, hx, h, hc, hz => by simp [frzC] at h
  | m, .g _, v, c, ids, p, hx, h, hc, hz => by cases hx
theorem frzL_sound {O : Th} (hs : EnvOk B Z V es w) (hzz : Z.le Z') : ∀ {m : Nat} {xs : List Cel} {vs : List Value} {c : Prop} {ids : List Nat} {ps : List Pl}, CelsOk Z V vs xs → frzL O (fun e => es.lookup e) m xs = some (c, ids, ps) → c → ZHas es V w Z' ids → PlsOk Z' vs ps
  | m, [], vs, c, ids, ps, hx, h, hc, hz => by
    unfold frzL at h
    simp only [Option.some.injEq, Prod.mk.injEq] at h
    obtain ⟨-, -, rfl⟩ := h
    cases hx
    exact .nil
  | 0, x :: xs, vs, c, ids, ps, hx, h, hc, hz => by simp [frzL] at h
  | m + 1, x :: xs, vs, c, ids, ps, hx, h, hc, hz => by
    unfold frzL at h
    split at h
    · rename_i c1 ids1 p d1 jds1 qs h1 h2
      simp only [Option.some.injEq, Prod.mk.injEq] at h
      obtain ⟨rfl, rfl, rfl⟩ := h
      cases hx with | cons hx1 hx2 =>
      exact .cons (frzC_sound hs hzz hx1 h1 hc.1 (hz.sub (fun e he => List.mem_append_left _ he))) (frzL_sound hs hzz hx2 h2 hc.2 (hz.sub (fun e he => List.mem_append_right _ he)))
    · cases h
theorem frzG_sound {O : Th} (hs : EnvOk B Z V es w) (hzz : Z.le Z') : ∀ {m : Nat} {xs : List Cel} {vs : List Value} {c : Prop} {ids : List Nat} {ps : List Pl}, CasOk Z V vs xs → frzG O (fun e => es.lookup e) m xs = some (c, ids, ps) → c → ZHas es V w Z' ids → PasOk Z' vs ps
  | m, [], vs, c, ids, ps, hx, h, hc, hz => by
    unfold frzG at h
    simp only [Option.some.injEq, Prod.mk.injEq] at h
    obtain ⟨-, -, rfl⟩ := h
    cases hx
    exact .nil
  | 0, x :: xs, vs, c, ids, ps, hx, h, hc, hz => by simp [frzG] at h
  | m + 1, x :: xs, vs, c, ids, ps, hx, h, hc, hz => by
    cases hx with
    | cons hx1 hx2 =>
      have h' : (match frzC O (fun e => es.lookup e) m x, frzG O (fun e => es.lookup e) m xs with
        | some (c, ids, p), some (d, jds, ps) => some (c ∧ d, ids ++ jds, p :: ps)
        | _, _ => none) = some (c, ids, ps) := by
        cases x with
        | g cs => cases hx1
        | _ => simp only [frzG] at h; exact h
      split at h'
      · rename_i c1 ids1 p d1 jds1 qs h1 h2
        simp only [Option.some.injEq, Prod.mk.injEq] at h'
        obtain ⟨rfl, rfl, rfl⟩ := h'
        exact .cons (frzC_sound hs hzz hx1 h1 hc.1 (hz.sub (fun e he => List.mem_append_left _ he))) (frzG_sound hs hzz hx2 h2 hc.2 (hz.sub (fun e he => List.mem_append_right _ he)))
      · cases h'
    | agg hx1 hx2 =>
      simp only [frzG] at h
      split at h
      · rename_i c1 ids1 p d1 jds1 qs h1 h2
        simp only [Option.some.injEq, Prod.mk.injEq] at h
        obtain ⟨rfl, rfl, rfl⟩ := h
        exact .agg (frzL_sound hs hzz hx1 h1 hc.1 (hz.sub (fun e he => List.mem_append_left _ he))) (frzG_sound hs hzz hx2 h2 hc.2 (hz.sub (fun e he => List.mem_append_right _ he)))
      · cases h
end

theorem frzA_sound {O : Th} (hs : EnvOk B Z V es w) (hzz : Z.le Z') {x : AV} {v : Value} {c : Prop} {ids : List Nat} {y : AV} (hx : AVOk Z V v x) (h : frzA O (fun e => es.lookup e) x = some (c, ids, y)) (hc : c) (hz : ZHas es V w Z' ids) (V' : Vl) : AVOk Z' V' v y := by
  cases hx with
  | c hx =>
    obtain ⟨⟨c1, i1, p⟩, h1, h2⟩ := Option.map_eq_some_iff.1 h
    simp only [Prod.mk.injEq] at h2
    obtain ⟨rfl, rfl, rfl⟩ := h2
    exact .c (.p (frzC_sound hs hzz hx h1 hc hz))
  | agg hx =>
    obtain ⟨⟨c1, i1, p⟩, h1, h2⟩ := Option.map_eq_some_iff.1 h
    simp only [Prod.mk.injEq] at h2
    obtain ⟨rfl, rfl, rfl⟩ := h2
    exact .agg (CelsOk.ofPls (frzL_sound hs hzz hx h1 hc hz))

end
end Go.Vx

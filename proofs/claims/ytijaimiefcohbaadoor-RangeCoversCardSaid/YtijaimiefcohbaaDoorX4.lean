import Derived.Test.YtijaimiefcohbaaDoorX3
set_option linter.unusedSimpArgs false
set_option linter.unusedVariables false
set_option linter.constructorNameAsVariable false
namespace Go.Vx
open Go Go.RowKit

section
variable {P : Program} {tb : Tb} {B : Bs} {w : World} {Z : Zs} {V : Vl} {es : List (Nat × Ent)}

theorem agg_of_ti {T : TypeId} {ti : TI} (h : ti.ok P T) : ∃ d, P.underlying T = some d ∧ ti.agg = aggB d := by
  obtain ⟨d, i, z, h1, h2, h3, h4, h5, _⟩ := tinfo_some h
  exact ⟨d, h1, h5⟩

/-- cells known at an address: what a load of a part of them gives -/
theorem partOf_load {T : TypeId} {ti : TI} (hti : ti.ok P T) {cs : List Cel} {vs : List Value} {k : Nat} {r : AV} {ad : Addr} (hv : CelsOk Z V vs cs) (h : partOf ti cs k = some r)
    (hc : ∀ j v, vs[j]? = some v → w.cell? (ad.add j) = some v) : ∃ u, AVOk Z V u r ∧ (Instr.loadAt T (.pointer (some (ad.add k)))).run P w = .ok u w := by
  unfold partOf at h
  by_cases hag : ti.agg = true
  · rw [if_pos hag] at h
    split at h
    · rename_i hle
      obtain rfl := Option.some.inj h
      have hl := hv.length
      refine ⟨.agg ((vs.drop k).take ti.size).toArray, .agg ((hv.drop k).take ti.size), ?_⟩
      have := run_load_at (P := P) (w := w) hti (ad.add k) ((vs.drop k).take ti.size) (by rw [List.length_take, List.length_drop]; omega) (fun j v hj => by
        rw [add_add]
        rw [List.getElem?_take] at hj
        split at hj
        · rw [List.getElem?_drop] at hj; exact hc _ _ hj
        · cases hj) (fun h => by rw [hag] at h; cases h)
      rw [this, hag]; rfl
    · cases h
  · have hf' : ti.agg = false := by simpa using hag
    rw [if_neg hag] at h
    split at h
    · rename_i hsz
      obtain ⟨c', hk, rfl⟩ := Option.map_eq_some_iff.1 h
      obtain ⟨u, hu, hdu⟩ := hv.get k hk
      refine ⟨u, .c hdu, ?_⟩
      have := run_load_at (P := P) (w := w) hti (ad.add k) [u] (by simp [hsz]) (fun j v hj => by
        match j with
        | 0 => simp at hj; subst hj; rw [add_add]; exact hc _ _ (by simpa using hu)
        | j + 1 => simp at hj) (fun _ => hsz)
      rw [this, hf']; rfl
    · cases h

/-- a row known at an address: what a load out of it gives -/
theorem loadRow_load {T : TypeId} {ti : TI} (hti : ti.ok P T) {ks : List Kd} {rows : List (List Pl)} {vs : List Value} {i : Int} {k : Nat} {c : Prop} {r : AV} {ad : Addr}
    (ht : typed ks rows) (hv : PlsOk Z vs rows.flatten) (h : loadRow tb ti ks rows i k = some (c, r)) (hcc : c)
    (hc : 0 < rows.length → ∀ j v, vs[j]? = some v → w.cell? (ad.add j) = some v) : ∃ u, AVOk Z V u r ∧ (Instr.loadAt T (.pointer (some (ad.add (i.toNat * ks.length + k))))).run P w = .ok u w := by
  unfold loadRow at h
  split at h
  case isFalse => cases h
  rename_i hks
  by_cases hag : ti.agg = true
  · rw [if_pos hag] at h
    simp only [Option.some.injEq, Prod.mk.injEq] at h
    obtain ⟨rfl, rfl⟩ := h
    rw [tb.O.eq] at hcc
    rw [plsAtS_eq]
    obtain ⟨us, k1, k2⟩ := plsAt_flat ht hv hcc.1 hcc.2 ((ks.drop k).take ti.size) k (fun j q hq => by
      rw [List.getElem?_take] at hq
      split at hq
      · rw [List.getElem?_drop] at hq; exact hq
      · cases hq)
    refine ⟨.agg us.toArray, .agg (CelsOk.ofPls k1), ?_⟩
    have hl := k1.length
    rw [plsAt_length, List.length_take, List.length_drop] at hl
    have := run_load_at (P := P) (w := w) hti (ad.add (i.toNat * ks.length + k)) us (by omega) (fun j v hj => by
      rw [add_add, Nat.add_assoc]
      exact hc (by omega) _ _ (k2 j v hj)) (fun h => by rw [hag] at h; cases h)
    rw [this, hag]; rfl
  · have hf' : ti.agg = false := by simpa using hag
    rw [if_neg hag] at h
    split at h
    · rename_i q hk
      split at h
      · rename_i hsz
        simp only [Option.some.injEq, Prod.mk.injEq] at h
        obtain ⟨rfl, rfl⟩ := h
        rw [tb.O.eq] at hcc
        rw [plAtS_eq]
        obtain ⟨u, k1, k2⟩ := plAt_flat ht hv hcc.1 hcc.2 hk
        refine ⟨u, .c (.p k2), ?_⟩
        have := run_load_at (P := P) (w := w) hti (ad.add (i.toNat * ks.length + k)) [u] (by simp [hsz]) (fun j v hj => by
          match j with
          | 0 => simp at hj; subst hj; rw [add_add]; exact hc (by omega) _ _ k1
          | j + 1 => simp at hj) (fun _ => hsz)
        rw [this, hf']; rfl
      · cases h
    · cases h

theorem opLoad_sound (htb : TbOk P tb) (hs : EnvOk B Z V es w) {T : TypeId} {x r : AV} {v : Value} {c : Prop}
    (hx : AVOk Z V v x) (h : opLoad tb (fun e => es.lookup e) T x = some (c, r)) (hc : c) :
    ∃ u, AVOk Z V u r ∧ (Instr.loadAt T v).run P w = .ok u w := by
  unfold opLoad at h
  split at h
  · rename_i e k
    split at h
    · rename_i ti cs t h1 h2
      obtain ⟨r', h3, h4⟩ := Option.map_eq_some_iff.1 h
      simp only [Prod.mk.injEq] at h4
      obtain ⟨-, rfl⟩ := h4
      obtain ⟨d, hV, ⟨vs, hd, hb⟩, _⟩ := hs.ents _ _ h2
      cases hx with | c hx => cases hx with | ptr hx =>
      rw [hV] at hx
      obtain rfl := Option.some.inj hx
      have := partOf_load (P := P) (w := w) (ad := ⟨d.blk, 0, none⟩) (htb.tab _ _ h1) hd h3 (fun j v hj => by
        have : (⟨d.blk, 0, none⟩ : Addr).add j = ⟨d.blk, j, none⟩ := by unfold Addr.add; split <;> simp_all
        rw [this, cell_of_row w d.blk j vs.toArray t (0, 0) hb]; simpa using hj)
      have e : (⟨d.blk, 0, none⟩ : Addr).add k = ⟨d.blk, k, none⟩ := by unfold Addr.add; split <;> simp_all
      rw [e] at this
      exact this
    · cases h
  · rename_i cs k
    split at h
    · rename_i ti h1
      obtain ⟨r', h3, h4⟩ := Option.map_eq_some_iff.1 h
      simp only [Prod.mk.injEq] at h4
      obtain ⟨-, rfl⟩ := h4
      cases hx with | c hx => cases hx with | rptr k1 k2 =>
      exact partOf_load (P := P) (w := w) (htb.tab _ _ h1) (CelsOk.ofPls k1) h3 (fun j v hj => hs.frz.cell (k2 j v hj))
    · cases h
  · rename_i e sz i k
    split at h
    · rename_i ti t ks rows h1 h2
      split at h
      · rename_i hsz
        subst hsz
        obtain ⟨d, vs, hV, ht, hv, _, _, hcells⟩ := hs.own h2
        cases hx with | c hx => cases hx with | elt hx hx2 =>
        rw [hV] at hx
        obtain rfl := Option.some.inj hx
        refine loadRow_load (htb.tab _ _ h1) ht hv h hc (fun hp j v hj => ?_)
        obtain ⟨ad', g1, g2⟩ := hcells hp
        rw [hx2] at g1
        obtain rfl := Option.some.inj g1
        exact g2 j v hj
      · cases h
    · cases h
  · rename_i ks rows i k
    split at h
    · rename_i ti h1
      cases hx with | c hx => cases hx with | relt k1 k2 k3 =>
      exact loadRow_load (htb.tab _ _ h1) k1 k2 h hc (fun _ j v hj => hs.frz.cell (k3 j v hj))
    · cases h
  · cases h

theorem addOff_sound {x r : AV} {v : Value} {off : Nat} (hx : AVOk Z V v x) (h : addOff off x = some r) : ∃ ad, v = .pointer (some ad) ∧ AVOk Z V (.pointer (some (ad.add off))) r := by
  unfold addOff at h
  split at h <;> (try (cases h; done)) <;> obtain rfl := Option.some.inj h
  · cases hx with | c hx => cases hx with | ptr hx =>
    refine ⟨_, rfl, ?_⟩
    rw [Addr.add_lit]; exact .c (.ptr hx)
  · cases hx with | c hx => cases hx with | elt hx h2 =>
    refine ⟨_, rfl, ?_⟩
    rw [add_add, Nat.add_assoc]; exact .c (.elt hx h2)
  · cases hx with | c hx => cases hx with | relt h1 h2 h3 =>
    refine ⟨_, rfl, ?_⟩
    rw [add_add, Nat.add_assoc]; exact .c (.relt h1 h2 h3)
  · cases hx with | c hx => cases hx with | rptr h1 h2 =>
    refine ⟨_, rfl, ?_⟩
    rw [add_add]; exact .c (.rptr h1 h2)
  · cases hx with | c hx => cases hx with | p hx => cases hx with | q h1 h2 h3 =>
    exact ⟨_, rfl, .c (.rptr h2 h3)⟩

theorem opFieldAddr_sound (htb : TbOk P tb) {T : TypeId} {f : Nat} {x r : AV} {v : Value} {c : Prop}
    (hx : AVOk Z V v x) (h : opFieldAddr tb T f x = some (c, r)) :
    ∃ u, AVOk Z V u r ∧ (Instr.fieldAt T v f).run P w = .ok u w := by
  unfold opFieldAddr at h
  (repeat' split at h) <;> (try (cases h; done))
  rename_i ti h1 _ off FT h2 _ fi h3 h4
  obtain ⟨r', h5, h6⟩ := Option.map_eq_some_iff.1 h
  simp only [Prod.mk.injEq] at h6
  obtain ⟨-, rfl⟩ := h6
  obtain ⟨ad, rfl, h7⟩ := addOff_sound hx h5
  refine ⟨_, h7, ?_⟩
  obtain ⟨d, i, z, hu, hi, _, _, _, _, _, hfl, _⟩ := tinfo_some (htb.tab _ _ h1)
  rw [hfl] at h2
  cases d with
  | struct fs =>
    simp only [List.getElem?_map, Option.map_eq_some_iff, Prod.mk.injEq] at h2
    obtain ⟨g, hg, rfl, rfl⟩ := h2
    have hg' : fs[f]? = some g := by simpa using hg
    simp only [Instr.fieldAt, Instr.sureAddr, Sem.run_bind, run_underlying hu, Result.andThen_ok, hg', fieldPlace, run_sizeOf (htb.tab _ _ h3), Sem.run_pure]
    rw [if_neg h4]; rfl
  | _ => simp at h2

theorem part_sound (htb : TbOk P tb) {T : TypeId} {fi : TI} (h3 : tb.tab.lookup T = some fi) {cs : List Cel} {vs : List Value} {off : Nat} {r : AV} (hv : CelsOk Z V vs cs) (h : partOf fi cs off = some r) :
    ∃ u, AVOk Z V u r ∧ (part T vs.toArray off).run P w = .ok u w := by
  have hti := htb.tab _ _ h3
  obtain ⟨d, hu, hag⟩ := agg_of_ti hti
  unfold partOf at h
  split at h
  · rename_i ha
    split at h
    · rename_i hle
      obtain rfl := Option.some.inj h
      refine ⟨.agg ((vs.drop off).take fi.size).toArray, .agg ((hv.drop off).take fi.size), ?_⟩
      have hl := hv.length
      simp only [part, Sem.run_bind, run_isAgg hu, Result.andThen_ok, ← hag, ha, if_true, run_sizeOf hti, Sem.run_pure]
      congr 2
      apply Array.ext'
      simp
    · cases h
  · rename_i ha
    split at h
    · obtain ⟨c, hc, rfl⟩ := Option.map_eq_some_iff.1 h
      obtain ⟨u, h1, h2⟩ := hv.get off hc
      refine ⟨u, .c h2, ?_⟩
      have ha' : fi.agg = false := by simpa using ha
      simp only [part, Sem.run_bind, run_isAgg hu, Result.andThen_ok, ← hag, ha', Bool.false_eq_true, if_false]
      simp [h1]
    · cases h

theorem opField_sound (htb : TbOk P tb) {T : TypeId} {f : Nat} {x r : AV} {v : Value} {c : Prop}
    (hx : AVOk Z V v x) (h : opField tb T f x = some (c, r)) :
    ∃ u, AVOk Z V u r ∧ (Instr.field T v f).run P w = .ok u w := by
  unfold opField at h
  (repeat' split at h) <;> (try (cases h; done))
  rename_i cs _ ti h1 _ off FT h2 _ fi h3
  obtain ⟨q, hq, hq2⟩ := Option.map_eq_some_iff.1 h
  simp only [Prod.mk.injEq] at hq2
  obtain ⟨-, rfl⟩ := hq2
  cases hx with | agg hvs =>
  rename_i vs
  obtain ⟨u, hu1, hu2⟩ := part_sound (w := w) htb h3 hvs hq
  obtain ⟨d, i, z, hu, hi, _, _, _, _, _, hfl, _⟩ := tinfo_some (htb.tab _ _ h1)
  rw [hfl] at h2
  cases d with
  | struct fs =>
    simp only [List.getElem?_map, Option.map_eq_some_iff, Prod.mk.injEq] at h2
    obtain ⟨g, hg, rfl, rfl⟩ := h2
    have hg' : fs[f]? = some g := by simpa using hg
    refine ⟨u, hu1, ?_⟩
    simp only [Instr.field, asAgg, Sem.run_bind, run_underlying hu, Result.andThen_ok, hg', Sem.run_pure]
    exact hu2
  | _ => simp at h2

theorem slElem_spec (htb : TbOk P tb) {T : TypeId} {ei : TI} (h : slElem tb T = some ei) : ∃ E, P.underlying T = some (.slice E) ∧ tb.tab.lookup E = some ei := by
  unfold slElem at h
  split at h
  · rename_i ti h1
    split at h
    · rename_i hsl
      obtain ⟨E, h2, h3⟩ := Option.bind_eq_some_iff.1 h
      obtain ⟨d, i, z, hu, hi, _, _, _, _, _, _, hel, hs, _⟩ := tinfo_some (htb.tab _ _ h1)
      rw [hs] at hsl
      cases d with
      | slice E' =>
        simp only at hel
        rw [hel] at h2
        obtain rfl := Option.some.inj h2
        exact ⟨_, hu, h3⟩
      | _ => simp at hsl
    · cases h
  · cases h

theorem arElem_spec (htb : TbOk P tb) {T : TypeId} {n : Nat} {ei : TI} (h : arElem tb T = some (n, ei)) : ∃ E, P.underlying T = some (.array n E) ∧ tb.tab.lookup E = some ei := by
  unfold arElem at h
  split at h
  · rename_i ti h1
    split at h
    · rename_i n' hn
      obtain ⟨E, h2, h3⟩ := Option.bind_eq_some_iff.1 h
      obtain ⟨ei', h4, h5⟩ := Option.map_eq_some_iff.1 h3
      simp only [Prod.mk.injEq] at h5
      obtain ⟨rfl, rfl⟩ := h5
      obtain ⟨d, i, z, hu, hi, _, _, _, _, _, _, hel, _, _, har, _⟩ := tinfo_some (htb.tab _ _ h1)
      rw [har] at hn
      cases d with
      | array m E' =>
        simp only at hel hn
        rw [hel] at h2
        obtain rfl := Option.some.inj h2
        obtain rfl := Option.some.inj hn
        exact ⟨_, hu, h4⟩
      | _ => simp at hn
    · cases h
  · cases h

theorem run_indexAt {T E : TypeId} {ei : TI} (hu : P.underlying T = some (.slice E)) (hei : ei.ok P E) {A : Option Addr} {ad : Addr} (hA : A = some ad) {n cap : Nat} {i : Int} (h0 : 0 ≤ i) (h1 : i < n) :
    (Instr.indexAt T (.slice A n cap) (.int .i64 i)).run P w = .ok (.pointer (some (ad.add (i.toNat * ei.size + 0)))) w := by
  simp only [Instr.indexAt, asIntOf, Sem.run_bind, Sem.run_pure, Result.andThen_ok, run_underlying hu, hA]
  rw [if_pos (by omega)]
  simp [run_sizeOf hei]

theorem opIndexAddr_sound (htb : TbOk P tb) (hs : EnvOk B Z V es w) {T : TypeId} {x y r : AV} {v u : Value} {c : Prop}
    (hx : AVOk Z V v x) (hy : AVOk Z V u y) (h : opIndexAddr tb (fun e => es.lookup e) T x y = some (c, r)) (hc : c) :
    ∃ q, AVOk Z V q r ∧ (Instr.indexAt T v u).run P w = .ok q w := by
  unfold opIndexAddr at h
  split at h
  · rename_i e n i
    split at h
    · rename_i ei t ks rows h1 h2
      split at h
      · rename_i hsz
        simp only [Option.some.injEq, Prod.mk.injEq] at h
        obtain ⟨rfl, rfl⟩ := h
        rw [tb.O.eq] at hc
        obtain ⟨E, hu, hE⟩ := slElem_spec htb h1
        obtain ⟨d, vs, hV, ht, hv, _, _, hcells⟩ := hs.own h2
        obtain ⟨ad, had, _⟩ := hcells (by omega)
        cases hx with | c hx => cases hx with | hdr hx =>
        rw [hV] at hx
        obtain rfl := Option.some.inj hx
        cases hy with | c hy => cases hy with | p hy => cases hy with | i =>
        exact ⟨_, .c (.elt hV had), run_indexAt hu (htb.tab _ _ hE) had hc.1 hc.2.1⟩
      · cases h
    · cases h
  · rename_i ks rows i
    split at h
    · rename_i ei h1
      split at h
      · rename_i hsz
        simp only [Option.some.injEq, Prod.mk.injEq] at h
        obtain ⟨rfl, rfl⟩ := h
        rw [tb.O.eq] at hc
        obtain ⟨E, hu, hE⟩ := slElem_spec htb h1
        cases hy with | c hy => cases hy with | p hy => cases hy with | i =>
        cases hx with | c hx => cases hx with | p hx =>
        cases hx with
        | r0 A cap => simp at hc; omega
        | r k1 k2 k3 k4 =>
          rename_i ad cap vs
          have := run_indexAt (w := w) hu (htb.tab _ _ hE) (A := some ad) rfl (n := rows.length) (cap := cap) hc.1 hc.2
          rw [hsz] at this
          exact ⟨_, .c (.relt k2 k3 k4), this⟩
      · cases h
    · cases h
  · cases h

theorem opIndexArr_sound (htb : TbOk P tb) {T : TypeId} {x y r : AV} {v u : Value} {c : Prop}
    (hx : AVOk Z V v x) (hy : AVOk Z V u y) (h : opIndexArr tb T x y = some (c, r)) (hc : c) :
    ∃ q, AVOk Z V q r ∧ (Instr.indexAt T v u).run P w = .ok q w := by
  unfold opIndexArr at h
  split at h
  · rename_i i
    split at h
    · rename_i n ei h1
      split at h
      · cases h
      · rename_i hsz
        obtain ⟨r', h5, h6⟩ := Option.map_eq_some_iff.1 h
        simp only [Prod.mk.injEq] at h6
        obtain ⟨rfl, rfl⟩ := h6
        rw [tb.O.eq] at hc
        obtain ⟨E, hu, hE⟩ := arElem_spec htb h1
        obtain ⟨ad, rfl, h7⟩ := addOff_sound hx h5
        cases hy with | c hy => cases hy with | p hy => cases hy with | i =>
        refine ⟨_, h7, ?_⟩
        simp only [Instr.indexAt, asIntOf, Sem.run_bind, Sem.run_pure, Result.andThen_ok, run_underlying hu, Instr.sureAddr]
        rw [if_pos (by omega)]
        simp [run_sizeOf (htb.tab _ _ hE), hsz]
    · cases h
  · cases h

theorem opIndex_sound (htb : TbOk P tb) {T : TypeId} {x y r : AV} {v u : Value} {c : Prop}
    (hx : AVOk Z V v x) (hy : AVOk Z V u y) (h : opIndex tb T x y = some (c, r)) (hc : c) :
    ∃ q, AVOk Z V q r ∧ (Instr.index T v u).run P w = .ok q w := by
  unfold opIndex at h
  split at h
  · rename_i cs i
    split at h
    · rename_i n ei h1
      obtain ⟨r', h5, h6⟩ := Option.map_eq_some_iff.1 h
      simp only [Prod.mk.injEq] at h6
      obtain ⟨rfl, rfl⟩ := h6
      rw [tb.O.eq] at hc
      obtain ⟨E, hu, hE⟩ := arElem_spec htb h1
      cases hx with | agg hvs =>
      cases hy with | c hy => cases hy with | p hy => cases hy with | i =>
      obtain ⟨q, k1, k2⟩ := part_sound (w := w) htb hE hvs h5
      refine ⟨q, k1, ?_⟩
      simp only [Instr.index, asIntOf, Sem.run_bind, Sem.run_pure, Result.andThen_ok, run_underlying hu]
      rw [if_pos (by omega)]
      simp [run_sizeOf (htb.tab _ _ hE), k2]
    · cases h
  · cases h

theorem opUn_sound {O : Th} {op : UnOp} {x r : AV} {v : Value} {c : Prop} (hx : AVOk Z V v x) (h : opUn O op x = some (c, r)) :
    ∃ u, AVOk Z V u r ∧ (Op.unary op v).run P w = .ok u w := by
  obtain rfl := O.uniq
  unfold opUn at h
  dsimp only [Th.std] at h
  split at h <;> (try (cases h; done)) <;> (simp only [Option.some.injEq, Prod.mk.injEq] at h; obtain ⟨-, rfl⟩ := h; cases hx; rename_i hx; cases hx; rename_i hx; cases hx)
  · exact ⟨_, .c (.p (.b _)), rfl⟩
  · rename_i y
    refine ⟨_, .c (.p (.i _)), ?_⟩
    show Result.ok (Value.int .i64 (IntKind.i64.wrap (0 - y))) w = _
    rw [i64_w]
  · rename_i y
    refine ⟨_, .c (.p (.u _)), ?_⟩
    show Result.ok (Value.int .u64 (IntKind.u64.wrap (0 - (y.toNat : Int)))) w = Result.ok (Value.int .u64 ((0 - y).toNat : Int)) w
    rw [← sub_u 0 y]; rfl
  · rename_i y
    refine ⟨_, .c (.p (.u _)), ?_⟩
    show Result.ok (Value.int .u64 (IntKind.u64.wrap ((BitVec.ofInt 64 IntKind.u64.max ^^^ BitVec.ofInt 64 (y.toNat : Int)).toNat : Int))) w = Result.ok (Value.int .u64 ((~~~y).toNat : Int)) w
    have e : BitVec.ofInt 64 IntKind.u64.max ^^^ BitVec.ofInt 64 (y.toNat : Int) = ~~~y := by
      have : BitVec.ofInt 64 IntKind.u64.max = BitVec.allOnes 64 := by decide
      rw [this, ofInt_toNat, BitVec.allOnes_xor]
    rw [e, u64_wrap_toNat]

theorem nk_spec (htb : TbOk P tb) {T : TypeId} {n : Nat} (h : nkOf tb T = n) (hn : n ≠ 0) : ∃ d, P.underlying T = some d ∧ n = nkD d := by
  unfold nkOf at h
  split at h
  · rename_i ti h1
    obtain ⟨d, i, z, hu, hi, _, _, _, _, _, _, _, _, hnk, _⟩ := tinfo_some (htb.tab _ _ h1)
    exact ⟨d, hu, by rw [← h, hnk]⟩
  · exact absurd h.symm hn

theorem eq_run {T : TypeId} {v u : Value} {b : Bool} (hk : ∀ d, (Op.equalIn (d + 1) T v u).run P w = .ok b w) : (Op.equal T v u).run P w = .ok b w := hk 9999

theorem nil_run {op : BinOp} {T : TypeId} {v u : Value} {b : Bool} (ox oy : Operand) (hk : ∀ d, (Op.equalIn (d + 1) T v u).run P w = .ok b w) (hop : op = .eql ∨ op = .neq)
    (hg : (eqGuard op T ox oy v u).run P w = .ok () w) (h1 : Go.binOp .eql T v u = (do pure (.bool (← Op.equal T v u)))) (h2 : Go.binOp .neq T v u = (do pure (.bool (!(← Op.equal T v u))))) :
    ((do eqGuard op T ox oy v u; Go.binOp op T v u) : Sem Value).run P w = .ok (.bool (if op = .eql then b else !b)) w := by
  rw [Sem.run_bind, hg, Result.andThen_ok]
  rcases hop with rfl | rfl
  · rw [h1, Sem.run_bind, eq_run hk]; rfl
  · rw [h2, Sem.run_bind, eq_run hk]; rfl

theorem isNil_sound (htb : TbOk P tb) {op : BinOp} {T : TypeId} {x y : AV} {v u : Value} {b : Bool} (ox oy : Operand)
    (hx : AVOk Z V v x) (hy : AVOk Z V u y) (h : isNil (nkOf tb T) x y = some b) (hop : op = .eql ∨ op = .neq) :
    ((do eqGuard op T ox oy v u; Go.binOp op T v u) : Sem Value).run P w = .ok (.bool (if op = .eql then b else !b)) w := by
  obtain ⟨n, hn⟩ : ∃ n, nkOf tb T = n := ⟨_, rfl⟩
  have hn0 : n ≠ 0 := by
    rintro rfl
    rw [hn] at h
    rw [isNil0] at h; cases h
  obtain ⟨d, hu, hd⟩ := nk_spec htb hn hn0
  rw [hn] at h
  rcases isNil_cases h with ⟨rfl, rfl, ⟨ks, rfl⟩, ⟨ks', rfl⟩ | rfl⟩ | ⟨rfl, rfl, ⟨rfl, rfl⟩ | ⟨⟨ks, cs, rfl⟩, rfl⟩ | ⟨⟨e, k, rfl⟩, rfl⟩⟩ | ⟨rfl, rfl, ⟨rfl, rfl⟩ | ⟨⟨g, fs, cs, rfl⟩, rfl⟩ | ⟨⟨g, fs, cs, rfl⟩, rfl⟩⟩ <;> cases d <;> (try (simp [nkD] at hd; done)) <;>
    (cases hx; rename_i hx; cases hy; rename_i hy; cases hy; rename_i hy; cases hy; cases hx)
  all_goals (try (rename_i hx; cases hx))
  all_goals (refine nil_run ox oy (fun d => ?_) hop ?_ rfl rfl <;> first | (simp [Op.equalIn, run_underlying hu]; done) | (rcases hop with rfl | rfl <;> simp [eqGuard]))

theorem opBin_sound (htb : TbOk P tb) {op : BinOp} {T : TypeId} {x y r : AV} {v u : Value} {c : Prop} (ox oy : Operand)
    (hx : AVOk Z V v x) (hy : AVOk Z V u y) (h : opBin tb op T x y = some (c, r)) (hc : c) :
    ∃ q, AVOk Z V q r ∧ ((do eqGuard op T ox oy v u; Go.binOp op T v u) : Sem Value).run P w = .ok q w := by
  unfold opBin at h
  split at h
  · rename_i b hb
    split at h <;> (try (cases h; done)) <;> (simp only [Option.some.injEq, Prod.mk.injEq] at h; obtain ⟨-, rfl⟩ := h)
    · exact ⟨_, .c (.p (.b _)), isNil_sound htb ox oy hx hy hb (.inl rfl)⟩
    · exact ⟨_, .c (.p (.b _)), isNil_sound htb ox oy hx hy hb (.inr rfl)⟩
  · split at h
    · rename_i a b
      obtain ⟨⟨c', q⟩, hq, hq2⟩ := Option.map_eq_some_iff.1 h
      simp only [Prod.mk.injEq] at hq2
      obtain ⟨rfl, rfl⟩ := hq2
      cases hx with | c hx => cases hx with | p hx =>
      cases hy with | c hy => cases hy with | p hy =>
      obtain ⟨q', h1, h2⟩ := abin_sound hx hy hq hc P w T ox oy
      exact ⟨q', .c (.p h2), h1⟩
    · rename_i xs ys
      split at h
      · rename_i ps qs ks h1 h2 h3
        have e1 := plains_some h1
        have e2 := plains_some h2
        subst e1; subst e2
        split at h
        · rename_i hk
          simp only [Bool.and_eq_true] at hk
          obtain ⟨⟨k1, k2⟩, k3⟩ := hk
          have k1 := kdsb_eq k1
          have k2 := kdsb_eq k2
          cases hx with | agg hx => cases hy with | agg hy =>
          have e3 := hx.toPls.dens (by rw [k1]; exact k3)
          have e4 := hy.toPls.dens (by rw [k2]; exact k3)
          subst e3; subst e4
          obtain ⟨j1, j2⟩ := htb.eqs _ _ h3 ps qs k1 k2 w ox oy
          split at h <;> (try (cases h; done)) <;> (simp only [Option.some.injEq, Prod.mk.injEq] at h; obtain ⟨-, rfl⟩ := h; rw [tb.O.eq])
          · exact ⟨_, .c (.p (.b _)), j1⟩
          · exact ⟨_, .c (.p (.b _)), j2⟩
        · cases h
      · cases h
    · cases h

theorem opLen_sound {O : Th} {T ty : TypeId} {E : TypeId} (hu : P.underlying T = some (.slice E)) {x r : AV} {v : Value} {c : Prop} (hx : AVOk Z V v x) (h : opLen O x = some (c, r)) :
    ∃ u, AVOk Z V u r ∧ (Builtin.len_ #[T] ty #[v]).run P w = .ok u w := by
  have key : ∀ A (n cap : Nat), (Builtin.len_ #[T] ty #[.slice A n cap]).run P w = .ok (.int .i64 n) w := fun A n cap => by
    simp [Builtin.len_, run_underlying hu, goInt]
  unfold opLen at h
  split at h <;> (try (cases h; done)) <;> (simp only [Option.some.injEq, Prod.mk.injEq] at h; obtain ⟨-, rfl⟩ := h; cases hx; rename_i hx)
  · rw [O.eq]; cases hx; exact ⟨_, .c (.p (.i _)), key _ _ _⟩
  · rw [O.eq]; cases hx; exact ⟨_, .c (.p (.i _)), key _ _ _⟩
  · cases hx; rename_i hx; cases hx; exact ⟨_, .c (.p (.i _)), key _ _ _⟩
  · rw [O.eq]
    cases hx; rename_i hx
    cases hx with
    | r0 A cap ks => exact ⟨_, .c (.p (.i _)), key _ _ _⟩
    | r => exact ⟨_, .c (.p (.i _)), key _ _ _⟩

end
end Go.Vx

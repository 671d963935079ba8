import Derived.Test.YtijaimiefcohbaaDoorX8
set_option linter.unusedSimpArgs false
set_option linter.unusedVariables false
set_option linter.constructorNameAsVariable false
namespace Go.Vx
open Go Go.RowKit

inductive PartsOk (Z : Zs) (V : Vl) : List (Nat × Value) → List (Nat × AV) → Prop
  | nil : PartsOk Z V [] []
  | cons {i : Nat} {v : Value} {x : AV} {us : List (Nat × Value)} {ps : List (Nat × AV)} (h : AVOk Z V v x) (hs : PartsOk Z V us ps) : PartsOk Z V ((i, v) :: us) ((i, x) :: ps)

theorem foldl_set (cs : Array Value) (off : Nat) : ∀ (vs : List Value) (j : Nat), off + j + vs.length ≤ cs.size →
    ((vs.zipIdx j).foldl (fun (cs : Array Value) (p : Value × Nat) => cs.setIfInBounds (off + p.2) p.1) cs).toList = cs.toList.take (off + j) ++ vs ++ cs.toList.drop (off + j + vs.length) := by
  intro vs
  induction vs generalizing cs with
  | nil => intro j _; simp
  | cons v vs ih =>
    intro j h
    simp only [List.length_cons] at h
    simp only [List.zipIdx_cons, List.foldl_cons]
    rw [ih (cs.setIfInBounds (off + j) v) (j + 1) (by simp; omega)]
    simp only [Array.toList_setIfInBounds]
    have hlt : off + j < cs.toList.length := by simp; omega
    rw [List.set_eq_take_append_cons_drop, if_pos hlt]
    have e1 : (cs.toList.take (off + j) ++ v :: cs.toList.drop (off + j + 1)).take (off + (j + 1)) = cs.toList.take (off + j) ++ [v] := by
      rw [List.take_append, List.length_take, Nat.min_eq_left (by omega), show off + (j + 1) - (off + j) = 1 from by omega, List.take_take, Nat.min_eq_right (by omega)]
      rfl
    have e2 : (cs.toList.take (off + j) ++ v :: cs.toList.drop (off + j + 1)).drop (off + (j + 1) + vs.length) = cs.toList.drop (off + j + (vs.length + 1)) := by
      rw [List.drop_append, List.length_take, Nat.min_eq_left (by omega), List.drop_eq_nil_of_le (by rw [List.length_take]; omega), List.nil_append, show off + (j + 1) + vs.length - (off + j) = vs.length + 1 from by omega, List.drop_succ_cons, List.drop_drop]
      congr 1; omega
    rw [e1, e2]
    simp

section
variable {P : Program} {cx : Cx} {B : Bs} {w : World} {Z : Zs} {V : Vl} {st : St} {a : Act} {o : Oper} {K : Act → World → Prop} {Q : Exit → Act → World → Prop}

theorem rdParts_sound (hs : Sat B Z V st a w) : ∀ {l : List (Nat × Operand)} {c : Prop} {ps : List (Nat × AV)}, rdParts st.ov l = some (c, ps) → c →
    PartsOk Z V (l.map fun q => (q.1, a.eval q.2)) ps
  | [], c, ps, h, _ => by
    simp only [rdParts, Option.some.injEq, Prod.mk.injEq] at h
    obtain ⟨-, rfl⟩ := h
    exact .nil
  | (i, x) :: l, c, ps, h, hc => by
    simp only [rdParts] at h
    split at h
    · rename_i c1 v c2 vs h1 h2
      simp only [Option.some.injEq, Prod.mk.injEq] at h
      obtain ⟨rfl, rfl⟩ := h
      exact .cons (rd_sound hs h1 hc.1) (rdParts_sound hs h2 hc.2)
    · cases h

theorem zip_fold (off : Nat) (v : Value) (cs : Array Value) : v.cells.zipIdx.foldl (fun cs (x : Value × Nat) => match x with | (c, j) => cs.setIfInBounds (off + j) c) cs = (v.cells.toList.zipIdx 0).foldl (fun (cs : Array Value) (p : Value × Nat) => cs.setIfInBounds (off + p.2) p.1) cs := by
  rw [← Array.foldl_toList, Array.toList_zipIdx]

theorem fill_sound (place : Nat → Option (Nat × Nat)) : ∀ {ps : List (Nat × AV)} {us : List (Nat × Value)} {cs cs' : List Cel} {vs : List Value}, PartsOk Z V us ps → CelsOk Z V vs cs → fillC place cs ps = some cs' →
    ∃ vs', CelsOk Z V vs' cs' ∧ Instr.fill place vs.toArray us = some vs'.toArray
  | [], us, cs, cs', vs, h, hv, hf => by
    cases h
    obtain rfl := Option.some.inj hf
    exact ⟨vs, hv, rfl⟩
  | (i, x) :: ps, us, cs, cs', vs, h, hv, hf => by
    cases h with | cons h1 h2 =>
    rename_i v us'
    simp only [fillC] at hf
    split at hf
    · cases hf
    · rename_i off size hp
      split at hf
      · rename_i hl
        obtain ⟨hl1, hl2⟩ := hl
        have hc := h1.cells
        have hcl := hc.length
        have hvl := hv.length
        obtain ⟨vs', k1, k2⟩ := fill_sound place h2 (((hv.take off).append hc).append (hv.drop (off + size))) hf
        refine ⟨vs', k1, ?_⟩
        have hsz : v.cells.size = size := by simpa using hcl.trans hl1
        simp only [Instr.fill, hp]
        rw [if_neg (by simp; omega)]
        rw [← k2]
        congr 1
        apply Array.ext'
        have := foldl_set vs.toArray off v.cells.toList 0 (by simp; omega)
        rw [zip_fold, this]
        simp [hsz]
      · cases hf

theorem run_places : ∀ {fs : List Field} {pl : List (Nat × Nat)}, places P fs = some pl →
    (fs.mapM (fun f => do pure (f.offset, ← sizeOf f.type)) : Sem (List (Nat × Nat))).run P w = .ok pl w
  | [], pl, h => by
    obtain rfl := Option.some.inj h
    rfl
  | f :: fs, pl, h => by
    simp only [places] at h
    split at h
    · rename_i i r h1 h2
      obtain rfl := Option.some.inj h
      have := run_places h2
      simp only [List.mapM_cons, Sem.run_bind, Sem.run_pure, sizeOf, typeInfo, run_program, Result.andThen_ok, h1] at this ⊢
      rw [this]
      rfl
    · cases h

theorem parts_map (parts : Array (Nat × Operand)) : (parts.map fun (i, x) => (i, a.eval x)).toList = parts.toList.map fun q => (q.1, a.eval q.2) := by simp

theorem effBuild_sound (htb : TbOk P cx.toTb) (hs : Sat B Z V st a w) (hd : ∀ d, o.dst = some d → d < st.nt) {T : TypeId} {parts : Array (Nat × Operand)} (hop : o.op = .build T parts)
    {E : Eff} (h : effBuild cx.toTb st.ov T parts.toList = some E) (hc : E.c) : Sound P B Z V st a w o E := by
  unfold effBuild at h
  split at h
  case h_2 => cases h
  rename_i ti c ps h1 h2
  obtain ⟨d, i, z, hu, hi, hz, ⟨hzs, hzo⟩, hag, hsz, _, hflds, hel, _, _, har, _, hpl2⟩ := tinfo_some (htb.tab _ _ h1)
  obtain ⟨z', hz1, hz2⟩ := run_zero (P := P) (w := w) (htb.tab _ _ h1) Z
  split at h
  · rename_i pl hpl
    split at h
    · rename_i cs hfl
      obtain rfl := Option.some.inj h
      have hden := rdParts_sound hs h2 hc
      obtain ⟨vs', k1, k2⟩ := fill_sound (V := V) _ hden (CelsOk.ofPls hz2) hfl
      refine sound_val hs hd rfl rfl (v := .agg vs'.toArray) (.a (.agg k1)) ?_
      rw [hpl2] at hpl
      cases d with
      | struct fields =>
        have hp := run_places (P := P) (w := w) hpl
        have hm : (fields.mapM (fun f => do pure (f.offset, ← sizeOf f.type)) : Sem (Array (Nat × Nat))).run P w = .ok pl.toArray w := by
          rw [Array.mapM_eq_mapM_toList]
          simp only [Sem.run_map, hp, Result.andThen_ok]
        have hk : Instr.fill (pl.toArray[·]?) z'.cells (parts.map fun (i, x) => (i, a.eval x)).toList = some vs'.toArray := by
          rw [← k2, parts_map]
          simp
        simp only [execOp, hop, Instr.build, Sem.run_bind, hz1, Result.andThen_ok, run_underlying hu, hm, hk]
        rfl
      | _ => cases hpl
    · cases h
  · rename_i n E' hpl hn hE
    split at h
    · rename_i ei h3
      split at h
      · rename_i cs hfl
        obtain rfl := Option.some.inj h
        have hden := rdParts_sound hs h2 hc
        obtain ⟨vs', k1, k2⟩ := fill_sound (V := V) _ hden (CelsOk.ofPls hz2) hfl
        refine sound_val hs hd rfl rfl (v := .agg vs'.toArray) (.a (.agg k1)) ?_
        rw [har] at hn
        rw [hel] at hE
        cases d with
        | array m E2 =>
          obtain rfl := Option.some.inj hn
          obtain rfl := Option.some.inj hE
          have hsz := run_sizeOf (P := P) (w := w) (htb.tab _ _ h3)
          have hk : Instr.fill (fun i => some (i * ei.size, ei.size)) z'.cells (parts.map fun (i, x) => (i, a.eval x)).toList = some vs'.toArray := by
            rw [← k2, parts_map]
          simp only [execOp, hop, Instr.build, Sem.run_bind, hz1, Result.andThen_ok, run_underlying hu, hsz, hk]
          rfl
        | _ => cases hn
      · cases h
    · cases h
  · cases h

theorem litRows_typed {O : Th} {en : En} {ks : List Kd} : ∀ {i : Nat} {ps : List (Nat × AV)} {c : Prop} {ids : List Nat} {rows : List (List Pl)}, litRows O en ks i ps = some (c, ids, rows) → typed ks rows
  | i, [], c, ids, rows, h => by
    simp only [litRows, Option.some.injEq, Prod.mk.injEq] at h
    obtain ⟨-, -, rfl⟩ := h
    intro r hr; cases hr
  | i, (j, v) :: ps, c, ids, rows, h => by
    simp only [litRows] at h
    split at h
    · rename_i c1 i1 qs d1 j1 rs h1 h2
      split at h
      · rename_i hij
        simp only [Option.some.injEq, Prod.mk.injEq] at h
        obtain ⟨-, -, rfl⟩ := h
        intro r hr
        rcases List.mem_cons.1 hr with rfl | hr
        · exact kdsb_eq hij.2
        · exact litRows_typed h2 r hr
      · cases h
    · cases h

theorem fill_lit {O : Th} {Z' : Zs} {es : List (Nat × Ent)} (hs : EnvOk B Z V es w) (hzz : Z.le Z') {ks : List Kd} {size : Nat} (hks : ks.length = size) : ∀ {i : Nat} {ps : List (Nat × AV)} {c : Prop} {ids : List Nat} {rows : List (List Pl)} {us : List (Nat × Value)} (cells : Array Value),
    litRows O (fun e => es.lookup e) ks i ps = some (c, ids, rows) → c → ZHas es V w Z' ids → PartsOk Z V us ps → (i + rows.length) * size ≤ cells.size →
    ∃ vs, PlsOk Z' vs rows.flatten ∧ ∀ cells : Array Value, (i + rows.length) * size ≤ cells.size → ∃ cells', Instr.fill (fun i => some (i * size, size)) cells us = some cells' ∧ cells'.toList = cells.toList.take (i * size) ++ vs ++ cells.toList.drop ((i + rows.length) * size)
  | i, [], c, ids, rows, us, _, h, hc, hz, hd, hl => by
    simp only [litRows, Option.some.injEq, Prod.mk.injEq] at h
    obtain ⟨-, -, rfl⟩ := h
    cases hd
    exact ⟨[], .nil, fun cells hl => ⟨cells, rfl, by simp⟩⟩
  | i, (j, x) :: ps, c, ids, rows, us, cells0, h, hc, hz, hd, hl0 => by
    cases hd with | cons h1 h2 =>
    rename_i v us'
    simp only [litRows] at h
    split at h
    case h_2 => cases h
    rename_i c1 i1 qs d1 j1 rs g1 g2
    split at h
    case isFalse => cases h
    rename_i hij
    simp only [Option.some.injEq, Prod.mk.injEq] at h
    obtain ⟨rfl, rfl, rfl⟩ := h
    obtain ⟨rfl, hk⟩ := hij
    have hcc := frzL_sound hs hzz h1.cells g1 hc.1 (hz.sub (fun e he => List.mem_append_left _ he))
    have hql : qs.length = size := by rw [← hks, ← kdsb_eq hk, List.length_map]
    have hsz : v.cells.size = size := by
      have := hcc.length
      simpa [hql] using this
    obtain ⟨vs, k0, kk⟩ := fill_lit hs hzz hks cells0 g2 hc.2 (hz.sub (fun e he => List.mem_append_right _ he)) h2 (by simp only [List.length_cons] at hl0; rw [show i + 1 + rs.length = i + (rs.length + 1) from by omega]; exact hl0)
    refine ⟨v.cells.toList ++ vs, by simp only [List.flatten_cons]; exact hcc.append k0, fun cells hl => ?_⟩
    simp only [List.length_cons] at hl
    have hle : i * size + size ≤ cells.size := by
      have : (i + 1) * size ≤ (i + (rs.length + 1)) * size := Nat.mul_le_mul_right _ (by omega)
      rw [Nat.succ_mul] at this; omega
    let cells1 : Array Value := v.cells.zipIdx.foldl (fun cs (x : Value × Nat) => match x with | (c, j) => cs.setIfInBounds (i * size + j) c) cells
    have hvl : v.cells.toList.length = size := by simpa using hsz
    have hc1 : cells1.toList = cells.toList.take (i * size) ++ v.cells.toList ++ cells.toList.drop (i * size + size) := by
      have := foldl_set cells (i * size) v.cells.toList 0 (by simp only [hvl]; omega)
      have hz : cells1 = (v.cells.toList.zipIdx 0).foldl (fun (cs : Array Value) (p : Value × Nat) => cs.setIfInBounds (i * size + p.2) p.1) cells := zip_fold _ _ _
      rw [hz, this]
      simp only [Nat.add_zero, hvl]
    have hcl : cells.toList.length = cells.size := by simp
    have hc1s : cells1.size = cells.size := by
      rw [← Array.length_toList, hc1]
      simp only [List.length_append, List.length_take, List.length_drop, hvl, hcl]; omega
    obtain ⟨cells', k1, k2⟩ := kk cells1 (by rw [hc1s]; rw [show i + 1 + rs.length = i + (rs.length + 1) from by omega]; exact hl)
    refine ⟨cells', ?_, ?_⟩
    · simp only [Instr.fill]
      rw [if_neg (by simp; omega)]
      exact k1
    · rw [k2, hc1]
      have hlen : (cells.toList.take (i * size) ++ v.cells.toList).length = (i + 1) * size := by
        rw [List.length_append, List.length_take, hvl, hcl, Nat.succ_mul]; omega
      have e1 : (cells.toList.take (i * size) ++ v.cells.toList ++ cells.toList.drop (i * size + size)).take ((i + 1) * size) = cells.toList.take (i * size) ++ v.cells.toList := by
        rw [List.take_append_of_le_length (by omega), List.take_of_length_le (by omega)]
      have e2 : (cells.toList.take (i * size) ++ v.cells.toList ++ cells.toList.drop (i * size + size)).drop ((i + 1 + rs.length) * size) = cells.toList.drop ((i + (rs.length + 1)) * size) := by
        have hge : (i + 1) * size ≤ (i + 1 + rs.length) * size := Nat.mul_le_mul_right _ (by omega)
        have heq : (i + 1) * size = i * size + size := Nat.succ_mul _ _
        rw [List.drop_append, List.drop_eq_nil_of_le (by omega), List.nil_append, hlen, List.drop_drop]
        congr 1
        rw [show i + 1 + rs.length = i + (rs.length + 1) from by omega] at hge ⊢
        omega
      rw [e1, e2]
      simp [List.length_cons]

theorem effBuildSlice_sound (htb : TbOk P cx.toTb) (hs : Sat B Z V st a w) (hd : ∀ d, o.dst = some d → d < st.nt) {T : TypeId} {len : Nat} {parts : Array (Nat × Operand)} (hop : o.op = .buildSlice T len parts)
    {E : Eff} (h : effBuildSlice cx.toTb st.ov (fun e => st.ents.lookup e) st.next T len parts.toList = some E) (hc : E.c) : Sound P B Z V st a w o E := by
  unfold effBuildSlice at h
  (repeat' split at h) <;> (try (cases h; done))
  rename_i ti c ps h1 h2 _ E' h3 _ ei h4 _ dd ids rows h5 hcond
  obtain ⟨hlen, hsl, hpos, hbig⟩ := hcond
  obtain rfl := Option.some.inj h
  have hti := htb.tab _ _ h1
  have hei := htb.tab _ _ h4
  obtain ⟨d, i, z, hu, _, _, _, _, _, _, _, hel, hsl2, _⟩ := tinfo_some hti
  rw [hsl2] at hsl
  cases d with
  | slice E2 =>
    simp only at hel
    rw [hel] at h3
    obtain rfl := Option.some.inj h3
    have hden := rdParts_sound hs h2 hc.1
    obtain ⟨z', hz1, hz2⟩ := run_zero (P := P) (w := w) hei Z
    have hks := ti_kinds_length hei
    obtain ⟨hs', hle⟩ := hs.freeze ids
    have hty := litRows_typed h5
    obtain ⟨vs, hvs, key0⟩ := fill_lit hs.toEnvOk hle hks ((Array.range (len * ei.size)).map (z'.cells[· % z'.cells.size]!)) h5 hc.2 (zhas_plus ids) hden (by simp [hlen])
    have key : ∀ (zz : Array Value), ∃ cells', Instr.fill (fun i => some (i * ei.size, ei.size)) ((Array.range (len * ei.size)).map (zz[· % zz.size]!)) (parts.map fun (i, x) => (i, a.eval x)).toList = some cells' ∧ cells'.toList = vs := by
      intro zz
      obtain ⟨cells', k1, k2⟩ := key0 ((Array.range (len * ei.size)).map (zz[· % zz.size]!)) (by simp [hlen])
      refine ⟨cells', by rw [parts_map]; exact k1, ?_⟩
      rw [k2]
      simp only [Nat.zero_mul, List.take_zero, List.nil_append, Nat.zero_add]
      rw [List.drop_eq_nil_of_le (by simp [hlen])]
      simp
    obtain ⟨cells', hf1, hf2⟩ := key z'.cells
    obtain ⟨cells0, hf01, hf02⟩ := key #[]
    have hrun : (execOp a.eval o).run P w = .ok (.value (.slice (some ⟨w.heap.size, 0, none⟩) len len)) (w.alloc (.cells vs.toArray E2)) := by
      simp only [execOp, hop, Instr.buildSlice, Sem.run_bind, run_underlying hu, Result.andThen_ok, run_sizeOf hei]
      rw [if_neg (by omega)]
      by_cases h0 : len * ei.size = 0
      · rw [h0] at hf01
        simp only [h0, if_true]
        simp only [pure_bind, hf01]
        simp only [newRow, Sem.run_bind, run_newObj, Result.andThen_ok, Sem.run_pure]
        have : cells0 = vs.toArray := by rw [← hf02]
        rw [this]; rfl
      · simp only [h0, if_false, Sem.run_bind, hz1, Result.andThen_ok, Sem.run_pure, hf1]
        simp only [newRow, Sem.run_bind, run_newObj, Result.andThen_ok, Sem.run_pure]
        have : cells' = vs.toArray := by rw [← hf2]
        rw [this]; rfl
    intro K Q g hg hK
    have hfl : vs.length = len * ei.size := by rw [hvs.length, flatten_length (typed_length hty), hlen, hks]
    have hadd := hs'.add (.own E2 ei.kinds rows) ⟨0, some ⟨w.heap.size, 0, none⟩, len⟩ (w' := w.alloc (.cells vs.toArray E2)) (alike_alloc w _) (fun k hk => heap_alloc_old w _ k hk)
      ⟨hty, vs, hvs, by rw [hfl, hlen, hks], .inr ⟨w.heap.size, len, vs.toArray, by rw [hlen], Nat.zero_le _, heap_alloc_new w _, by omega, by
        simp only [maxLen]
        have : len ≤ len * ei.size := Nat.le_mul_of_pos_right _ hpos
        omega, by simp [hfl, hks], by rw [hlen, hks, List.take_of_length_le (by simp [hfl])]⟩⟩
      (fun k hk => by simp [Ent.blk] at hk; omega)
    refine wp_value hrun (hK _ (V.set st.next ⟨0, some ⟨w.heap.size, 0, none⟩, len⟩) _ _ hle hadd.2 ?_)
    unfold St.app
    have hea : Sat B (Z.plus w (isBlk st.ents V (· ∈ ids))) (V.set st.next ⟨0, some ⟨w.heap.size, 0, none⟩, len⟩) (st.ea (newOr ids [.own E2 ei.kinds rows])) a (w.alloc (.cells vs.toArray E2)) := by
      cases ids with
      | nil =>
        refine hadd.1.ents_eq rfl (fun e => ?_) rfl rfl
        simp only [newOr, St.ea, addEnts, lookup_setK, lookup_delAll]
        split <;> simp
      | cons e l => exact hadd.1
    exact hea.put o.dst g _ _ (fun d h => by rw [St.ea_nt]; exact hd d h) (fun s h _ => by
      obtain rfl := Option.some.inj h
      exact .a (.c (.hdr (d := ⟨0, some ⟨w.heap.size, 0, none⟩, len⟩) (Vl.set_same _ _ _)))) (fun s _ h => by rw [hg] at h; cases h)
  | _ => simp at hsl

/-! ### append -/
theorem srcRows_sound {O : Th} (hs : EnvOk B Z V st.ents w) {x : AV} {v : Value} {c : Prop} {ks : List Kd} {rows : List (List Pl)} (hx : AVOk Z V v x) (h : srcRows O (fun e => st.ents.lookup e) x = some (c, ks, rows)) (hc : c) :
    typed ks rows ∧ ∃ A cap vs, v = .slice A rows.length cap ∧ PlsOk Z vs rows.flatten ∧ (0 < rows.length → ∃ ad, A = some ad ∧ ∀ j u, vs[j]? = some u → w.cell? (ad.add j) = some u) := by
  obtain rfl := O.uniq
  unfold srcRows at h
  dsimp only [Th.std] at h
  split at h
  · simp only [Option.some.injEq, Prod.mk.injEq] at h
    obtain ⟨-, rfl, rfl⟩ := h
    cases hx; rename_i hx; cases hx; rename_i hx; cases hx
    exact ⟨(fun r hr => by cases hr), none, 0, [], rfl, .nil, fun h => absurd h (by simp)⟩
  · simp only [Option.some.injEq, Prod.mk.injEq] at h
    obtain ⟨-, rfl, rfl⟩ := h
    cases hx; rename_i hx; cases hx; rename_i hx
    cases hx with
    | r0 A cap => exact ⟨(fun r hr => by cases hr), A, cap, [], rfl, .nil, fun h => absurd h (by simp)⟩
    | r h1 h2 h3 h4 => exact ⟨h2, _, _, _, rfl, h3, fun _ => ⟨_, rfl, fun j u hj => hs.frz.cell (h4 j u hj)⟩⟩
  · rename_i e n
    split at h
    · rename_i t ks' rows' he
      simp only [Option.some.injEq, Prod.mk.injEq] at h
      obtain ⟨rfl, rfl, rfl⟩ := h
      obtain ⟨d, vs, hV, ht, hv, ho, hcap, hcells⟩ := hs.own he
      cases hx; rename_i hx; cases hx; rename_i hx
      rw [hV] at hx
      obtain rfl := Option.some.inj hx
      have hl : (rows'.take n).length = n := by rw [List.length_take]; omega
      refine ⟨typed_take n ht, d.adr, d.cap, vs.take (n * ks'.length), by rw [hl], by rw [flatten_take n (typed_length ht)]; exact hv.take _, fun hp => ?_⟩
      rw [hl] at hp
      obtain ⟨ad, h1, h2⟩ := hcells (by omega)
      exact ⟨ad, h1, fun j u hj => h2 j u (by rw [List.getElem?_take] at hj; split at hj; exact hj; cases hj)⟩
    · cases h
  · rename_i e sz off n
    split at h
    · rename_i t ks' rows' he
      split at h
      · rename_i hsz
        subst hsz
        simp only [Option.some.injEq, Prod.mk.injEq] at h
        obtain ⟨rfl, rfl, rfl⟩ := h
        obtain ⟨d, vs, hV, ht, hv, ho, hcap, hcells⟩ := hs.own he
        cases hx; rename_i hx; cases hx; rename_i d2 A hx hA
        rw [hV] at hx
        obtain rfl := Option.some.inj hx
        have hl : ((rows'.drop off).take n).length = n := by rw [List.length_take, List.length_drop]; omega
        refine ⟨typed_take n (typed_drop off ht), A, d.cap - off, (vs.drop (off * ks'.length)).take (n * ks'.length), by rw [hl], by rw [flatten_take n (typed_length (typed_drop off ht)), flatten_drop off (typed_length ht)]; exact (hv.drop _).take _, fun hp => ?_⟩
        rw [hl] at hp
        obtain ⟨ad, h1, h2⟩ := hcells (by omega)
        refine ⟨ad.add (off * ks'.length), ?_, fun j u hj => ?_⟩
        · rcases hA with hA | hA
          · omega
          · rw [hA, h1]; rfl
        · rw [List.getElem?_take] at hj
          split at hj
          · rw [List.getElem?_drop] at hj
            rw [add_add]
            exact h2 _ u hj
          · cases hj
      · cases h
    · cases h
  · cases h

theorem ownsRow_adr {e : TypeId} {size n : Nat} {v : Value} {xs : List Value} {B : Nat} (h : w.ownsRow B e size v n xs) : ∃ A cap, v = .slice A n cap ∧ (∀ ad, A = some ad → v.ownBlock = some ad.block) ∧ (A = none → v.ownBlock = none) := by
  rcases h.2 with ⟨rfl, h2⟩ | ⟨g, cap, cur, rfl, _⟩
  · exact ⟨none, 0, by rw [h2], (fun ad h => nomatch h), fun _ => rfl⟩
  · exact ⟨_, cap, rfl, (fun ad h => by obtain rfl := Option.some.inj h; rfl), fun h => nomatch h⟩

/-- a row of ours, seen shorter -/
theorem ownsRow_take {B : Nat} {e : TypeId} {size n m : Nat} {A : Option Addr} {cap : Nat} {xs : List Value} (h : w.ownsRow B e size (.slice A n cap) n xs) (hm : m ≤ n) : w.ownsRow B e size (.slice A m cap) m (xs.take (m * size)) := by
  have hms : m * size ≤ n * size := Nat.mul_le_mul_right _ hm
  refine ⟨by rw [List.length_take, h.1]; omega, ?_⟩
  rcases h.2 with ⟨h1, h2⟩ | ⟨g, c, cur, h1, h2, h3, h4, h5, h6, h7⟩
  · injection h1 with e1 e2 e3
    subst e1; subst e3
    exact .inl ⟨by rw [show m = 0 by omega], by omega⟩
  · injection h1 with e1 e2 e3
    subst e1; subst e3
    exact .inr ⟨g, _, cur, rfl, h2, h3, by omega, h5, h6, by rw [← h7, List.take_take, Nat.min_eq_left hms]⟩

/-- the kit's law on append, at a row of ours and a source that may be nil -/
theorem run_append_any (P : Program) (w : World) (t ty e : TypeId) (i : TypeInfo) (z : Value) (size bytes : Nat) (ht : P.underlying t = some (.slice e)) (hi : P.info? e = some i) (hz : i.zero = some z)
    (hsize : i.size = size) (hby : i.bytes = bytes) (hzs : z.cells.size = size) (hsz : 0 < size)
    (v : Value) (n : Nat) (xs : List Value) (hown : w.ownsRow 0 e size v n xs)
    (A : Option Addr) (m c : Nat) (news : List Value) (hl : news.length = m * size) (hnews : 0 < m → ∃ ad, A = some ad ∧ ∀ j u, news[j]? = some u → w.cell? (ad.add j) = some u) (h1 : ∀ u ∈ news, u.oneCell' = true)
    (h63 : n + m ≤ maxLen) (hbytes : (n + m) * bytes ≤ 140737488355328) :
    ∃ v' w', (Builtin.append_ #[t, t] ty #[v, .slice A m c]).run P w = .ok v' w' ∧ w'.ownsRow 0 e size v' (n + m) (xs ++ news) ∧ w.grownBy w' v.ownBlock ∧ (∀ k, v'.ownBlock = some k → v.ownBlock = some k ∨ w.heap.size ≤ k) := by
  cases A with
  | none =>
    have hm : m = 0 := by
      rcases Nat.eq_zero_or_pos m with h | h
      · exact h
      · obtain ⟨ad, h, _⟩ := hnews h; cases h
    subst hm
    have hn : news = [] := List.eq_nil_of_length_eq_zero (by simpa using hl)
    subst hn
    refine ⟨v, w, ?_, by simpa using hown, ⟨rfl, rfl, rfl, Nat.le_refl _, fun _ _ _ => rfl⟩, fun k hk => .inl hk⟩
    rcases hown.2 with ⟨rfl, rfl⟩ | ⟨g, cap, cur, rfl, _, _, hnc, _⟩
    · simp [Builtin.append_, run_underlying ht, sizeOf, typeInfo, hi, Builtin.lenOf, Builtin.firstCells]
    · simp [Builtin.append_, run_underlying ht, sizeOf, typeInfo, hi, Builtin.lenOf, Builtin.firstCells, hnc, storeCells]
  | some ad =>
    have hnews' : ∀ j u, news[j]? = some u → w.cell? (ad.add j) = some u := by
      intro j u hj
      rcases Nat.eq_zero_or_pos m with h | h
      · subst h
        have hn : news = [] := List.eq_nil_of_length_eq_zero (by simpa using hl)
        subst hn
        simp at hj
      · obtain ⟨ad', h1', h2'⟩ := hnews h
        obtain rfl := Option.some.inj h1'
        exact h2' j u hj
    obtain ⟨v', w', hr, h2, h3, h4⟩ := run_append_own (P := P) w 0 t ty e i z size bytes ht hi hz hsize hby hzs hsz v n xs hown ad m c news hl hnews' h1 h63 hbytes (Nat.zero_le _)
    refine ⟨v', w', hr, h2, h3, fun k hk => ?_⟩
    subst hsize
    subst hby
    have hsmall : n + m ≤ 9223372036854775807 := by simp only [maxLen] at h63; omega
    rcases hown.2 with ⟨rfl, rfl⟩ | ⟨g, cap, cur, rfl, _, hg, hnc, hcm, hcs, htake⟩
    · by_cases hm : m = 0
      · have := h4.2 ⟨rfl, hm⟩
        rw [this] at hk
        cases hk
      · have hr2 := run_append_nil (P := P) w t ty e i z ht hi hz ad m c news hl hnews' (by omega) (by omega) (by have hb := hbytes; simp only [Nat.zero_add] at hb; omega)
        rw [hr] at hr2
        injection hr2 with e1 _
        rw [e1] at hk
        simp [Value.ownBlock] at hk
        omega
    · by_cases hroom : n + m ≤ cap
      · have hfit : n * i.size + news.length ≤ cur.size := by rw [hl, hcs, ← Nat.add_mul]; exact Nat.mul_le_mul_right _ hroom
        have hr2 := run_append_room (P := P) w t ty e i ht hi g n cap cur hg ad m c news hl hnews' h1 hroom hfit
        rw [hr] at hr2
        injection hr2 with e1 _
        rw [e1] at hk
        exact .inl hk
      · have holds : ∀ j u, xs[j]? = some u → w.cell? ((⟨g, 0, none⟩ : Addr).add j) = some u := hown.cells (g := g) rfl
        have hr2 := run_append_grow (P := P) w t ty e i z ht hi hz ⟨g, 0, none⟩ n cap xs hown.1 holds ad m c news hl hnews' (by omega) (by omega) (growslice_fits (by omega) hbytes)
        rw [hr] at hr2
        injection hr2 with e1 _
        rw [e1] at hk
        simp [Value.ownBlock] at hk
        omega

theorem ownBlk (A : Option Addr) (m q : Nat) : (Value.slice A m q).ownBlock = A.map (·.block) := by cases A <;> rfl

theorem effAppend_sound (htb : TbOk P cx.toTb) (hs : Sat B Z V st a w) (hd : ∀ d, o.dst = some d → d < st.nt) {T : TypeId} {sx x : Operand} (hop : o.op = .call { callee := .builtin .append, args := #[sx, x], argTypes := #[T, T] })
    {c d : Prop} {sv xv : AV} (hp : rd st.ov sx = some (c, sv)) (hx : rd st.ov x = some (d, xv)) (hc : c) (hdd : d) {E E' : Eff}
    (h : effAppend cx.toTb (fun e => st.ents.lookup e) st.next T sv xv = some E') (hEc : E'.c) (hE : E.ea = E'.ea) (hEv : E.val = E'.val) : Sound P B Z V st a w o E := by
  have hu1 := rd_sound hs hp hc
  have hy1 := rd_sound hs hx hdd
  unfold effAppend at h
  split at h
  case h_2 => cases h
  rename_i ti cxx kx rx h1 h2
  split at h
  case h_2 => cases h
  rename_i E' h3
  split at h
  case h_2 => cases h
  rename_i ei h4
  split at h
  case isFalse => cases h
  rename_i hcond
  obtain ⟨hkx, hsl, hpos⟩ := hcond
  obtain rfl := kdsb_eq hkx
  have hti := htb.tab _ _ h1
  have hei := htb.tab _ _ h4
  have hks := ti_kinds_length hei
  obtain ⟨dd, i, z, hu, _, _, _, _, _, _, _, hel, hsl2, _⟩ := tinfo_some hti
  obtain ⟨_, ii, zz, _, hii, hzz, ⟨hzs, _⟩, _, hsz, hby, _⟩ := tinfo_some hei
  rw [hsl2] at hsl
  cases dd with
  | slice E2 =>
    simp only at hel
    rw [hel] at h3
    obtain rfl := Option.some.inj h3
    have main : ∀ (n : Nat) (v : Value) (vs : List Value), w.ownsRow 0 E2 ei.kinds.length v n vs → a.eval sx = v → cxx → (n + rx.length) * ei.bytes ≤ 140737488355328 → n + rx.length ≤ 9223372036854775807 →
        ∃ v' w' news, (execOp a.eval o).run P w = .ok (.value v') w' ∧ PlsOk Z news rx.flatten ∧ typed ei.kinds rx ∧ w'.ownsRow 0 E2 ei.kinds.length v' (n + rx.length) (vs ++ news) ∧ w.grownBy w' v.ownBlock ∧ (∀ k, v'.ownBlock = some k → v.ownBlock = some k ∨ w.heap.size ≤ k) := by
      intro n v vs hown huv hcx hb1 hb2
      obtain ⟨htx, A, cap, news, hyv, hnews, hcells⟩ := srcRows_sound hs.toEnvOk hy1 h2 hcx
      obtain ⟨v', w', hr, k1, k2, k3⟩ := run_append_any P w T o.type E2 ii zz ei.kinds.length ei.bytes hu hii hzz (by rw [hks, hsz]) (by rw [hby]) (by rw [hzs, hks, hsz]) (by rw [hks]; exact hpos)
        v n vs hown A rx.length cap news (by rw [hnews.length, flatten_length (typed_length htx)]) hcells hnews.one (by simp only [maxLen]; omega) hb1
      refine ⟨v', w', news, ?_, hnews, htx, k1, k2, k3⟩
      simp only [execOp, hop, resolve, invoke, builtin, Sem.run_bind, Sem.run_pure, Result.andThen_ok, List.map_toArray, List.map_cons, List.map_nil, huv, hyv, hr]
    split at h
    · rename_i e n
      split at h
      · rename_i E3 ks rows he
        split at h
        · rename_i hek
          obtain ⟨rfl, hek⟩ := hek
          obtain rfl := kdsb_eq hek
          obtain rfl := Option.some.inj h
          rw [cx.O.eq] at hEc
          obtain ⟨hcx, hn, hb1, hb2⟩ := hEc
          obtain ⟨d0, vs, hV, ht, hv, hown, _⟩ := hs.toEnvOk.own he
          generalize huu : a.eval sx = u at hu1
          cases hu1; rename_i hu1; cases hu1; rename_i d9 hu1
          rw [hV] at hu1
          obtain rfl := Option.some.inj hu1
          obtain ⟨v', w', news, hrun, hnews, htx, k1, k2, k3⟩ := main n (.slice d0.adr n d0.cap) (vs.take (n * ei.kinds.length)) (ownsRow_take hown hn) huu hcx hb1 hb2
          obtain ⟨A', cap', rfl, hA1, hA2⟩ := ownsRow_adr k1
          simp only [ownBlk] at k2 k3
          intro K Q g hg hK
          have hlen : (rows.take n ++ rx).length = n + rx.length := by rw [List.length_append, List.length_take, Nat.min_eq_left hn]
          have hmv := hs.move he hV (.own E3 ei.kinds (rows.take n ++ rx)) ⟨0, A', cap'⟩ ⟨k2.os, k2.tape, k2.output, k2.size⟩
            (fun k hk hne => k2.block k hk (fun h => hne (by simp only [Ent.blk]; exact h.symm)))
            ⟨typed_append (typed_take n ht) htx, vs.take (n * ei.kinds.length) ++ news, by
              rw [List.flatten_append, flatten_take n (typed_length ht)]; exact (hv.take _).append hnews, by rw [hlen]; exact k1⟩ (fun k hk => by
              simp only [Ent.blk] at hk ⊢
              exact k3 k hk)
          refine wp_value hrun (hK Z (V.set st.next ⟨0, A', cap'⟩) _ _ (Zs.le_refl Z) hmv.2 ?_)
          unfold St.app
          rw [hE, hEv]
          have hea : Sat B Z (V.set st.next ⟨0, A', cap'⟩) (st.ea (.upd [e] [] [.own E3 ei.kinds (cx.O.th fun _ => rows.take n ++ rx)])) a w' := by
            refine hmv.1.ents_eq rfl (fun e' => ?_) rfl rfl
            simp only [St.ea, addEnts, putAll, lookup_setK, lookup_delAll, lookup_delK, cx.O.eq]
            split
            · rfl
            · by_cases he' : e' = e
              · subst he'; simp
              · simp [he']
          exact hea.put o.dst g _ _ (fun d h => by rw [St.ea_nt]; exact hd d h) (fun s h _ => by
            obtain rfl := Option.some.inj h
            rw [cx.O.eq]
            exact .a (.c (.hdr (d := ⟨0, A', cap'⟩) (Vl.set_same _ _ _)))) (fun s _ h => by rw [hg] at h; cases h)
        · cases h
      · cases h
    · obtain rfl := Option.some.inj h
      rw [cx.O.eq] at hEc
      obtain ⟨hcx, hb1, hb2⟩ := hEc
      generalize huu : a.eval sx = u at hu1
      cases hu1; rename_i hu1; cases hu1; rename_i hu1; cases hu1
      obtain ⟨v', w', news, hrun, hnews, htx, k1, k2, k3⟩ := main 0 (.slice none 0 0) [] (World.ownsRow_nil w 0 E2 _) huu hcx (by simpa using hb1) (by simpa using hb2)
      simp only [Nat.zero_add, List.nil_append] at k1
      obtain ⟨A', cap', rfl, hA1, hA2⟩ := ownsRow_adr k1
      intro K Q g hg hK
      have hmv := hs.add (.own E2 ei.kinds rx) ⟨0, A', cap'⟩ ⟨k2.os, k2.tape, k2.output, k2.size⟩
        (fun k hk => k2.block k hk (fun h => by simp [Value.ownBlock] at h))
        ⟨htx, news, hnews, k1⟩ (fun k hk => by
          simp only [Ent.blk] at hk
          rcases k3 k (by rw [ownBlk]; exact hk) with h | h
          · simp [Value.ownBlock] at h
          · exact h)
      refine wp_value hrun (hK Z (V.set st.next ⟨0, A', cap'⟩) _ _ (Zs.le_refl Z) hmv.2 ?_)
      unfold St.app
      rw [hE, hEv]
      exact hmv.1.put o.dst g _ _ hd (fun s h _ => by
        obtain rfl := Option.some.inj h
        rw [cx.O.eq]
        exact .a (.c (.hdr (d := ⟨0, A', cap'⟩) (Vl.set_same _ _ _)))) (fun s _ h => by rw [hg] at h; cases h)
    · cases h
  | _ => simp at hsl

end
end Go.Vx

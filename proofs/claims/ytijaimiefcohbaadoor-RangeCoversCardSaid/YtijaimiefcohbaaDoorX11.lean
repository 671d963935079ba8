import Derived.Test.YtijaimiefcohbaaDoorX10
set_option linter.unusedSimpArgs false
set_option linter.unusedVariables false
set_option linter.constructorNameAsVariable false
namespace Go.Vx
open Go Go.RowKit

section
variable {P : Program} {tb : Tb} {cx : Cx} {B : Bs} {w : World} {Z : Zs} {V : Vl} {st : St} {a : Act} {o : Oper} {K : Act → World → Prop} {Q : Exit → Act → World → Prop}

theorem bound_sound (hs : Sat B Z V st a w) {x : Option Operand} {c : Prop} {n : Option Int} (h : bound st.ov x = some (c, n)) (hc : c) : x.map a.eval = n.map (fun i => Value.int .i64 i) := by
  cases x with
  | none =>
    simp only [bound, Option.some.injEq, Prod.mk.injEq] at h
    obtain ⟨-, rfl⟩ := h
    rfl
  | some y =>
    simp only [bound] at h
    split at h
    · rename_i c' m hr
      simp only [Option.some.injEq, Prod.mk.injEq] at h
      obtain ⟨rfl, rfl⟩ := h
      have := rd_sound hs hr hc
      simp only [Option.map_some]
      generalize a.eval y = u at this
      cases this; rename_i this; cases this; rename_i this; cases this
      rfl
    · cases h

theorem run_bound (i : Int) (y : Nat) (code : BoundsCode) (h0 : 0 ≤ i) (h1 : i ≤ y) : (Instr.sliceBound (.int .i64 i) y code).run P w = .ok i.toNat w := by
  simp only [Instr.sliceBound, asIntOf, Sem.run_bind, Sem.run_pure, Result.andThen_ok]
  rw [if_pos ⟨h0, h1⟩]
  rfl

theorem run_sliceAt {T E : TypeId} {ei : TI} (hu : P.underlying T = some (.slice E)) (hei : ei.ok P E) (A : Option Addr) (n cap : Nat) (l h : Option Int) (h0 : 0 ≤ l.getD 0) (h1 : l.getD 0 ≤ h.getD n) (h2 : h.getD n ≤ cap) :
    (Instr.sliceAt T (.slice A n cap) (l.map (fun i => Value.int .i64 i)) (h.map (fun i => Value.int .i64 i)) none).run P w =
      .ok (.slice (if cap = (l.getD 0).toNat then A else A.map (·.add ((l.getD 0).toNat * ei.size))) ((h.getD n).toNat - (l.getD 0).toNat) (cap - (l.getD 0).toNat)) w := by
  have hb : (Instr.sliceBounds true n cap (l.map (fun i => Value.int .i64 i)) (h.map (fun i => Value.int .i64 i)) none).run P w = .ok ((l.getD 0).toNat, (h.getD n).toNat, cap) w := by
    cases l with
    | none => cases h with
      | none => simp [Instr.sliceBounds]
      | some h => simp only [Instr.sliceBounds, Option.map_some, Option.map_none, Option.getD_some, Option.getD_none] at *; simp [run_bound h cap _ (by omega) h2]
    | some l => cases h with
      | none =>
        simp only [Option.getD_some, Option.getD_none] at h0 h1 h2
        simp [Instr.sliceBounds, run_bound l n _ h0 (by omega)]
      | some h =>
        simp only [Option.getD_some] at h0 h1 h2
        simp [Instr.sliceBounds, run_bound h cap _ (by omega) h2, run_bound l h.toNat _ h0 (by omega)]
  simp only [Instr.sliceAt, Instr.slice, Sem.run_bind, run_underlying hu, Result.andThen_ok, hb, run_sizeOf hei]
  rfl

theorem add_zero' (A : Option Addr) : A.map (·.add 0) = A := by cases A <;> simp [Addr.add]

theorem opSlice_sound (htb : TbOk P tb) (hs : EnvOk B Z V st.ents w) {T : TypeId} {x r : AV} {v : Value} {l h : Option Int} {c : Prop} (hx : AVOk Z V v x) (hh : opSlice tb (fun e => st.ents.lookup e) T x l h = some (c, r)) (hc : c) :
    ∃ u, AVOk Z V u r ∧ (Instr.sliceAt T v (l.map (fun i => Value.int .i64 i)) (h.map (fun i => Value.int .i64 i)) none).run P w = .ok u w := by
  unfold opSlice at hh
  split at hh
  case h_2 => cases hh
  rename_i ei h1
  obtain ⟨E, hu, hE⟩ := slElem_spec htb h1
  have hei := htb.tab _ _ hE
  split at hh
  · rename_i _ ks rows
    split at hh
    · rename_i hsz
      simp only [Option.some.injEq, Prod.mk.injEq] at hh
      obtain ⟨rfl, rfl⟩ := hh
      rw [tb.O.eq] at hc
      rw [tb.O.eq]
      obtain ⟨c0, c1, c2⟩ := hc
      cases hx; rename_i hx; cases hx; rename_i hx
      generalize hlo : l.getD 0 = lo at *
      cases hx with
      | r0 A cap =>
        simp only [List.length_nil] at c1 c2
        have hr := run_sliceAt (w := w) hu hei A 0 cap l h (by omega) (by simp only [Int.natCast_zero] at *; omega) (by simp only [Int.natCast_zero] at *; omega)
        refine ⟨_, ?_, hr⟩
        have e1 : (h.getD ((0 : Nat) : Int)).toNat - (l.getD 0).toNat = 0 := by simp only [Int.natCast_zero] at *; omega
        rw [e1]
        simp only [List.take_nil, List.drop_nil]
        exact .c (.p (.r0 _ _ _))
      | @r ad cap _ _ vs k1 k2 k3 k4 =>
        have hr := run_sliceAt (w := w) hu hei (some ad) rows.length cap l h (by omega) (by omega) (by omega)
        refine ⟨_, ?_, hr⟩
        rw [hlo]
        generalize h.getD (rows.length : Int) = hi at *
        have hlen : ((rows.take hi.toNat).drop lo.toNat).length = hi.toNat - lo.toNat := by rw [List.length_drop, List.length_take]; omega
        rcases Nat.eq_zero_or_pos (hi.toNat - lo.toNat) with hz | hz
        · have : (rows.take hi.toNat).drop lo.toNat = [] := List.eq_nil_of_length_eq_zero (by omega)
          rw [this, hz]
          exact .c (.p (.r0 _ _ _))
        · rw [if_neg (by omega)]
          rw [← hlen]
          refine .c (.p (.r (by omega) (typed_drop _ (typed_take _ k2)) (vs := (vs.take (hi.toNat * ks.length)).drop (lo.toNat * ks.length)) ?_ ?_))
          · rw [flatten_drop lo.toNat (typed_length (typed_take _ k2)), flatten_take hi.toNat (typed_length k2)]
            exact (k3.take _).drop _
          · intro j u hj
            rw [List.getElem?_drop, List.getElem?_take] at hj
            split at hj
            · rw [add_add, hsz]; exact k4 _ u hj
            · cases hj
    · cases hh
  · rename_i ks _
    simp only [Option.some.injEq, Prod.mk.injEq] at hh
    obtain ⟨rfl, rfl⟩ := hh
    rw [tb.O.eq] at hc
    obtain ⟨c0, c1⟩ := hc
    cases hx; rename_i hx; cases hx; rename_i hx; cases hx
    have hr := run_sliceAt (w := w) hu hei none 0 0 l h (by omega) (by simp only [Int.natCast_zero]; omega) (by simp only [Int.natCast_zero]; omega)
    refine ⟨_, ?_, hr⟩
    simp only [Int.natCast_zero, c0, c1]
    exact .c (.p (.n _))
  · rename_i e n
    split at hh
    · rename_i t ks rows he
      split at hh
      · rename_i hsz
        simp only [Option.some.injEq, Prod.mk.injEq] at hh
        obtain ⟨rfl, rfl⟩ := hh
        rw [tb.O.eq] at hc
        rw [tb.O.eq]
        obtain ⟨d, vs, hV, ht, hv, ho, hcap, _⟩ := hs.own he
        cases hx; rename_i hx; cases hx; rename_i d2 hx
        rw [hV] at hx
        obtain rfl := Option.some.inj hx
        have hr := run_sliceAt (w := w) hu hei d.adr n d.cap none h (by simp) (by simpa using hc.1) (by omega)
        refine ⟨_, ?_, hr⟩
        simp only [Option.getD_none, Int.toNat_zero, Nat.zero_mul, add_zero', ite_self, Nat.sub_zero]
        exact .c (.hdr hV)
      · cases hh
    · cases hh
  · rename_i e n l
    split at hh
    · rename_i t ks rows he
      split at hh
      · rename_i hsz
        simp only [Option.some.injEq, Prod.mk.injEq] at hh
        obtain ⟨rfl, rfl⟩ := hh
        rw [tb.O.eq] at hc
        rw [tb.O.eq, tb.O.eq]
        obtain ⟨d, vs, hV, ht, hv, ho, hcap, _⟩ := hs.own he
        cases hx; rename_i hx; cases hx; rename_i d2 hx
        rw [hV] at hx
        obtain rfl := Option.some.inj hx
        have hr := run_sliceAt (w := w) hu hei d.adr n d.cap (some l) h (by simpa using hc.1) (by simpa using hc.2.1) (by omega)
        refine ⟨_, ?_, hr⟩
        simp only [Option.getD_some]
        have e1 : (h.getD (n : Int)).toNat - l.toNat = (h.getD (n : Int) - l).toNat := by omega
        rw [e1]
        refine .c (.sub hV ?_)
        split
        · left; omega
        · right; rw [hsz]
      · cases hh
    · cases hh
  · cases hh

/-! ### copy, make -/
theorem flatten_copy {n m k : Nat} {rows src : List (List Pl)} (hr : ∀ r ∈ rows, r.length = n) (hs : ∀ r ∈ src, r.length = n) : (src.take m ++ rows.drop k).flatten = src.flatten.take (m * n) ++ rows.flatten.drop (k * n) := by
  rw [List.flatten_append, flatten_take m hs, flatten_drop k hr]

theorem effCopy_sound (htb : TbOk P cx.toTb) (hs : Sat B Z V st a w) (hd : ∀ d, o.dst = some d → d < st.nt) {T : TypeId} {sx x : Operand} (hop : o.op = .call { callee := .builtin .copy, args := #[sx, x], argTypes := #[T, T] })
    {c d : Prop} {sv xv : AV} (hp : rd st.ov sx = some (c, sv)) (hx : rd st.ov x = some (d, xv)) (hc : c) (hdd : d) {E E' : Eff}
    (h : effCopy cx.toTb (fun e => st.ents.lookup e) T sv xv = some E') (hEc : E'.c) (hE : E.ea = E'.ea) (hEv : E.val = E'.val) : Sound P B Z V st a w o E := by
  have hu1 := rd_sound hs hp hc
  have hy1 := rd_sound hs hx hdd
  unfold effCopy at h
  split at h
  case h_2 => cases h
  rename_i ti cxx kx rx h1 h2
  split at h
  case h_2 => cases h
  rename_i E' h3
  split at h
  case h_2 => cases h
  rename_i ei h4
  split at h
  case isFalse => cases h
  rename_i hcond
  obtain ⟨hkx, hsl, hpos⟩ := hcond
  obtain rfl := kdsb_eq hkx
  have hti := htb.tab _ _ h1
  have hei := htb.tab _ _ h4
  have hks := ti_kinds_length hei
  obtain ⟨dd, i, z, hu, _, _, _, _, _, _, _, hel, hsl2, _⟩ := tinfo_some hti
  rw [hsl2] at hsl
  cases dd with
  | slice E2 =>
    simp only at hel
    rw [hel] at h3
    obtain rfl := Option.some.inj h3
    split at h
    case h_2 => cases h
    rename_i e n
    split at h
    case h_2 => cases h
    rename_i E3 ks rows he
    split at h
    case isFalse => cases h
    rename_i hek
    obtain rfl := kdsb_eq hek
    obtain rfl := Option.some.inj h
    rw [cx.O.eq] at hEc
    obtain ⟨hcx, hn⟩ := hEc
    obtain ⟨d0, vs, hV, ht, hv, hown, _⟩ := hs.toEnvOk.own he
    generalize huu : a.eval sx = u at hu1
    cases hu1; rename_i hu1; cases hu1; rename_i d9 hu1
    rw [hV] at hu1
    obtain rfl := Option.some.inj hu1
    obtain ⟨htx, A, cap, news, hyv, hnews, hcells⟩ := srcRows_sound hs.toEnvOk hy1 h2 hcx
    have hvl := hv.length
    rw [flatten_length (typed_length ht)] at hvl
    have hnl := hnews.length
    rw [flatten_length (typed_length htx)] at hnl
    obtain ⟨m, hm⟩ : ∃ m, m = min rx.length n := ⟨_, rfl⟩
    have hm' : Nat.min rx.length n = m := hm.symm
    have hmr : m * ei.kinds.length ≤ rx.length * ei.kinds.length := Nat.mul_le_mul_right _ (by omega)
    have hmn : m * ei.kinds.length ≤ rows.length * ei.kinds.length := Nat.mul_le_mul_right _ (by omega)
    have hfirst : (Builtin.firstCells ei.size m (.slice A rx.length cap)).run P w = .ok (news.take (m * ei.kinds.length)).toArray w := by
      cases A with
      | none =>
        have : rx.length = 0 := by
          rcases Nat.eq_zero_or_pos rx.length with h | h
          · exact h
          · obtain ⟨ad, h1, _⟩ := hcells h; cases h1
        have : m = 0 := by omega
        simp [Builtin.firstCells, this]
      | some ad =>
        simp only [Builtin.firstCells]
        have hc2 : ∀ j u, (news.take (m * ei.kinds.length))[j]? = some u → w.cell? (ad.add j) = some u := by
          intro j u hj
          rw [List.getElem?_take] at hj
          split at hj
          · rcases Nat.eq_zero_or_pos rx.length with h | h
            · have : m = 0 := by omega
              subst this; omega
            · obtain ⟨ad', g1, g2⟩ := hcells h
              obtain rfl := Option.some.inj g1
              exact g2 j u hj
          · cases hj
        have := run_loadCells_list (P := P) w ad _ hc2
        rw [List.length_take, Nat.min_eq_left (by omega)] at this
        rw [hks] at this ⊢
        exact this
    have hcr : copyR rows n rx = rx.take m ++ rows.drop m := by
      unfold copyR
      rw [Nat.min_comm, ← hm]
      congr 1
      rcases Nat.le_total n rx.length with h | h
      · rw [show m = n by omega]
      · rw [List.take_of_length_le h, List.take_of_length_le (by omega)]
    have hclen : (rx.take m ++ rows.drop m).length = rows.length := by
      rw [List.length_append, List.length_take, List.length_drop]; omega
    have htc : typed ei.kinds (rx.take m ++ rows.drop m) := typed_append (typed_take _ htx) (typed_drop _ ht)
    have hpc : PlsOk Z (news.take (m * ei.kinds.length) ++ vs.drop (m * ei.kinds.length)) (rx.take m ++ rows.drop m).flatten := by
      rw [flatten_copy (typed_length ht) (typed_length htx)]
      exact (hnews.take _).append (hv.drop _)
    intro K Q g hg hK
    have fin : ∀ w', (execOp a.eval o).run P w = .ok (.value (.int .i64 (m : Int))) w' → Alike w w' → (∀ k, (Ent.own E3 ei.kinds rows).blk d0 ≠ some k → w'.heap[k]? = w.heap[k]?) →
        w'.ownsRow 0 E3 ei.kinds.length (.slice d0.adr rows.length d0.cap) rows.length (news.take (m * ei.kinds.length) ++ vs.drop (m * ei.kinds.length)) → o.wp P a w K Q := by
      intro w' hrun hal hold how
      have htn := hs.turn he hV (x' := .own E3 ei.kinds (rx.take m ++ rows.drop m)) hal hold rfl ⟨htc, _, hpc, by rw [hclen]; exact how⟩
      refine wp_value hrun (hK Z V _ _ (Zs.le_refl Z) (Vl.le_refl V) ?_)
      unfold St.app
      rw [hE, hEv]
      have hea : Sat B Z V (st.ea (.upd [] [(e, .own E3 ei.kinds (cx.O.th fun _ => copyR rows n rx))] [])) a w' := by
        refine htn.ents_eq rfl (fun e' => ?_) rfl rfl
        simp only [St.ea, addEnts, putAll, lookup_setK, lookup_delAll, cx.O.eq, hcr]
        split <;> simp
      exact hea.put o.dst g _ _ (fun d h => by rw [St.ea_nt]; exact hd d h) (fun s h _ => by
        obtain rfl := Option.some.inj h
        rw [cx.O.eq, hm]
        exact .a (.c (.p (.i _)))) (fun s _ h => by rw [hg] at h; cases h)
    have hcopy : ∀ w', (match d0.adr with | some ad => (storeCells ad (news.take (m * ei.kinds.length))).run P w | none => .ok () w) = .ok () w' → (execOp a.eval o).run P w = .ok (.value (.int .i64 (m : Int))) w' := by
      intro w' hst
      have hgo : (Builtin.copy_ #[T, T] o.type #[.slice d0.adr n d0.cap, .slice A rx.length cap]).run P w = .ok (.int .i64 (m : Int)) w' := by
        simp [Builtin.copy_, Builtin.lenOf, run_underlying hu, run_sizeOf hei]
        simp only [hm', hfirst, Result.andThen_ok]
        cases hA : d0.adr with
        | none =>
          rw [hA] at hst
          simp only at hst
          injection hst with _ hw
          subst hw
          simp [goInt]
        | some ad =>
          rw [hA] at hst
          simp only at hst
          simp [hst, goInt]
      simp only [execOp, hop, resolve, invoke, builtin, Sem.run_bind, Sem.run_pure, Result.andThen_ok, List.map_toArray, List.map_cons, List.map_nil, huu, hyv, hgo]
    rcases hown.2 with ⟨hnil, hn0⟩ | ⟨gb, cap', cur, e1, e2, e3, e4, e5, e6, e7⟩
    · injection hnil with hA _ _
      have hm0 : m = 0 := by omega
      refine fin w (hcopy w (by rw [hA])) (Alike.refl w) (fun _ _ => rfl) ?_
      rw [hm0]
      simpa using hown
    · injection e1 with e8 e9 e10
      have hcur : cur.toList.length = cap' * ei.kinds.length := by simpa using e6
      have hcc : rows.length * ei.kinds.length ≤ cap' * ei.kinds.length := Nat.mul_le_mul_right _ e4
      have hrun := run_storeCells_at (P := P) gb 0 E3 (news.take (m * ei.kinds.length)) 0 cur w e3 (by rw [List.length_take]; omega) (fun u hu => hnews.one u (List.mem_of_mem_take hu))
      simp only [Nat.add_zero, Nat.zero_add, List.take_zero, List.nil_append] at hrun
      rw [List.length_take, Nat.min_eq_left (by omega)] at hrun
      refine fin (w.setRow gb (news.take (m * ei.kinds.length) ++ cur.toList.drop (m * ei.kinds.length)).toArray) (hcopy _ (by rw [e8]; exact hrun)) ⟨rfl, rfl, rfl, by simp [World.setRow]⟩ (fun k hk => setRow_other w gb k (news.take (m * ei.kinds.length) ++ cur.toList.drop (m * ei.kinds.length)).toArray (fun hkk => hk (by simp [Ent.blk, e8, hkk]))) ?_
      refine ⟨by rw [List.length_append, List.length_take, List.length_drop]; omega, .inr ⟨gb, cap', _, by rw [e8, ← e10], e2, setRow_heap w gb cur _ E3 (0, 0) e3, e4, e5, ?_, ?_⟩⟩
      · simp only [List.size_toArray, List.length_append, List.length_take, List.length_drop, hcur]
        rw [Nat.min_eq_left (by omega)]; omega
      · simp only
        have hX : (news.take (m * ei.kinds.length)).length = m * ei.kinds.length := by rw [List.length_take]; omega
        rw [List.take_append, List.take_of_length_le (by omega), hX, ← e7, List.drop_take]
  | _ => simp at hsl

theorem madeCells_list (z : Array Value) : ∀ (c : Nat), (madeCells z (c * z.size)).toList = (List.replicate c z.toList).flatten := by
  intro c
  apply List.ext_getElem?
  intro i
  have hl : ∀ r ∈ List.replicate c z.toList, r.length = z.size := fun r hr => by rw [(List.mem_replicate.1 hr).2]; simp
  have hfl := flatten_length hl
  simp only [List.length_replicate] at hfl
  rcases Nat.lt_or_ge i (c * z.size) with h | h
  · have hz : 0 < z.size := by
      rcases Nat.eq_zero_or_pos z.size with h0 | h0
      · rw [h0] at h; simp at h
      · exact h0
    have hi : i / z.size < c := (Nat.div_lt_iff_lt_mul hz).2 h
    have hm : i % z.size < z.size := Nat.mod_lt _ hz
    have e : i = (i / z.size) * z.size + i % z.size := by
      have := Nat.div_add_mod i z.size
      rw [Nat.mul_comm] at this; exact this.symm
    have h1 : (List.replicate c z.toList)[i / z.size]? = some z.toList := by rw [List.getElem?_replicate]; simp [hi]
    have h2 : z.toList[i % z.size]? = some z[i % z.size]! := by
      rw [Array.getElem?_toList, Array.getElem?_eq_getElem hm]
      congr 1
      exact (getElem!_pos z _ hm).symm
    have h3 := flatten_get _ _ hl h1 h2
    rw [← e] at h3
    rw [h3]
    simp only [madeCells, Array.toList_map, Array.toList_range, List.getElem?_map, List.getElem?_range h, Option.map_some]
  · rw [List.getElem?_eq_none (by simp [madeCells]; exact h), List.getElem?_eq_none (by rw [hfl]; exact h)]

theorem replicate_pls {Z : Zs} {zs : List Value} {ps : List Pl} (h : PlsOk Z zs ps) : ∀ n, PlsOk Z (List.replicate n zs).flatten (List.replicate n ps).flatten
  | 0 => .nil
  | n + 1 => by simp only [List.replicate_succ, List.flatten_cons]; exact h.append (replicate_pls h n)

theorem effMake_sound (htb : TbOk P cx.toTb) (hs : Sat B Z V st a w) (hd : ∀ d, o.dst = some d → d < st.nt) {T : TypeId} {lx cx' : Operand} (hop : o.op = .makeSlice T lx cx')
    {c d : Prop} {lv cv : AV} (hp : rd st.ov lx = some (c, lv)) (hx : rd st.ov cx' = some (d, cv)) (hc : c) (hdd : d) {E E' : Eff}
    (h : effMake cx.toTb st.next T lv cv = some E') (hEc : E'.c) (hE : E.ea = E'.ea) (hEv : E.val = E'.val) : Sound P B Z V st a w o E := by
  have hu1 := rd_sound hs hp hc
  have hy1 := rd_sound hs hx hdd
  unfold effMake at h
  split at h
  case h_2 => cases h
  rename_i ti l cc h1
  split at h
  case h_2 => cases h
  rename_i E' h3
  split at h
  case h_2 => cases h
  rename_i ei h4
  split at h
  case isFalse => cases h
  rename_i hsl
  obtain rfl := Option.some.inj h
  rw [cx.O.eq] at hEc
  obtain ⟨c0, c1, c2, c3⟩ := hEc
  have hti := htb.tab _ _ h1
  have hei := htb.tab _ _ h4
  have hks := ti_kinds_length hei
  obtain ⟨dd, i, z, hu, _, _, _, _, _, _, _, hel, hsl2, _⟩ := tinfo_some hti
  obtain ⟨_, ii, zz, _, hii, hzz, ⟨hzs, hzo⟩, _, hsz, hby, _⟩ := tinfo_some hei
  rw [hsl2] at hsl
  cases dd with
  | slice E2 =>
    simp only at hel
    rw [hel] at h3
    obtain rfl := Option.some.inj h3
    generalize hu2 : a.eval lx = u at hu1
    generalize hy2 : a.eval cx' = y at hy1
    cases hu1; rename_i hu1; cases hu1; rename_i hu1; cases hu1
    cases hy1; rename_i hy1; cases hy1; rename_i hy1; cases hy1
    have hr := run_make (P := P) w T E2 ii zz hu hii hzz .i64 .i64 l cc c0 c1 (by rw [← hby]; exact c2) c3
    have hrun : (execOp a.eval o).run P w = .ok (.value (.slice (some ⟨w.heap.size, 0, none⟩) l.toNat cc.toNat)) (w.alloc (.cells (madeCells zz.cells (cc.toNat * ii.size)) E2)) := by
      simp only [execOp, hop, hu2, hy2, Sem.run_bind, hr, Result.andThen_ok, Sem.run_pure]
    have hzl := zsOk_spec (Z := Z) hzo
    have hty : typed ei.kinds (List.replicate l.toNat ei.zero) := fun r hr => by rw [(List.mem_replicate.1 hr).2]; rfl
    have hlk : l.toNat * ei.kinds.length ≤ cc.toNat * ei.kinds.length := Nat.mul_le_mul_right _ (by omega)
    have hzks : zz.cells.toList.length = ei.kinds.length := by rw [hzl.length, TI.kinds, List.length_map]
    intro K Q g hg hK
    have hadd := hs.add (.own E2 ei.kinds (List.replicate l.toNat ei.zero)) ⟨0, some ⟨w.heap.size, 0, none⟩, cc.toNat⟩ (w' := w.alloc (.cells (madeCells zz.cells (cc.toNat * ii.size)) E2)) (alike_alloc w _) (fun k hk => heap_alloc_old w _ k hk)
      ⟨hty, (List.replicate l.toNat zz.cells.toList).flatten, replicate_pls hzl _, by
        rw [flatten_length (n := ei.kinds.length) (fun r hr => by rw [(List.mem_replicate.1 hr).2]; exact hzks)]; simp, .inr ⟨w.heap.size, cc.toNat, madeCells zz.cells (cc.toNat * ii.size), by rw [List.length_replicate], Nat.zero_le _, heap_alloc_new w _, by rw [List.length_replicate]; omega, by
        simp only [maxLen]; omega, by rw [size_madeCells, hks, hsz], by
          have e1 : cc.toNat * ii.size = cc.toNat * zz.cells.size := by rw [hzs]
          rw [e1, madeCells_list, List.length_replicate]
          have hl : ∀ r ∈ List.replicate cc.toNat zz.cells.toList, r.length = ei.kinds.length := fun r hr => by rw [(List.mem_replicate.1 hr).2]; exact hzks
          rw [← flatten_take l.toNat hl, List.take_replicate, Nat.min_eq_left (by omega)]⟩⟩
      (fun k hk => by simp [Ent.blk] at hk; omega)
    refine wp_value hrun (hK Z (V.set st.next ⟨0, some ⟨w.heap.size, 0, none⟩, cc.toNat⟩) _ _ (Zs.le_refl Z) hadd.2 ?_)
    unfold St.app
    rw [hE, hEv]
    have hea : Sat B Z (V.set st.next ⟨0, some ⟨w.heap.size, 0, none⟩, cc.toNat⟩) (st.ea (.new [.own E2 ei.kinds (cx.O.th fun _ => List.replicate l.toNat ei.zero)])) a (w.alloc (.cells (madeCells zz.cells (cc.toNat * ii.size)) E2)) := by
      simp only [cx.O.eq]
      exact hadd.1
    exact hea.put o.dst g _ _ (fun d h => by rw [St.ea_nt]; exact hd d h) (fun s h _ => by
      obtain rfl := Option.some.inj h
      rw [cx.O.eq]
      exact .a (.c (.hdr (d := ⟨0, some ⟨w.heap.size, 0, none⟩, cc.toNat⟩) (Vl.set_same _ _ _)))) (fun s _ h => by rw [hg] at h; cases h)
  | _ => simp at hsl

theorem caughtP_ok {Z : Zs} {V : Vl} : ∀ {vs : List Value} {ps : List Pl}, PasOk Z vs ps → AVsOk Z V vs (caughtP ps)
  | _, _, .nil => .nil
  | _, _, .cons (p := p) h hs => by
    cases p with
    | g cs => cases h
    | _ => exact .cons (.c (.p h)) (caughtP_ok hs)
  | _, _, .agg h hs => .cons (.agg (CelsOk.ofPls h)) (caughtP_ok hs)
theorem caughtC_ok {Z : Zs} {V : Vl} : ∀ {vs : List Value} {ps : List Cel}, CasOk Z V vs ps → AVsOk Z V vs (caughtC ps)
  | _, _, .nil => .nil
  | _, _, .cons (p := p) h hs => by
    cases p with
    | g cs => cases h
    | _ => exact .cons (.c h) (caughtC_ok hs)
  | _, _, .agg h hs => .cons (.agg h) (caughtC_ok hs)

theorem cels_ok {Z : Zs} {V : Vl} : ∀ {vs : List Value} {xs : List AV}, AVsOk Z V vs xs → CasOk Z V vs (cels xs)
  | _, _, .nil => .nil
  | _, _, .cons (.c h) hs => .cons h (cels_ok hs)
  | _, _, .cons (.agg h) hs => .agg h (cels_ok hs)

theorem plainsG_ok {Z : Zs} {V : Vl} : ∀ {vs : List Value} {cs : List Cel} {ps : List Pl}, CasOk Z V vs cs → plainsG cs = some ps → PasOk Z vs ps
  | vs, [], ps, h, k => by
    simp only [plainsG, Option.some.injEq] at k; subst k
    cases h; exact .nil
  | vs, c :: cs, ps, h, k => by
    cases h with
    | cons h hs =>
      cases c with
      | p x =>
        simp only [plainsG, Option.map_eq_some_iff] at k
        obtain ⟨qs, k1, rfl⟩ := k
        cases h with | p h => exact .cons h (plainsG_ok hs k1)
      | g cs => cases h
      | _ => simp [plainsG] at k
    | agg h hs =>
      simp only [plainsG] at k
      split at k
      · rename_i qs rs k1 k2
        obtain rfl := Option.some.inj k
        rw [plains_some k1] at h
        exact .agg h.toPls (plainsG_ok hs k2)
      · cases k

theorem mkFn_ok {Z : Zs} {V : Vl} {f : FuncId} {as bs : List Cel} {vs us : List Value} (h1 : CasOk Z V vs as) (h2 : CasOk Z V us bs) : AVOk Z V (.func (.func f) vs.toArray us.toArray) (mkFn f as bs) := by
  unfold mkFn
  split
  · rename_i ps qs k1 k2
    exact .c (.p (.f (plainsG_ok h1 k1) (plainsG_ok h2 k2)))
  · exact .c (.fn h1 h2)

theorem ints_ok {Z : Zs} {V : Vl} : ∀ {vs : List Value} {xs : List AV} {ns : List Int}, AVsOk Z V vs xs → ints xs = some ns → vs = ns.map fun n => .int .i64 n
  | vs, [], ns, h, k => by
    simp only [ints, Option.some.injEq] at k; subst k
    cases h; rfl
  | vs, x :: xs, ns, h, k => by
    unfold ints at k
    split at k
    · rename_i hh; cases hh
    · rename_i n l hh
      obtain ⟨rfl, rfl⟩ := List.cons.inj hh
      obtain ⟨ms, k1, rfl⟩ := Option.map_eq_some_iff.1 k
      cases h; rename_i h hs; cases h; rename_i h; cases h; rename_i h; cases h
      rw [ints_ok hs k1]; rfl
    · cases k

theorem run_fold_min (ns : List Int) : ∀ n, ((ns.map fun n => Value.int .i64 n).foldlM Builtin.min2 (.int .i64 n) : Sem Value).run P w = .ok (.int .i64 (ns.foldl (fun a b => if b < a then b else a) n)) w := by
  induction ns with
  | nil => intro n; rfl
  | cons m ns ih =>
    intro n
    simp only [List.map_cons, List.foldlM_cons, List.foldl_cons, Sem.run_bind, Builtin.min2, Sem.run_pure, Result.andThen_ok, ih]
theorem run_fold_max (ns : List Int) : ∀ n, ((ns.map fun n => Value.int .i64 n).foldlM Builtin.max2 (.int .i64 n) : Sem Value).run P w = .ok (.int .i64 (ns.foldl (fun a b => if a < b then b else a) n)) w := by
  induction ns with
  | nil => intro n; rfl
  | cons m ns ih =>
    intro n
    simp only [List.map_cons, List.foldlM_cons, List.foldl_cons, Sem.run_bind, Builtin.max2, Sem.run_pure, Result.andThen_ok, ih]

end
end Go.Vx

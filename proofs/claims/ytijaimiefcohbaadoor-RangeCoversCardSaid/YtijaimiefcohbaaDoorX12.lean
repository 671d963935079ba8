import Derived.Test.YtijaimiefcohbaaDoorX11
set_option linter.unusedSimpArgs false
set_option linter.unusedVariables false
set_option linter.constructorNameAsVariable false
namespace Go.Vx
open Go Go.RowKit

section
variable {P : Program} {cx : Cx} {B : Bs} {w : World} {Z : Zs} {V : Vl} {st : St} {a : Act} {o : Oper}

theorem nilAs_ok {tb : Tb} {T : TypeId} {s : SV} {v : Value} (h : SVOk Z V v s) : SVOk Z V v (nilAs tb T s) := by
  unfold nilAs
  split
  · split
    · split
      · cases h; rename_i h; cases h; rename_i h; cases h; rename_i h; cases h; exact .a (.c (.p (.n _)))
      · exact h
    · exact h
  · exact h

theorem execOp_call {g : Operand} {xs : Array Operand} {ts : Array TypeId} (hop : o.op = .call { callee := .value g, args := xs, argTypes := ts }) {f : FuncId} {vs us : List Value} (hg : a.eval g = .func (.func f) vs.toArray us.toArray) :
    execOp a.eval o = callFunc f (vs ++ xs.toList.map a.eval ++ us).toArray := by
  simp only [execOp, hop, resolve, hg, Deferred.ofValue, invoke, pure_bind]
  congr 1
  apply Array.ext'
  simp

theorem effCall_sound (hcx : CxG P cx B) (hs : Sat B Z V st a w) (hd : ∀ d, o.dst = some d → d < st.nt) {g : Operand} {xs : Array Operand} {ts : Array TypeId} (hop : o.op = .call { callee := .value g, args := xs, argTypes := ts })
    {E : Eff} (h : effCall cx.O cx.con st.ov (fun e => st.ents.lookup e) st.next g xs.toList = some E) (hc : E.c) : Sound P B Z V st a w o E := by
  unfold effCall at h
  split at h
  case h_2 => cases h
  rename_i c v d ys h1 h2
  split at h
  case h_2 => cases h
  rename_i f as bs h3
  obtain ⟨E', hE', rfl⟩ := Option.map_eq_some_iff.1 h
  obtain ⟨hc1, hc2, hc3⟩ := hc
  have hv := rd_sound hs h1 hc1
  have hys := rds_sound hs h2 hc2
  generalize hu : a.eval g = u at hv
  have happ : ∀ {vs us : List Value} {as bs : List AV}, AVsOk Z V vs as → AVsOk Z V us bs → AVsOk Z V (vs ++ us) (as ++ bs) := by
    intro vs us as bs h1 h2
    induction h1 with
    | nil => exact h2
    | cons h hs ih => exact .cons h ih
  have key : ∀ (vs us : List Value), u = .func (.func f) vs.toArray us.toArray → AVsOk Z V vs as → AVsOk Z V us bs → Sound P B Z V st a w o { E' with c := c ∧ d ∧ E'.c } := by
    intro vs us hu2 ha hb
    have := effCallA_sound hcx hs hd (happ (happ ha hys) hb) (execOp_call hop (hu.trans hu2)) hE' hc3
    exact this
  unfold calleeOf at h3
  split at h3
  · simp only [Option.some.injEq, Prod.mk.injEq] at h3
    obtain ⟨rfl, rfl, rfl⟩ := h3
    cases hv; rename_i hv; cases hv; rename_i hv; cases hv
    rename_i vs us k1 k2
    exact key _ _ rfl (caughtP_ok k1) (caughtP_ok k2)
  · simp only [Option.some.injEq, Prod.mk.injEq] at h3
    obtain ⟨rfl, rfl, rfl⟩ := h3
    cases hv; rename_i hv; cases hv
    rename_i vs us k1 k2
    exact key _ _ rfl (caughtC_ok k1) (caughtC_ok k2)
  · cases h3

theorem eff_sound (hcx : CxG P cx B) (hs : Sat B Z V st a w) (hd : ∀ d, o.dst = some d → d < st.nt) {E : Eff}
    (h : eff cx st.ov (fun e => st.ents.lookup e) st.next o = some E) (hc : E.c) : Sound P B Z V st a w o E := by
  unfold eff at h
  split at h
  · -- move
    rename_i x hop
    unfold effMove at h
    split at h
    · rename_i g s hx
      obtain rfl := Option.some.inj h
      obtain ⟨v, h1, h2⟩ := hs.ov hx hc
      exact sound_val hs hd rfl rfl (nilAs_ok h1) (by simp [execOp, hop, h2])
    · cases h
  · rename_i x hop
    unfold effMove at h
    split at h
    · rename_i g s hx
      obtain rfl := Option.some.inj h
      obtain ⟨v, h1, h2⟩ := hs.ov hx hc
      exact sound_val hs hd rfl rfl (nilAs_ok h1) (by simp [execOp, hop, h2])
    · cases h
  · -- pick
    rename_i c x y hop
    unfold effPick at h
    split at h
    · rename_i gc t hcc
      split at h
      · rename_i ga p gb q h1 h2
        obtain rfl := Option.some.inj h
        obtain ⟨hgc, ha, hb⟩ := hc
        have hu := rd_sound hs hcc hgc
        generalize huu : a.eval c = u at hu
        cases hu; rename_i hu; cases hu; rename_i hu; cases hu
        refine sound_val hs hd rfl rfl (v := .bool (bif t then p else q)) (.a (.c (.p (.b _)))) ?_
        cases t with
        | true =>
          obtain ⟨v, k1, k2⟩ := hs.ov h1 (ha rfl)
          cases k1; rename_i k1; cases k1; rename_i k1; cases k1; rename_i k1; cases k1
          simp [execOp, hop, asBool, huu, k2]
        | false =>
          obtain ⟨v, k1, k2⟩ := hs.ov h2 (hb rfl)
          cases k1; rename_i k1; cases k1; rename_i k1; cases k1; rename_i k1; cases k1
          simp [execOp, hop, asBool, huu, k2]
      · cases h
    · cases h
  · -- load
    rename_i T x hop
    exact sound_un1 hs hd h hc (fun u => do pure (.value (← Instr.loadAt T u))) (by simp only [execOp, hop]) (fun hv hk hc => by
      obtain ⟨q, h1, h2⟩ := opLoad_sound (P := P) hcx.tb hs.toEnvOk hv hk hc
      exact ⟨q, h1, by simp [h2]⟩)
  · rename_i T x f hop
    exact sound_un1 hs hd h hc (fun u => do pure (.value (← Instr.fieldAt T u f))) (by simp only [execOp, hop]) (fun hv hk hc => by
      obtain ⟨q, h1, h2⟩ := opFieldAddr_sound (P := P) (w := w) hcx.tb hv hk
      exact ⟨q, h1, by simp [h2]⟩)
  · rename_i T x f hop
    exact sound_un1 hs hd h hc (fun u => do pure (.value (← Instr.field T u f))) (by simp only [execOp, hop]) (fun hv hk hc => by
      obtain ⟨q, h1, h2⟩ := opField_sound (P := P) (w := w) hcx.tb hv hk
      exact ⟨q, h1, by simp [h2]⟩)
  · rename_i T x y hop
    exact sound_un2 hs hd h hc (fun u v => do pure (.value (← Instr.indexAt T u v))) (by simp only [execOp, hop]) (fun hv hv' hk hc => by
      split at hk
      · rename_i r hr
        obtain rfl := Option.some.inj hk
        obtain ⟨q, h1, h2⟩ := opIndexAddr_sound (P := P) hcx.tb hs.toEnvOk hv hv' hr hc
        exact ⟨q, h1, by simp [h2]⟩
      · obtain ⟨q, h1, h2⟩ := opIndexArr_sound (P := P) (w := w) hcx.tb hv hv' hk hc
        exact ⟨q, h1, by simp [h2]⟩)
  · rename_i T x y hop
    exact sound_un2 hs hd h hc (fun u v => do pure (.value (← Instr.index T u v))) (by simp only [execOp, hop]) (fun hv hv' hk hc => by
      obtain ⟨q, h1, h2⟩ := opIndex_sound (P := P) (w := w) hcx.tb hv hv' hk hc
      exact ⟨q, h1, by simp [h2]⟩)
  · -- slice
    rename_i T x l h' m hop
    unfold effSlice at h
    split at h
    · rename_i c v cl lo ch hi h1 h2 h3
      obtain ⟨p, hp, rfl⟩ := Option.map_eq_some_iff.1 h
      obtain ⟨hc1, hc2, hc3, hc4⟩ := hc
      obtain ⟨q, k1, k2⟩ := opSlice_sound (P := P) hcx.tb hs.toEnvOk (rd_sound hs h1 hc1) hp hc4
      have b1 := bound_sound hs h2 hc2
      have b2 := bound_sound hs h3 hc3
      refine sound_val hs hd rfl rfl (.a k1) ?_
      simp only [execOp, hop, b1, b2, Option.map_none, Sem.run_bind, k2, Result.andThen_ok, Sem.run_pure]
    · cases h
  · -- nilCheck
    rename_i x hop
    unfold un1 at h
    split at h
    · rename_i c v hr
      obtain ⟨⟨c2, r⟩, h1, rfl⟩ := Option.map_eq_some_iff.1 h
      have hv := rd_sound hs hr hc.1
      have hk : r = v := by
        unfold opNil at h1
        split at h1 <;> first | (simp only [Option.some.injEq, Prod.mk.injEq] at h1; exact h1.2.symm) | cases h1
      subst hk
      refine sound_val hs hd rfl rfl (.a hv) ?_
      simp only [execOp, hop]
      generalize a.eval x = u at hv
      unfold opNil at h1
      split at h1 <;> (try (cases h1; done)) <;> (cases hv; rename_i hv; cases hv <;> first | rfl | (rename_i hv; cases hv <;> rfl))
    · cases h
  · rename_i op T x y yT hop
    exact sound_un2 hs hd h hc (fun u v => do pure (.value (← (do eqGuard op T x y u v; Go.binOp op T u v)))) (by simp only [execOp, hop]) (fun hv hv' hk hc => by
      obtain ⟨q, h1, h2⟩ := opBin_sound (P := P) (w := w) hcx.tb x y hv hv' hk hc
      exact ⟨q, h1, by rw [Sem.run_bind, h2]; rfl⟩)
  · rename_i op T x hop
    exact sound_un1 hs hd h hc (fun u => do pure (.value (← Op.unary op u))) (by simp only [execOp, hop]) (fun hv hk hc => by
      obtain ⟨q, h1, h2⟩ := opUn_sound (P := P) (w := w) hv hk
      exact ⟨q, h1, by simp [h2]⟩)
  · rename_i S D x hop
    split at h
    · rename_i si hS
      obtain ⟨d, hd1, _⟩ := agg_of_ti (hcx.tb.tab _ _ hS)
      exact sound_un1 hs hd h hc (fun u => do pure (.value (← Go.convert S D u))) (by simp only [execOp, hop]) (fun hv hk hc => by
        obtain ⟨q, h1, h2⟩ := effConv_sound (P := P) (w := w) hcx.tb hv hk ⟨d, hd1⟩
        exact ⟨q, h1, by simp [h2]⟩)
    · cases h
  · -- extract
    rename_i x i hop
    unfold effExtract at h
    split at h
    · rename_i g xs hx
      split at h
      · rename_i v hv
        obtain rfl := Option.some.inj h
        obtain ⟨u, h1, h2⟩ := hs.ov hx hc
        cases h1; rename_i vs hvs
        obtain ⟨q, hq1, hq2⟩ := hvs.get i hv
        exact sound_val hs hd rfl rfl (.a hq2) (by simp [execOp, hop, h2, Instr.extract, hq1])
      · cases h
    · cases h
  · -- alloc
    rename_i T hop
    split at h
    · rename_i ti hti
      obtain rfl := Option.some.inj h
      obtain ⟨z, hz1, hz2⟩ := run_zero (P := P) (w := w) (hcx.tb.tab _ _ hti) Z
      refine sound_box hs hd (vs := z.cells.toList) (CelsOk.ofPls hz2) T rfl rfl ?_
      simp only [execOp, hop, Instr.alloc, Sem.run_bind, hz1, Result.andThen_ok, newVar, newRow, run_newObj, Sem.run_pure, Array.toArray_toList]
      rfl
    · cases h
  · -- box
    rename_i T x hop
    split at h
    · rename_i c v hr
      obtain rfl := Option.some.inj h
      refine sound_box hs hd (vs := (a.eval x).cells.toList) (rd_sound hs hr hc).cells T rfl rfl ?_
      simp only [execOp, hop, Instr.box, Sem.run_bind, newVar, newRow, run_newObj, Result.andThen_ok, Sem.run_pure, Array.toArray_toList]
      rfl
    · cases h
  · rename_i T parts hop
    exact effBuild_sound hcx.tb hs hd hop h hc
  · rename_i T len parts hop
    exact effBuildSlice_sound hcx.tb hs hd hop h hc
  · -- makeSlice
    rename_i T l c hop
    split at h
    · rename_i g lv h' cv h1 h2
      obtain ⟨E', hE', rfl⟩ := Option.map_eq_some_iff.1 h
      exact effMake_sound hcx.tb hs hd hop h1 h2 hc.1 hc.2.1 hE' hc.2.2 rfl rfl
    · cases h
  · -- makeFunc
    rename_i f as bs hop
    split at h
    · rename_i c as' d bs' h1 h2
      obtain rfl := Option.some.inj h
      have k1 := cels_ok (rds_sound hs h1 hc.1)
      have k2 := cels_ok (rds_sound hs h2 hc.2)
      refine sound_val hs hd rfl rfl (.a (mkFn_ok k1 k2)) ?_
      simp only [execOp, hop, Instr.makeFunc, Sem.run_bind, Sem.run_pure, Result.andThen_ok]
      congr 3
      · apply Array.ext'; simp
      · apply Array.ext'; simp
    · cases h
  · -- store
    rename_i T p x hop
    split at h
    · rename_i c pv d xv h1 h2
      obtain ⟨E', hE', rfl⟩ := Option.map_eq_some_iff.1 h
      exact effStore_sound hcx.tb hs hd hop h1 h2 hc.1 hc.2.1 hE' hc.2.2 rfl rfl
    · cases h
  · rename_i c hop
    obtain ⟨callee, args, tys⟩ := c
    obtain ⟨args⟩ := args
    obtain ⟨tys⟩ := tys
    simp only at h
    unfold effCallOp at h
    split at h
    · -- len
      rename_i x T
      split at h
      · rename_i ei hei
        obtain ⟨E2, hu, _⟩ := slElem_spec hcx.tb hei
        exact sound_un1 hs hd h hc (fun u => do pure (.value (← Builtin.len_ #[T] o.type #[u]))) (by simp [execOp, hop, resolve, invoke, builtin]) (fun hv hk hc => by
          obtain ⟨q, h1, h2⟩ := opLen_sound (P := P) (w := w) (ty := o.type) hu hv hk
          exact ⟨q, h1, by simp [h2]⟩)
      · cases h
    · -- append
      rename_i sx x T T'
      split at h
      · rename_i hT
        subst hT
        split at h
        · rename_i c sv d xv h1 h2
          obtain ⟨E', hE', rfl⟩ := Option.map_eq_some_iff.1 h
          exact effAppend_sound hcx.tb hs hd hop h1 h2 hc.1 hc.2.1 hE' hc.2.2 rfl rfl
        · cases h
      · cases h
    · -- copy
      rename_i sx x T T'
      split at h
      · rename_i hT
        subst hT
        split at h
        · rename_i c sv d xv h1 h2
          obtain ⟨E', hE', rfl⟩ := Option.map_eq_some_iff.1 h
          exact effCopy_sound hcx.tb hs hd hop h1 h2 hc.1 hc.2.1 hE' hc.2.2 rfl rfl
        · cases h
      · cases h
    · -- min
      split at h
      · rename_i c vs h1
        split at h
        · rename_i n l h2
          obtain rfl := Option.some.inj h
          have hvs := ints_ok (rds_sound hs h1 hc) h2
          rw [cx.O.eq]
          refine sound_val hs hd rfl rfl (.a (.c (.p (.i _)))) ?_
          simp only [execOp, hop, resolve, invoke, builtin, Sem.run_bind, Sem.run_pure, Result.andThen_ok, List.map_toArray, hvs, Builtin.min_, List.map_cons]
          rw [run_fold_min]; rfl
        · cases h
      · cases h
    · -- max
      split at h
      · rename_i c vs h1
        split at h
        · rename_i n l h2
          obtain rfl := Option.some.inj h
          have hvs := ints_ok (rds_sound hs h1 hc) h2
          rw [cx.O.eq]
          refine sound_val hs hd rfl rfl (.a (.c (.p (.i _)))) ?_
          simp only [execOp, hop, resolve, invoke, builtin, Sem.run_bind, Sem.run_pure, Result.andThen_ok, List.map_toArray, hvs, Builtin.max_, List.map_cons]
          rw [run_fold_max]; rfl
        · cases h
      · cases h
    · rename_i g
      exact effCall_sound hcx hs hd hop h hc
    · cases h
  · cases h

end
end Go.Vx

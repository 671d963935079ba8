import Derived.Test.YtijaimiefcohbaaDoorM1
import Derived.ChangeSame
import Derived.ChangeVars
import Derived.JoinedOf
import Derived.RowKit
import Derived.Below
import Derived.LaidLaws
set_option linter.unusedSimpArgs false
set_option linter.unusedVariables false
set_option linter.constructorNameAsVariable false
namespace Go.Vx
open Go Go.RowKit Go.ChangeShapes Go.WideShapes
theorem calls_of_con {P : Program} {f : FuncId} {fn : Func} {body : Code} (hf : P.funcs[f]? = some fn) (hb : fn.body = some body) (hname : (fn.name == "runtime.NumGoroutine") = false)
    {fr : Bool} {g : ConF} (h : ConOk P f (cnF Th.std fr g)) {Z : Zs} {W : World} {args : List Value} {ds : List Dt} {c : Prop} {b : Bool} (hgl : GlobOk P Z) (hfz : Frz Z W)
    (hargs : AVsOk Z (fun _ => none) args (inAVs ds)) (hds : ofAVs (inAVs ds) = some ds) (hg : g ds = some (c, [.c (.b b)])) (hc : c) :
    Calls P f args.toArray W fun e W' => e = .returned (.bool b) ∧ Below W.heap.size W W' := by
  have he : EnvOk (bsOf W Z (fun _ => none) []) Z (fun _ => none) [] W :=
    { ents := fun e x hx => by cases hx
      apart := fun e e' x x' d d' k _ hx => by cases hx
      frz := hfz
      frame := ⟨rfl, rfl, rfl, Nat.le_refl _, fun _ _ _ => rfl⟩
      zn := fun k cs hk _ _ => hk
      zl := Zs.le_refl Z }
  have hr := h W Z (fun _ => none) [] args (inAVs ds) hgl he (fun _ _ => rfl) hargs c [.c (.p (.b b))] [] (by simp only [cnF, hds, hg, outs]) hc
  rcases hr with ⟨_, h2⟩ | ⟨v, w', h1, _⟩
  · refine Calls.mono h2 ?_
    rintro e w' ⟨v, rfl, vs, rfl, Zf, V', -, -, hv, -, -, hfr, -⟩
    cases hv; rename_i h1 h2; cases h2
    cases h1; rename_i h1; cases h1; rename_i h1; cases h1
    exact ⟨rfl, ⟨hfr.os, hfr.tape, hfr.output, hfr.size, fun k hk => hfr.keep k hk (by rintro ⟨e, x, d, h1, h2, -⟩; simp at h2)⟩⟩
  · rw [callFunc_enter hf hb hname] at h1
    cases h1

theorem mapM_some {α β : Type} {f : α → Option β} : ∀ {l : List α} {xs : List β}, l.mapM f = some xs → l.map f = xs.map some
  | [], xs, h => by
    simp only [List.mapM_nil, Option.pure_def, Option.some.injEq] at h
    subst h; rfl
  | a :: l, xs, h => by
    simp only [List.mapM_cons, Option.bind_eq_bind, Option.bind_eq_some_iff, Option.pure_def, Option.some.injEq] at h
    obtain ⟨y, h1, ys, h2, rfl⟩ := h
    rw [List.map_cons, List.map_cons, h1, mapM_some h2]

theorem int_of_trod {H : Type} {enc : TypeId × Value → H} {P : Program} {w : World} {base : Nat} {sp : Nat → Bool} {held : Bool} {fuel : Nat} {t : TypeId} {k : IntKind} {c : Value} {y : DataW H × List MemPlace}
    (ht : P.underlying t = some (.int k)) (h : DataW.trod enc P w base sp held fuel t [c] = some y) : ∃ n, c = .int k n ∧ y = (.lit (.int k n), []) := by
  cases fuel with
  | zero => simp [DataW.trod] at h
  | succ fuel =>
    cases c <;> simp [DataW.trod, ht] at h
    rename_i k' n
    obtain ⟨⟨rfl, _⟩, rfl⟩ := h
    exact ⟨n, rfl, rfl⟩

theorem table_of_trod {H : Type} {enc : TypeId × Value → H} {P : Program} {w : World} {base : Nat} {sp : Nat → Bool} {held : Bool} {fuel : Nat} {t e : TypeId} {n : Nat} {k : IntKind} {cs : List Value} {ns : List Int} {p : List MemPlace}
    (ht : P.underlying t = some (.array n e)) (he : P.underlying e = some (.int k)) (hc : P.cellsOf t = n) (hc1 : P.cellsOf e = 1)
    (h : DataW.trod enc P w base sp held fuel t cs = some (.agg (ns.map fun x => .lit (.int k x)), p)) : cs = ns.map fun x => .int k x := by
  cases fuel with
  | zero => simp [DataW.trod] at h
  | succ fuel =>
    simp only [DataW.trod, ht, hc, hc1] at h
    split at h
    case isFalse => cases h
    rename_i hl
    obtain ⟨xs, h1, h2⟩ := Option.map_eq_some_iff.1 h
    simp only [Prod.mk.injEq, DataW.agg.injEq] at h2
    obtain ⟨h2, -⟩ := h2
    have h3 := mapM_some h1
    have hlen : xs.length = n := by
      have := congrArg List.length h3
      simpa using this.symm
    have hlen2 : ns.length = n := by
      have := congrArg List.length h2
      simp at this; omega
    apply List.ext_getElem?
    intro i
    rcases Nat.lt_or_ge i n with hi | hi
    · have h4 := congrArg (fun l => l[i]?) h3
      simp only [List.getElem?_map, List.getElem?_range hi, Option.map_some] at h4
      rw [List.getElem?_eq_getElem (by omega)] at h4
      simp only [Option.map_some, Option.some.injEq, Nat.mul_one] at h4
      have h5 : (cs.drop i).take 1 = [cs[i]] := by
        rw [List.drop_eq_getElem_cons (by omega)]; rfl
      rw [h5] at h4
      obtain ⟨m, h6, h7⟩ := int_of_trod he h4
      have h8 := congrArg (fun l => l[i]?) h2
      simp only [List.getElem?_map] at h8
      rw [List.getElem?_eq_getElem (by omega), List.getElem?_eq_getElem (by omega)] at h8
      simp only [Option.map_some, Option.some.injEq, h7, DataW.lit.injEq, Lit.int.injEq, true_and] at h8
      rw [List.getElem?_map, List.getElem?_eq_getElem (by omega), List.getElem?_eq_getElem (by omega), h6, h8]
      rfl
    · rw [List.getElem?_eq_none (by omega), List.getElem?_eq_none (by simp; omega)]

/-- what the laid table gives the machine -/
theorem glob_of_laid {P : Program} {W : World} {d : DataW Unit} {g : Nat} {t e : TypeId} (h : laidMet P [("math/bits.deBruijn64tab", d)] W) (hd : d = .agg (tz64tab.map fun x => .lit (.int .u8 x)))
    (hg : P.globalNamed "math/bits.deBruijn64tab" = some g) (ht : (P.globals[g]?).map (·.type) = some t) (hu : P.underlying t = some (.array 64 e)) (he : P.underlying e = some (.int .u8)) (hc : P.cellsOf t = 64) (hc1 : P.cellsOf e = 1) :
    ∃ Z cs, GlobOk P Z ∧ Frz Z W ∧ W.var? P "math/bits.deBruijn64tab" = some cs ∧ cs.toList = tz64tab.map fun x => .int .u8 x := by
  obtain ⟨ps, ⟨g', t', cs, fuel, p, q, hg', ht', hvar, hd', _, _⟩, _⟩ := h
  obtain rfl := Option.some.inj (hg.symm.trans hg')
  obtain rfl := Option.some.inj (ht.symm.trans ht')
  subst hd
  have hcs := table_of_trod hu he hc hc1 hd'
  refine ⟨fun k => if k = g then some cs else none, cs, ?_, ?_, hvar, hcs⟩
  · intro n vs g2 h1 h2 j v hj
    simp only [knownTabs, List.lookup_cons] at h1
    split at h1
    · rename_i hn
      obtain rfl : n = "math/bits.deBruijn64tab" := by simpa using hn
      obtain rfl := Option.some.inj (hg.symm.trans h2)
      obtain rfl := Option.some.inj h1
      have : cs[j]? = some v := by
        rw [← Array.getElem?_toList, hcs]; exact hj
      simp [zcell, this]
    · cases h1
  · intro k c hk
    dsimp only at hk
    split at hk
    · rename_i hkg
      subst hkg
      obtain rfl := Option.some.inj hk
      unfold World.var? at hvar
      rw [hg] at hvar
      simp only [Option.bind_some] at hvar
      split at hvar
      · rename_i cs' t2 fz heq
        obtain rfl := Option.some.inj hvar
        exact ⟨_, _, heq⟩
      · cases hvar
    · cases hk
end Go.Vx

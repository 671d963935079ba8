import Derived.Test.YtijaimiefcohbaaDoorS6
import Derived.Test.YtijaimiefcohbaaDoorR2
import Derived.Test.YtijaimiefcohbaaDoorRows
set_option linter.unusedSimpArgs false
set_option linter.unusedVariables false
set_option linter.constructorNameAsVariable false
namespace Go.Proofs.YtijaimiefcohbaaDoor
open Go Go.Vx Go.RowKit Go.ChangeShapes Go.WideShapes Go.Joins Go.Deep
theorem own : ownKnob Tryd.prog.godebug = none := by kernel_rfl
theorem laidOut : laidOutB Tryd.prog = true := by kernel_rfl
def tabD : DataW Unit := .agg (tz64tab.map fun x => .lit (.int .u8 x))
theorem tabD_eq : (Rows.laid_math_bits_deBruijn64tab : DataW Unit) = tabD := by kernel_rfl
theorem gTab : Tryd.prog.globalNamed "math/bits.deBruijn64tab" = some 0 := by kernel_rfl
noncomputable def laidWorld (os : Os) : World :=
  { World.holding Tryd.prog os ⟨#[], #[], []⟩ with heap := (World.holding Tryd.prog os ⟨#[], #[], []⟩).heap.modify 0 fun
      | .cells _ t frozen => .cells (tz64tab.map fun n => .int .u8 n).toArray t frozen
      | o => o }
theorem laidWorld_met (os : Os) (args : Array Value) : laidMet Tryd.prog [("math/bits.deBruijn64tab", Rows.laid_math_bits_deBruijn64tab)] ((laidWorld os).forCall (fun _ _ => 0) ⟨#[], args, []⟩).memory :=
  laidMet_of_run' 8 (by kernel_rfl) (by kernel_rfl)
set_option maxRecDepth 100000 in
theorem arg_word {H : Type} {enc : TypeId × Value → H} {W : World} {base : Nat} {sp : Nat → Bool} {held : Bool} {r : Reach} {b0 : Nat} {v : Value} {d : DataW H} {p : List MemPlace}
    (hval : Value.okWide Tryd.prog W r b0 24 v) (h : DataW.Trod enc Tryd.prog W base sp held 24 v d p) : ∃ a b : BitVec 64, v = .agg #[.int .u64 a.toNat, .int .u64 b.toNat] := by
  obtain ⟨v0, v1, y0, y1, n, rfl, -, -, h0, h1⟩ := open_agg2 Tryd.underlying24 (by kernel_rfl) (by kernel_rfl) hval h
  obtain ⟨n0, e0, -, w0⟩ := DataW.trod_int Tryd.underlying22 h0
  obtain ⟨n1, e1, -, w1⟩ := DataW.trod_int Tryd.underlying22 h1
  obtain rfl := (List.cons.inj e0).1
  obtain rfl := (List.cons.inj e1).1
  obtain ⟨a, rfl⟩ := wf_u64 w0
  obtain ⟨b, rfl⟩ := wf_u64 w1
  exact ⟨a, b, rfl⟩
theorem word_ok (Z : Zs) (V : Vl) (a b : BitVec 64) : AVOk Z V (.agg #[.int .u64 a.toNat, .int .u64 b.toNat]) (.agg [.p (.u a), .p (.u b)]) := by
  exact .agg (vs := [.int .u64 a.toNat, .int .u64 b.toNat]) (.cons (.p (.u _)) (.cons (.p (.u _)) .nil))
set_option maxRecDepth 100000 in
theorem rangeCovers_lifted (os : Os) (started : os.Started) (H : Type) (enc : TypeId × Value → H) :
    ReturnsInHanded {} Tryd.checked os 3 .any (fun w args => (Rows.rangeCoversSpec.pre enc Tryd.prog Tryd.f3 [] false w args ∧ laidMetH Tryd.prog [("math/bits.deBruijn64tab", Rows.laid_math_bits_deBruijn64tab)] w) ∧ sizedMet enc Tryd.prog Tryd.f3 (OpenSpec.ofChange Rows.rangeCoversSpec) false w args)
      (Rows.rangeCoversSpec.post enc Tryd.prog Tryd.f3 false true false false) := by
  refine returnsInHanded_of_change_and (C := Tryd.checked) (X := fun w _ => laidMet Tryd.prog [("math/bits.deBruijn64tab", Rows.laid_math_bits_deBruijn64tab)] w) (fun _ _ _ hh h => h.of_heap hh) own started (by kernel_rfl) Tryd.func3
    (ChangeSpec.witness_at (enc := enc) (C := Tryd.checked) (os := os) (X := fun w _ => laidMet Tryd.prog [("math/bits.deBruijn64tab", Rows.laid_math_bits_deBruijn64tab)] w) false (laidWorld os) #[.int .i64 0, .agg #[.int .u64 0, .int .u64 0], .agg #[.int .u64 0, .int .u64 0]] 8 rfl (by kernel_rfl) (by kernel_rfl) (by kernel_rfl) (by kernel_rfl) (by kernel_rfl) (laidWorld_met os _)) ?_
  intro W base args ds gs before hval0 hW _ _ hL _
  have hval : ∀ (j : Nat) t v, Tryd.f3.params[j]? = some t → args[j]? = some v → Value.okWide Tryd.prog W .any base t v := hval0
  have hW' := hW
  obtain ⟨p, q, hA0, hV0, rfl, hfz, hnd⟩ := hW
  have hlt := hW'.lt
  have hA : DataW.TrodAll enc Tryd.prog W 0 (fun _ => true) true Tryd.f3.params.toList args.toList ds p := hA0
  have hA2 := hA
  rw [Tryd.params3] at hA hval
  obtain ⟨v0, v1, v2, d0, d1, d2, p0, p1, p2, rfl, rfl, rfl, h0, h1, h2⟩ := trodAll_three hA
  obtain ⟨rfl, rfl⟩ := trodVars_none hV0
  obtain ⟨n, rfl, -, -, -⟩ := open_int Tryd.underlying3 (hval 0 3 v0 rfl rfl) h0
  obtain ⟨a, b, rfl⟩ := arg_word (hval 1 24 v1 rfl rfl) h1
  obtain ⟨c, d, rfl⟩ := arg_word (hval 2 24 v2 rfl rfl) h2
  obtain ⟨Z, cs, hgl, hfz', -, -⟩ := glob_of_laid hL tabD_eq gTab (t := 111) (e := 5) (by kernel_rfl) Tryd.underlying111 Tryd.underlying5 (by kernel_rfl) (by kernel_rfl)
  refine (calls_of_con (args := [.int .i64 n, .agg #[.int .u64 a.toNat, .int .u64 b.toNat], .agg #[.int .u64 c.toNat, .int .u64 d.toNat]]) (ds := [.c (.i n), .agg [.u a, .u b], .agg [.u c, .u d]]) Tryd.func3 rfl (by kernel_rfl) f3_ok hgl hfz'
    (.cons (.c (.p (.i _))) (.cons (word_ok _ _ a b) (.cons (word_ok _ _ c d) .nil))) rfl rfl trivial).mono fun e W' ⟨he, hb⟩ => ?_
  subst he
  exact ⟨_, rfl, post_true (tb := 4) laidOut (by rw [Tryd.params3]; decide +kernel) rfl Tryd.underlying4 hW' hA2 (fun x hx => hlt x (List.mem_append_left _ hx)) rfl rfl hb⟩
theorem rangeCovers_holds : Rows.RangeCoversSaid :=
  OpenClaim.holds_of_wide 3 Tryd.f3 rfl rfl rfl rfl rfl rfl rfl ⟨rfl, rfl, rfl, rfl, rfl⟩ rfl rfl rfl rfl rfl (by kernel_rfl) Tryd.func3 (by kernel_rfl)
    (of_decide_eq_true (by kernel_rfl)) (by unfold Func.isWrapper; rw [if_neg (of_decide_eq_false (by kernel_rfl))]; exact ⟨rfl, rfl⟩)
    (fun os started H enc _ => rangeCovers_lifted os started H enc)
end Go.Proofs.YtijaimiefcohbaaDoor

import Derived.Test.YtijaimiefcohbaaDoorX19
import Derived.Laws.Externs
import Derived.Laws.StructEq
import Derived.WalkKit
set_option linter.unusedSimpArgs false
set_option linter.unusedVariables false
set_option linter.constructorNameAsVariable false
namespace Go.Vx
open Go Go.RowKit

/-! ### contracts of functions that hand over nothing for writing -/
/-- an argument, a result, as data; a row: a new one -/
inductive Dt where
  | c (p : Pl)
  | agg (ps : List Pl)
  | row (t : TypeId) (ks : List Kd) (rows : List (List Pl))
  | mix (ds : List Dt)

abbrev ConF := List Dt → Option (Prop × List Dt)

def ofAVs : List AV → Option (List Dt)
  | [] => some []
  | .c (.p x) :: l => (ofAVs l).map (.c x :: ·)
  | .agg cs :: l => match plains cs, ofAVs l with
    | some ps, some ds => some (.agg ps :: ds)
    | _, _ => none
  | _ :: _ => none

def inAVs : List Dt → List AV
  | [] => []
  | .c p :: l => .c (.p p) :: inAVs l
  | .agg ps :: l => .agg (ps.map .p) :: inAVs l
  | _ :: l => .c (.p (.i 0)) :: inAVs l

theorem ofAVs_in : ∀ {xs : List AV} {ds : List Dt}, ofAVs xs = some ds → xs = inAVs ds
  | [], ds, h => by simp only [ofAVs, Option.some.injEq] at h; subst h; rfl
  | x :: xs, ds, h => by
    unfold ofAVs at h
    split at h
    · rename_i hh; cases hh
    · rename_i p l hh
      obtain ⟨rfl, rfl⟩ := List.cons.inj hh
      obtain ⟨ds', h1, rfl⟩ := Option.map_eq_some_iff.1 h
      rw [ofAVs_in h1]; rfl
    · rename_i cs l hh
      obtain ⟨rfl, rfl⟩ := List.cons.inj hh
      split at h
      · rename_i ps ds' h1 h2
        obtain rfl := Option.some.inj h
        rw [plains_some h1, ofAVs_in h2]; rfl
      · cases h
    · cases h

/-- cells of a struct that holds new rows -/
def outCs (O : Th) : Nat → List Dt → List Cel × List (Nat × Ent)
  | _, [] => ([], [])
  | nx, .row t ks rows :: l => let r := outCs O (nx + 1) l; (.hdr nx (O.th fun _ => rows.length) :: r.1, (nx, .own t ks rows) :: r.2)
  | nx, .c p :: l => let r := outCs O nx l; (.p p :: r.1, r.2)
  | nx, _ :: l => outCs O nx l

def outs (O : Th) : Nat → List Dt → List AV × List (Nat × Ent)
  | _, [] => ([], [])
  | nx, .c p :: l => let r := outs O nx l; (.c (.p p) :: r.1, r.2)
  | nx, .agg ps :: l => let r := outs O nx l; (.agg (ps.map .p) :: r.1, r.2)
  | nx, .row t ks rows :: l => let r := outs O (nx + 1) l; (.c (.hdr nx (O.th fun _ => rows.length)) :: r.1, (nx, .own t ks rows) :: r.2)
  | nx, .mix ds :: l => let q := outCs O nx ds; let r := outs O (nx + q.2.length) l; (.agg q.1 :: r.1, q.2 ++ r.2)

def cnF (O : Th) (fr : Bool) (g : ConF) : Cn :=
  { md := [], fr := fr, fn := fun xs es => match es with
      | [] => match ofAVs xs with
        | some ds => match g ds with
          | some (c, rs) => some (c, (outs O 0 rs).1, (outs O 0 rs).2)
          | none => none
        | none => none
      | _ => none }

theorem con_of {P : Program} {cx : Th → Cx} (hcx : CxOk P (cx Th.std)) (hm : P.follows .mixedOrders = true) {f : FuncId} {fn : Func} {body : Code} (hf : P.funcs[f]? = some fn) (hb : fn.body = some body) (hname : (fn.name == "runtime.NumGoroutine") = false) {g : Th → Cn}
    (h : ∀ O : Th, O = Th.std → ∀ xs es c rs es2, (g O).fn xs es = some (c, rs, es2) → c → vcFun (cx O) fn body (g O).fr xs es rs es2) : ConOk P f (g Th.std) :=
  con_of_vc hcx hm hf hb hname fun xs es c rs es2 => h _ rfl xs es c rs es2

theorem con_ofF {P : Program} {cx : Th → Cx} (hcx : CxOk P (cx Th.std)) (hm : P.follows .mixedOrders = true) {f : FuncId} {fn : Func} {body : Code} (hf : P.funcs[f]? = some fn) (hb : fn.body = some body) (hname : (fn.name == "runtime.NumGoroutine") = false) {fr : Bool} {g : Th → ConF}
    (h : ∀ O : Th, O = Th.std → ∀ ds c rs, g O ds = some (c, rs) → c → vcFun (cx O) fn body fr (inAVs ds) [] (outs O 0 rs).1 (outs O 0 rs).2) : ConOk P f (cnF Th.std fr (g Th.std)) := by
  refine con_of (g := fun O => cnF O fr (g O)) hcx hm hf hb hname fun O hO xs es c rs es2 hg hc => ?_
  simp only [cnF] at hg
  split at hg
  case h_2 => cases hg
  split at hg
  case h_2 => cases hg
  rename_i ds hds
  split at hg
  case h_2 => cases hg
  rename_i c' rs' hr
  simp only [Option.some.injEq, Prod.mk.injEq] at hg
  obtain ⟨rfl, rfl, rfl⟩ := hg
  rw [ofAVs_in hds]
  exact h O hO ds _ _ hr hc

theorem ifI {c : Prop} [Decidable c] {A B : Prop} (h1 : c → A) (h2 : ¬c → B) : if c then A else B := by
  split
  · exact h1 ‹_›
  · exact h2 ‹_›

theorem callFunc_enter {P : Program} {f : FuncId} {fn : Func} {body : Code} (hf : P.funcs[f]? = some fn) (hb : fn.body = some body) (hname : (fn.name == "runtime.NumGoroutine") = false) (args : Array Value) (w : World) :
    (callFunc f args).run P w = .ok (.enter f args) w := by
  have h1 : fn.name ≠ "runtime.NumGoroutine" := by simpa using hname
  simp [callFunc, hf, h1, hb]

theorem ncast (n : Nat) : @NatCast.natCast Int instNatCastInt n = Int.ofNat n := rfl
def none0 : Zs := fun _ => none
/-- a contract of a function that leaves the world as it was and tells flat data -/
theorem con_of_flat {P : Program} {f : FuncId} {g : ConF}
    (h : ∀ w Z args ds c rs, GlobOk P Z → Frz Z w → AVsOk Z (fun _ => none) args (inAVs ds) → g ds = some (c, rs) → c → (outs Th.std 0 rs).2 = [] ∧ ∃ vs, AVsOk none0 (fun _ => none) vs (outs Th.std 0 rs).1 ∧ CallR P f args.toArray w fun v w' => v = pack vs ∧ w' = w) : ConOk P f (cnF Th.std true g) := by
  intro w Z V es args xs hgl henv hkeys hargs c rs es2 hg hc
  simp only [cnF] at hg
  split at hg
  case h_2 => cases hg
  split at hg
  case h_2 => cases hg
  rename_i ds hds
  split at hg
  case h_2 => cases hg
  rename_i c' rs' hr
  simp only [Option.some.injEq, Prod.mk.injEq] at hg
  obtain ⟨rfl, rfl, rfl⟩ := hg
  have hV : V = fun _ => none := funext fun e => hkeys e (Nat.zero_le _)
  subst hV
  rw [ofAVs_in hds] at hargs
  obtain ⟨h1, vs, h2, h3⟩ := h w Z args ds _ _ hgl henv.frz hargs hr hc
  refine h3.mono fun v w' ⟨h4, h5⟩ => ⟨vs, h4, ?_⟩
  subst h5
  refine ⟨none0, fun _ => none, fun k cs hk => (nomatch hk), fun k cs hk => (nomatch hk), h2, ?_, ?_, henv.frame, fun e d he hd => hd⟩
  · intro p hp; rw [h1] at hp; cases hp
  · intro p hp; rw [h1] at hp; cases hp

/-! ### sums with a carry -/
def carry (x y c : BitVec 64) : BitVec 64 := if x.toNat + y.toNat + c.toNat < 18446744073709551616 then 0 else 1
def borrow (x y c : BitVec 64) : BitVec 64 := if x.toNat < y.toNat + c.toNat then 1 else 0

def fAdd64 (O : Th) : ConF := fun
  | [.c (.u x), .c (.u y), .c (.u c)] => some (O.th fun _ => c.toNat ≤ 1, [.c (.u (O.th fun _ => x + y + c)), .c (.u (O.th fun _ => carry x y c))])
  | _ => none
def fSub64 (O : Th) : ConF := fun
  | [.c (.u x), .c (.u y), .c (.u c)] => some (O.th fun _ => c.toNat ≤ 1, [.c (.u (O.th fun _ => x - y - c)), .c (.u (O.th fun _ => borrow x y c))])
  | _ => none

def sub64Ent : Array Value → Sem Value := fun args => do
  let (x, y, b) ← Extern.MathBitsCarry.three "Sub64" args
  pure (Extern.MathBitsCarry.pair ((x + Extern.MathBitsCarry.m64 - y - b) % Extern.MathBitsCarry.m64) (if x < y + b then 1 else 0))

theorem run_sub64Ent {P : Program} (x y b : Nat) (hb : b ≤ 1) (w : World) :
    (sub64Ent #[.int .u64 x, .int .u64 y, .int .u64 b]).run P w =
      .ok (.tuple #[.int .u64 (((x + 18446744073709551616 - y - b) % 18446744073709551616 : Nat) : Int), .int .u64 ((if x < y + b then 1 else 0 : Nat) : Int)]) w := by
  have : b = 0 ∨ b = 1 := by omega
  rcases this with rfl | rfl <;> rfl

theorem uuu {Z : Zs} {V : Vl} {args : List Value} {x y z : BitVec 64} (h : AVsOk Z V args [.c (.p (.u x)), .c (.p (.u y)), .c (.p (.u z))]) : args = [.int .u64 x.toNat, .int .u64 y.toNat, .int .u64 z.toNat] := by
  cases h; rename_i h1 h; cases h; rename_i h2 h; cases h; rename_i h3 h; cases h
  cases h1; rename_i h1; cases h1; rename_i h1; cases h1
  cases h2; rename_i h2; cases h2; rename_i h2; cases h2
  cases h3; rename_i h3; cases h3; rename_i h3; cases h3
  rfl

theorem add64_ok {P : Program} {f : FuncId} {fn : Func} (hf : P.funcs[f]? = some fn) (hname : (fn.name == "runtime.NumGoroutine") = false) (hb : fn.body.isNone = true) (hn : Extern.findNext fn = none) (he : Extern.find fn = some add64Entry) : ConOk P f (cnF Th.std true (fAdd64 Th.std)) := by
  refine con_of_flat fun w Z args ds c rs _ _ hargs hg hc => ?_
  unfold fAdd64 at hg
  split at hg
  case h_2 => cases hg
  rename_i x y z
  simp only [Option.some.injEq, Prod.mk.injEq] at hg
  obtain ⟨rfl, rfl⟩ := hg
  obtain rfl := uuu hargs
  refine ⟨rfl, [.int .u64 (x + y + z).toNat, .int .u64 (carry x y z).toNat], .cons (.c (.p (.u _))) (.cons (.c (.p (.u _))) .nil), .inr ⟨_, w, ?_, rfl, rfl⟩⟩
  rw [run_callFunc_extern hf hname hb hn he]
  have hr : (add64Entry #[.int .u64 x.toNat, .int .u64 y.toNat, .int .u64 z.toNat]).run P w = .ok (pack [.int .u64 (x + y + z).toNat, .int .u64 (carry x y z).toNat]) w := by
    refine (run_add64 _ _ _ (by omega) (by omega) (by omega) (by omega) w).trans ?_
    have hx := x.isLt; have hy := y.isLt; have hz := z.isLt
    have e1 : ((x.toNat : Int) + y.toNat + z.toNat) % 18446744073709551616 = (x + y + z).toNat := by
      rw [BitVec.toNat_add, BitVec.toNat_add]; omega
    have e2 : ((x.toNat : Int) + y.toNat + z.toNat) / 18446744073709551616 = (carry x y z).toNat := by
      unfold carry
      split <;> simp <;> omega
    simp only [pack]
    rw [← e1, ← e2]
  rw [hr]; rfl

theorem sub64_ok {P : Program} {f : FuncId} {fn : Func} (hf : P.funcs[f]? = some fn) (hname : (fn.name == "runtime.NumGoroutine") = false) (hb : fn.body.isNone = true) (hn : Extern.findNext fn = none) (he : Extern.find fn = some sub64Ent) : ConOk P f (cnF Th.std true (fSub64 Th.std)) := by
  refine con_of_flat fun w Z args ds c rs _ _ hargs hg hc => ?_
  unfold fSub64 at hg
  split at hg
  case h_2 => cases hg
  rename_i x y z
  simp only [Option.some.injEq, Prod.mk.injEq] at hg
  obtain ⟨rfl, rfl⟩ := hg
  obtain rfl := uuu hargs
  refine ⟨rfl, [.int .u64 (x - y - z).toNat, .int .u64 (borrow x y z).toNat], .cons (.c (.p (.u _))) (.cons (.c (.p (.u _))) .nil), .inr ⟨_, w, ?_, rfl, rfl⟩⟩
  rw [run_callFunc_extern hf hname hb hn he]
  have hr : (sub64Ent #[.int .u64 x.toNat, .int .u64 y.toNat, .int .u64 z.toNat]).run P w = .ok (pack [.int .u64 (x - y - z).toNat, .int .u64 (borrow x y z).toNat]) w := by
    refine (run_sub64Ent _ _ _ (by omega) w).trans ?_
    have hx := x.isLt; have hy := y.isLt; have hz := z.isLt
    have e1 : (x.toNat + 18446744073709551616 - y.toNat - z.toNat) % 18446744073709551616 = (x - y - z).toNat := by
      rw [BitVec.toNat_sub, BitVec.toNat_sub]; omega
    have e2 : (if x.toNat < y.toNat + z.toNat then 1 else 0) = (borrow x y z).toNat := by
      unfold borrow
      split <;> rfl
    rw [e1, e2]
    rfl
  rw [hr]; rfl

/-! ### '==' of structs -/
section
variable {P : Program} {d : Nat} {xs ys : Array Value} {f : Field} {fs : List Field} {a b : Value} {r s : Bool} {w : World}
theorem ef_last (hn : (f.name == "_") = false) (ha : (part f.type xs f.offset).run P w = .ok a w) (hb : (part f.type ys f.offset).run P w = .ok b w) (he : (Op.equalIn d f.type a b).run P w = .ok r w) : (Op.eqFields d xs ys [f]).run P w = .ok r w := by
  have hn' : f.name ≠ "_" := by simpa using hn
  simp only [Op.eqFields, if_pos hn', Sem.run_bind, ha, hb, he, Result.andThen_ok]
  cases r <;> simp
theorem ef_cons (hn : (f.name == "_") = false) (ha : (part f.type xs f.offset).run P w = .ok a w) (hb : (part f.type ys f.offset).run P w = .ok b w) (he : (Op.equalIn d f.type a b).run P w = .ok r w) (hr : (Op.eqFields d xs ys fs).run P w = .ok s w) : (Op.eqFields d xs ys (f :: fs)).run P w = .ok (r && s) w := by
  have hn' : f.name ≠ "_" := by simpa using hn
  rw [Op.eqFields]
  simp only [if_pos hn', Sem.run_bind, ha, hb, he, Result.andThen_ok]
  cases r
  · simp
  · simpa using hr
theorem ef_struct {t : TypeId} {fs : Array Field} (hu : P.underlying t = some (.struct fs)) (hp : P.stoodInHeld t = false) (h : (Op.eqFields d xs ys fs.toList).run P w = .ok r w) : (Op.equalIn (d + 1) t (.agg xs) (.agg ys)).run P w = .ok r w := by
  have hf : P.fieldsOf t = fs := by simp [Program.fieldsOf, hu]
  rw [run_equalIn_struct (P := P) w d t xs ys (by rw [hf]; exact hu) hp, hf]
  exact h
end

theorem kd_cons {k : Kd} {ks : List Kd} {xs : List Pl} (h : xs.map Pl.kd = k :: ks) : ∃ x ys, xs = x :: ys ∧ x.kd = k ∧ ys.map Pl.kd = ks := by
  cases xs with
  | nil => cases h
  | cons x ys =>
    simp only [List.map_cons, List.cons.injEq] at h
    exact ⟨x, ys, rfl, h.1, h.2⟩
theorem kd_nil {xs : List Pl} (h : xs.map Pl.kd = []) : xs = [] := by simpa using h
theorem kd_u {x : Pl} (h : x.kd = .u) : ∃ a, x = .u a := by cases x <;> first | exact ⟨_, rfl⟩ | cases h
theorem kd_i {x : Pl} (h : x.kd = .i) : ∃ a, x = .i a := by cases x <;> first | exact ⟨_, rfl⟩ | cases h
theorem kd_b {x : Pl} (h : x.kd = .b) : ∃ a, x = .b a := by cases x <;> first | exact ⟨_, rfl⟩ | cases h

theorem eqOk_of {P : Program} {T : TypeId} {ks : List Kd} (hg : P.eqGuardType P.depth T = false)
    (h : ∀ xs ys : List Pl, xs.map Pl.kd = ks → ys.map Pl.kd = ks → ∀ w, (Op.equal T (.agg (xs.map Pl.den).toArray) (.agg (ys.map Pl.den).toArray)).run P w = .ok (plsEq xs ys) w) : EqOk P T ks := by
  intro xs ys hx hy w ox oy
  have hq := h xs ys hx hy w
  constructor
  · simp [eqGuard, Go.binOp, Sem.run_bind, run_program, hg, hq]
  · simp [eqGuard, Go.binOp, Sem.run_bind, run_program, hg, hq]
end Go.Vx

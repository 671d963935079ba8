import Derived.Test.YtijaimiefcohbaaDoorX2
set_option linter.unusedSimpArgs false
set_option linter.unusedVariables false
set_option linter.constructorNameAsVariable false
namespace Go.Vx
open Go Go.RowKit

/-! ### reading a row -/
def uAt (rows : List (List Pl)) (i : Int) (k : Nat) : BitVec 64 := match (rows.getD i.toNat []).getD k (.i 0) with | .u x => x | _ => 0
def iAt (rows : List (List Pl)) (i : Int) (k : Nat) : Int := match (rows.getD i.toNat []).getD k (.i 0) with | .i x => x | _ => 0
def bAt (rows : List (List Pl)) (i : Int) (k : Nat) : Bool := match (rows.getD i.toNat []).getD k (.i 0) with | .b x => x | _ => false
def vAt (rows : List (List Pl)) (i : Int) (k : Nat) : Value := match (rows.getD i.toNat []).getD k (.i 0) with | .v x => x | _ => .nilFunc
def rAt (rows : List (List Pl)) (i : Int) (k : Nat) : List (List Pl) := match (rows.getD i.toNat []).getD k (.i 0) with | .r _ x => x | _ => []
def qAt (rows : List (List Pl)) (i : Int) (k : Nat) : List Pl := match (rows.getD i.toNat []).getD k (.i 0) with | .q _ x => x | _ => []
def pAt (rows : List (List Pl)) (i : Int) (k : Nat) : Pl := (rows.getD i.toNat []).getD k (.i 0)

def plAt (rows : List (List Pl)) (i : Int) (k : Nat) : Kd → Pl
  | .u => .u (uAt rows i k)
  | .i => .i (iAt rows i k)
  | .b => .b (bAt rows i k)
  | .o => .v (vAt rows i k)
  | .r ks => .r ks (rAt rows i k)
  | .q ks => .q ks (qAt rows i k)
  | .f => pAt rows i k

/-- what stands there may be seen so -/
theorem PlOk.at {Z : Zs} {v : Value} {x : Pl} (h : PlOk Z v x) {rows : List (List Pl)} {i : Int} {k : Nat} (hr : pAt rows i k = x) : PlOk Z v (plAt rows i k x.kd) := by
  have hg : (rows.getD i.toNat []).getD k (.i 0) = x := hr
  cases x with
  | u x => simp only [Pl.kd, plAt, uAt, hg]; exact h
  | i x => simp only [Pl.kd, plAt, iAt, hg]; exact h
  | b x => simp only [Pl.kd, plAt, bAt, hg]; exact h
  | v x => simp only [Pl.kd, plAt, vAt, hg]; exact h
  | n ks => simp only [Pl.kd, plAt, rAt, hg]; cases h; exact .r0 _ _ _
  | r ks rs => simp only [Pl.kd, plAt, rAt, hg]; exact h
  | q ks cs => simp only [Pl.kd, plAt, qAt, hg]; exact h
  | f g a c => simp only [Pl.kd, plAt, pAt, hg]; exact h
  | g cs => cases h

theorem pAt_row {rows : List (List Pl)} {ks : List Kd} (ht : typed ks rows) {i : Int} (h0 : 0 ≤ i) (h1 : i < rows.length) {k : Nat} {q : Kd} (hk : ks[k]? = some q) :
    ∃ r, rows[i.toNat]? = some r ∧ r[k]? = some (pAt rows i k) ∧ (pAt rows i k).kd = q := by
  have hlt : i.toNat < rows.length := by omega
  have hm := ht _ (List.getElem_mem hlt)
  have hkk : (rows[i.toNat].map Pl.kd)[k]? = some q := by rw [hm]; exact hk
  rw [List.getElem?_map] at hkk
  refine ⟨rows[i.toNat], List.getElem?_eq_getElem hlt, ?_⟩
  cases hx : rows[i.toNat][k]? with
  | none => simp [hx] at hkk
  | some x =>
    simp [hx] at hkk
    have hg : pAt rows i k = x := by
      unfold pAt
      rw [List.getD_eq_getElem?_getD, List.getD_eq_getElem?_getD, List.getElem?_eq_getElem hlt]
      simp [hx]
    rw [hg]
    exact ⟨rfl, hkk⟩

theorem plAt_flat {Z : Zs} {rows : List (List Pl)} {ks : List Kd} {vs : List Value} (ht : typed ks rows) (hv : PlsOk Z vs rows.flatten) {i : Int} (h0 : 0 ≤ i) (h1 : i < rows.length) {k : Nat} {q : Kd} (hk : ks[k]? = some q) :
    ∃ v, vs[i.toNat * ks.length + k]? = some v ∧ PlOk Z v (plAt rows i k q) := by
  obtain ⟨r, hr, hx, hq⟩ := pAt_row ht h0 h1 hk
  obtain ⟨v, h2, h3⟩ := hv.get _ (flatten_get _ _ (typed_length ht) hr hx)
  exact ⟨v, h2, hq ▸ h3.at rfl⟩

/-- the cells from k on of element i -/
def plsAt (rows : List (List Pl)) (i : Int) (k : Nat) : List Kd → List Pl
  | [] => []
  | q :: qs => plAt rows i k q :: plsAt rows i (k + 1) qs

theorem plsAt_flat {Z : Zs} {rows : List (List Pl)} {ks : List Kd} {vs : List Value} (ht : typed ks rows) (hv : PlsOk Z vs rows.flatten) {i : Int} (h0 : 0 ≤ i) (h1 : i < rows.length) : ∀ (qs : List Kd) (k : Nat), (∀ j q, qs[j]? = some q → ks[k + j]? = some q) →
    ∃ us, PlsOk Z us (plsAt rows i k qs) ∧ ∀ j u, us[j]? = some u → vs[i.toNat * ks.length + (k + j)]? = some u
  | [], k, _ => ⟨[], .nil, fun j u h => by simp at h⟩
  | q :: qs, k, h => by
    obtain ⟨v, h2, h3⟩ := plAt_flat ht hv h0 h1 (h 0 q rfl)
    obtain ⟨us, k1, k2⟩ := plsAt_flat ht hv h0 h1 qs (k + 1) (fun j q hj => by have := h (j + 1) q (by simpa using hj); rw [show k + 1 + j = k + (j + 1) by omega]; exact this)
    refine ⟨v :: us, .cons h3 k1, fun j u hj => ?_⟩
    cases j with
    | zero => simp at hj; subst hj; exact h2
    | succ j => simp at hj; have := k2 j u hj; rw [show k + 1 + j = k + (j + 1) by omega] at this; exact this

theorem plsAt_length {rows : List (List Pl)} {i : Int} : ∀ {qs : List Kd} {k : Nat}, (plsAt rows i k qs).length = qs.length
  | [], _ => rfl
  | _ :: _, _ => by simp [plsAt, plsAt_length]

theorem add_add (a : Addr) (i j : Nat) : (a.add i).add j = a.add (i + j) := by
  unfold Addr.add
  by_cases hi : i = 0 <;> by_cases hj : j = 0 <;> simp [hi, hj, Nat.add_assoc]

abbrev En := Nat → Option Ent

section
variable {P : Program} {w : World} {B : Bs} {Z : Zs} {V : Vl} {es : List (Nat × Ent)}

/-- a row of ours: its cells -/
theorem EnvOk.own (hs : EnvOk B Z V es w) {e : Nat} {t : TypeId} {ks : List Kd} {rows : List (List Pl)} (h : es.lookup e = some (.own t ks rows)) :
    ∃ d vs, V e = some d ∧ typed ks rows ∧ PlsOk Z vs rows.flatten ∧ w.ownsRow 0 t ks.length (.slice d.adr rows.length d.cap) rows.length vs ∧ rows.length ≤ d.cap ∧
      (0 < rows.length → ∃ ad, d.adr = some ad ∧ ∀ j v, vs[j]? = some v → w.cell? (ad.add j) = some v) := by
  obtain ⟨d, hV, ⟨ht, vs, hv, ho⟩, _⟩ := hs.ents _ _ h
  refine ⟨d, vs, hV, ht, hv, ho, ?_, fun hp => ?_⟩
  · rcases ho.2 with ⟨h1, h2⟩ | ⟨g, cap, cur, h1, _, _, h2, _⟩
    · omega
    · injection h1 with _ _ h3; omega
  · rcases ho.2 with ⟨_, h2⟩ | ⟨g, cap, cur, h1, _⟩
    · omega
    · injection h1 with h3 _ _
      exact ⟨⟨g, 0, none⟩, h3, ho.cells (g := g) (by rw [h3]; rfl)⟩

/-! ### runs -/
theorem run_isAgg {T : TypeId} {d : TypeDesc} (h : P.underlying T = some d) : (isAgg T).run P w = .ok (aggB d) w := by
  unfold isAgg
  rw [Sem.run_bind, run_underlying h w]
  cases d <;> rfl

theorem run_sizeOf {T : TypeId} {ti : TI} (h : ti.ok P T) : (sizeOf T).run P w = .ok ti.size w := by
  obtain ⟨d, i, z, h1, h2, h3, h4, h5, h6, _⟩ := tinfo_some h
  simp [sizeOf, typeInfo, h2, h6]

theorem run_zero {T : TypeId} {ti : TI} (h : ti.ok P T) (Z : Zs) : ∃ z, (zeroValue T).run P w = .ok z w ∧ PlsOk Z z.cells.toList ti.zero := by
  obtain ⟨d, i, z, h1, h2, h3, h4, h5, h6, _⟩ := tinfo_some h
  exact ⟨z, by simp [zeroValue, typeInfo, h2, h3], zsOk_spec h4.2⟩

/-- a variable of type T at an address whose cells are known -/
theorem run_load_at {T : TypeId} {ti : TI} (h : ti.ok P T) (ad : Addr) (vs : List Value) (hl : vs.length = ti.size)
    (hc : ∀ j v, vs[j]? = some v → w.cell? (ad.add j) = some v) (ha : ti.agg = false → ti.size = 1) :
    (Instr.loadAt T (.pointer (some ad))).run P w = .ok (if ti.agg then .agg vs.toArray else vs.headD .nilFunc) w := by
  obtain ⟨d, i, z, h1, h2, h3, h4, h5, h6, _⟩ := tinfo_some h
  simp only [Instr.loadAt, Instr.sureAddr, Sem.run_bind, Sem.run_pure, Result.andThen_ok, loadVar, run_isAgg h1]
  by_cases hag : ti.agg = true
  · rw [← h5, hag]
    simp only [if_true, Sem.run_bind, run_sizeOf h, Result.andThen_ok]
    have := run_loadCells_list (P := P) w ad vs hc
    rw [hl] at this
    rw [this]; rfl
  · have hf : ti.agg = false := by simpa using hag
    rw [← h5, hf]
    have h11 := ha hf
    obtain ⟨v, hv⟩ : ∃ v, vs = [v] := by
      match vs, hl.trans h11 with
      | [v], _ => exact ⟨v, rfl⟩
    subst hv
    have hcell : w.cell? ad = some v := by
      have := hc 0 v rfl
      simpa [Addr.add] using this
    simp [hcell]

end

/-! ### '==' of structs -/
def eq1 : Pl → Pl → Bool
  | .u x, .u y => x == y
  | .i x, .i y => x == y
  | .b x, .b y => x == y
  | .v (.string x), .v (.string y) => x.toList == y.toList
  | .v (.int _ x), .v (.int _ y) => x == y
  | _, _ => false

def plsEq : List Pl → List Pl → Bool
  | [], [] => true
  | [x], [y] => eq1 x y
  | x :: xs, y :: ys => eq1 x y && plsEq xs ys
  | _, _ => false

/-- '==' and '!=' of structs of type T, cell by cell -/
def EqOk (P : Program) (T : TypeId) (ks : List Kd) : Prop :=
  ∀ (xs ys : List Pl), xs.map Pl.kd = ks → ys.map Pl.kd = ks → ∀ (w : World) (ox oy : Operand),
    ((do eqGuard .eql T ox oy (.agg (xs.map Pl.den).toArray) (.agg (ys.map Pl.den).toArray); Go.binOp .eql T (.agg (xs.map Pl.den).toArray) (.agg (ys.map Pl.den).toArray)) : Sem Value).run P w = .ok (.bool (plsEq xs ys)) w ∧
    ((do eqGuard .neq T ox oy (.agg (xs.map Pl.den).toArray) (.agg (ys.map Pl.den).toArray); Go.binOp .neq T (.agg (xs.map Pl.den).toArray) (.agg (ys.map Pl.den).toArray)) : Sem Value).run P w = .ok (.bool (!plsEq xs ys)) w

/-- kinds that are compared outright -/
def Kd.plain : Kd → Bool
  | .u | .i | .b => true
  | _ => false

theorem PlsOk.dens {Z : Zs} : ∀ {vs : List Value} {ps : List Pl}, PlsOk Z vs ps → ((ps.map Pl.kd).all Kd.plain) = true → vs = ps.map Pl.den
  | _, _, .nil, _ => rfl
  | _, _, .cons (p := p) h hs, k => by
    simp only [List.map_cons, List.all_cons, Bool.and_eq_true] at k
    rw [hs.dens k.2]
    cases h <;> first | rfl | (simp [Pl.kd, Kd.plain] at k)

structure Tb where
  tab : List (TypeId × TI)
  eqs : List (TypeId × List Kd)
  O : Th

structure TbOk (P : Program) (tb : Tb) : Prop where
  tab : ∀ T ti, tb.tab.lookup T = some ti → ti.ok P T
  eqs : ∀ T ks, tb.eqs.lookup T = some ks → EqOk P T ks

abbrev Ov := Operand → Option (Bool × SV)

/-- the plain cells of a list, if all are plain -/
def plains : List Cel → Option (List Pl)
  | [] => some []
  | .p x :: cs => (plains cs).map (x :: ·)
  | _ :: _ => none

theorem plains_some : ∀ {cs : List Cel} {ps : List Pl}, plains cs = some ps → cs = ps.map .p
  | [], ps, h => by obtain rfl := Option.some.inj h; rfl
  | .p x :: cs, ps, h => by
    simp only [plains] at h
    cases hq : plains cs with
    | none => simp [hq] at h
    | some qs =>
      simp [hq] at h
      subst h
      simp [plains_some hq]
  | .ptr _ _ :: _, _, h => by simp [plains] at h
  | .elt _ _ _ _ :: _, _, h => by simp [plains] at h
  | .hdr _ _ :: _, _, h => by simp [plains] at h
  | .sub _ _ _ _ :: _, _, h => by simp [plains] at h
  | .relt _ _ _ _ :: _, _, h => by simp [plains] at h
  | .rptr _ _ :: _, _, h => by simp [plains] at h
  | .fn _ _ _ :: _, _, h => by simp [plains] at h
  | .g _ :: _, _, h => by simp [plains] at h

def plAtS (O : Th) (rows : List (List Pl)) (i : Int) (k : Nat) : Kd → Pl
  | .u => .u (O.th fun _ => uAt rows i k)
  | .i => .i (O.th fun _ => iAt rows i k)
  | .b => .b (O.th fun _ => bAt rows i k)
  | .o => .v (O.th fun _ => vAt rows i k)
  | .r ks => .r ks (O.th fun _ => rAt rows i k)
  | .q ks => .q ks (O.th fun _ => qAt rows i k)
  | .f => O.th fun _ => pAt rows i k

theorem plAtS_eq {O : Th} {rows : List (List Pl)} {i : Int} {k : Nat} {q : Kd} : plAtS O rows i k q = plAt rows i k q := by cases q <;> simp only [plAtS, plAt, O.eq]

def plsAtS (O : Th) (rows : List (List Pl)) (i : Int) (k : Nat) : List Kd → List Pl
  | [] => []
  | q :: qs => plAtS O rows i k q :: plsAtS O rows i (k + 1) qs

theorem plsAtS_eq {O : Th} {rows : List (List Pl)} {i : Int} : ∀ {qs : List Kd} {k : Nat}, plsAtS O rows i k qs = plsAt rows i k qs
  | [], _ => rfl
  | _ :: _, _ => by simp only [plsAtS, plsAt, plAtS_eq, plsAtS_eq]

/-- a part of a struct's or an array's cells -/
def partOf (ti : TI) (cs : List Cel) (off : Nat) : Option AV :=
  if ti.agg then (if off + ti.size ≤ cs.length then some (.agg ((cs.drop off).take ti.size)) else none)
  else if ti.size = 1 then (cs[off]?).map .c else none

def loadRow (tb : Tb) (ti : TI) (ks : List Kd) (rows : List (List Pl)) (i : Int) (k : Nat) : Option (Prop × AV) :=
  if k + ti.size ≤ ks.length then
    (if ti.agg then some (tb.O.th fun _ => 0 ≤ i ∧ i < rows.length, .agg ((plsAtS tb.O rows i k ((ks.drop k).take ti.size)).map .p))
    else match ks[k]? with
      | some q => if ti.size = 1 then some (tb.O.th fun _ => 0 ≤ i ∧ i < rows.length, .c (.p (plAtS tb.O rows i k q))) else none
      | none => none)
  else none

def opLoad (tb : Tb) (en : En) (T : TypeId) : AV → Option (Prop × AV)
  | .c (.ptr e k) =>
    match tb.tab.lookup T, en e with
    | some ti, some (.cells cs _) => (partOf ti cs k).map fun x => (True, x)
    | _, _ => none
  | .c (.rptr cs k) =>
    match tb.tab.lookup T with
    | some ti => (partOf ti (cs.map .p) k).map fun x => (True, x)
    | none => none
  | .c (.elt e sz i k) =>
    match tb.tab.lookup T, en e with
    | some ti, some (.own _ ks rows) => if sz = ks.length then loadRow tb ti ks rows i k else none
    | _, _ => none
  | .c (.relt ks rows i k) =>
    match tb.tab.lookup T with
    | some ti => loadRow tb ti ks rows i k
    | none => none
  | _ => none

/-- the address of a part that lies so far behind -/
def addOff (off : Nat) : AV → Option AV
  | .c (.ptr e k) => some (.c (.ptr e (k + off)))
  | .c (.elt e sz i k) => some (.c (.elt e sz i (k + off)))
  | .c (.relt ks rows i k) => some (.c (.relt ks rows i (k + off)))
  | .c (.rptr cs k) => some (.c (.rptr cs (k + off)))
  | .c (.p (.q _ cs)) => some (.c (.rptr cs off))
  | _ => none

def opFieldAddr (tb : Tb) (T : TypeId) (f : Nat) (x : AV) : Option (Prop × AV) :=
  match tb.tab.lookup T with
  | some ti => match ti.flds[f]? with
    | some (off, FT) => match tb.tab.lookup FT with
      | some fi => if fi.size = 0 then none else (addOff off x).map fun r => (True, r)
      | none => none
    | none => none
  | none => none

def opField (tb : Tb) (T : TypeId) (f : Nat) : AV → Option (Prop × AV)
  | .agg cs =>
    match tb.tab.lookup T with
    | some ti => match ti.flds[f]? with
      | some (off, FT) => match tb.tab.lookup FT with
        | some fi => (partOf fi cs off).map fun v => (True, v)
        | none => none
      | none => none
    | none => none
  | _ => none

def slElem (tb : Tb) (T : TypeId) : Option TI :=
  match tb.tab.lookup T with
  | some ti => if ti.sl then ti.elem.bind fun E => tb.tab.lookup E else none
  | none => none

def arElem (tb : Tb) (T : TypeId) : Option (Nat × TI) :=
  match tb.tab.lookup T with
  | some ti => match ti.arr with
    | some n => ti.elem.bind fun E => (tb.tab.lookup E).map fun ei => (n, ei)
    | none => none
  | none => none

def opIndexAddr (tb : Tb) (en : En) (T : TypeId) : AV → AV → Option (Prop × AV)
  | .c (.hdr e n), .c (.p (.i i)) =>
    match slElem tb T, en e with
    | some ei, some (.own _ ks rows) => if ei.size = ks.length then some (tb.O.th fun _ => 0 ≤ i ∧ i < n ∧ i < rows.length, .c (.elt e ei.size i 0)) else none
    | _, _ => none
  | .c (.p (.r ks rows)), .c (.p (.i i)) =>
    match slElem tb T with
    | some ei => if ei.size = ks.length then some (tb.O.th fun _ => 0 ≤ i ∧ i < rows.length, .c (.relt ks rows i 0)) else none
    | none => none
  | _, _ => none

/-- the address of an array's element (the index is told) -/
def opIndexArr (tb : Tb) (T : TypeId) (x : AV) : AV → Option (Prop × AV)
  | .c (.p (.i i)) =>
    match arElem tb T with
    | some (n, ei) => if ei.size = 0 then none else (addOff (i.toNat * ei.size) x).map fun r => (tb.O.th fun _ => 0 ≤ i ∧ i < n, r)
    | none => none
  | _ => none

/-- an array's element (the index is told) -/
def opIndex (tb : Tb) (T : TypeId) : AV → AV → Option (Prop × AV)
  | .agg cs, .c (.p (.i i)) =>
    match arElem tb T with
    | some (n, ei) => (partOf ei cs (i.toNat * ei.size)).map fun r => (tb.O.th fun _ => 0 ≤ i ∧ i < n, r)
    | none => none
  | _, _ => none

def opUn (O : Th) : UnOp → AV → Option (Prop × AV)
  | .not, .c (.p (.b x)) => some (True, .c (.p (.b (O.th fun _ => !x))))
  | .neg, .c (.p (.i x)) => some (True, .c (.p (.i (O.th fun _ => wrap64 (0 - x)))))
  | .neg, .c (.p (.u x)) => some (True, .c (.p (.u (O.th fun _ => 0 - x))))
  | .xor, .c (.p (.u x)) => some (True, .c (.p (.u (O.th fun _ => ~~~x))))
  | _, _ => none

/-- no slice there -/
def nilSl : AV → Bool
  | .c (.p (.n _)) => true
  | _ => false
def nilSv : AV → Bool
  | .c (.p (.n _)) => true
  | .c (.p (.v (.slice none m n))) => m == 0 && n == 0
  | _ => false
def nilPv : AV → Bool
  | .c (.p (.v (.pointer none))) => true
  | _ => false
def nilFv : AV → Bool
  | .c (.p (.v .nilFunc)) => true
  | _ => false
def anyP : AV → Option Bool
  | .c (.p (.v (.pointer none))) => some true
  | .c (.p (.q _ _)) => some false
  | .c (.ptr _ _) => some false
  | _ => none
def anyF : AV → Option Bool
  | .c (.p (.v .nilFunc)) => some true
  | .c (.p (.f _ _ _)) => some false
  | .c (.fn _ _ _) => some false
  | _ => none
/-- is it nil?  k: how the type stands to nil (0: not at all) -/
def isNil (k : Nat) (x y : AV) : Option Bool :=
  if k == 0 then none
  else if k == 1 then (if nilSl x && nilSv y then some true else none)
  else if k == 2 then (if nilPv y then anyP x else none)
  else if k == 3 then (if nilFv y then anyF x else none)
  else none
theorem isNil0 (x y : AV) : isNil 0 x y = none := by simp [isNil]
theorem isNil_cases {k : Nat} {x y : AV} {b : Bool} (h : isNil k x y = some b) :
    (k = 1 ∧ b = true ∧ (∃ ks, x = .c (.p (.n ks))) ∧ ((∃ ks, y = .c (.p (.n ks))) ∨ y = .c (.p (.v (.slice none 0 0))))) ∨
    (k = 2 ∧ y = .c (.p (.v (.pointer none))) ∧ (x = .c (.p (.v (.pointer none))) ∧ b = true ∨ (∃ ks cs, x = .c (.p (.q ks cs))) ∧ b = false ∨ (∃ e k, x = .c (.ptr e k)) ∧ b = false)) ∨
    (k = 3 ∧ y = .c (.p (.v .nilFunc)) ∧ (x = .c (.p (.v .nilFunc)) ∧ b = true ∨ (∃ f first cs, x = .c (.p (.f f first cs))) ∧ b = false ∨ (∃ f first cs, x = .c (.fn f first cs)) ∧ b = false)) := by
  unfold isNil at h
  split at h
  · cases h
  split at h
  · rename_i h1
    split at h
    · rename_i h2
      obtain rfl := Option.some.inj h
      rw [Bool.and_eq_true] at h2
      refine .inl ⟨by simpa using h1, rfl, ?_, ?_⟩
      · have := h2.1; unfold nilSl at this; split at this
        · exact ⟨_, rfl⟩
        · cases this
      · have := h2.2; unfold nilSv at this; split at this
        · exact .inl ⟨_, rfl⟩
        · rw [Bool.and_eq_true] at this
          obtain ⟨rfl, rfl⟩ := (show _ ∧ _ from ⟨eq_of_beq this.1, eq_of_beq this.2⟩)
          exact .inr rfl
        · cases this
    · cases h
  split at h
  · rename_i h1
    split at h
    · rename_i h2
      have hy : y = .c (.p (.v (.pointer none))) := by
        unfold nilPv at h2; split at h2
        · rfl
        · cases h2
      refine .inr (.inl ⟨by simpa using h1, hy, ?_⟩)
      unfold anyP at h; split at h <;> (try (cases h; done)) <;> obtain rfl := Option.some.inj h
      · exact .inl ⟨rfl, rfl⟩
      · exact .inr (.inl ⟨⟨_, _, rfl⟩, rfl⟩)
      · exact .inr (.inr ⟨⟨_, _, rfl⟩, rfl⟩)
    · cases h
  split at h
  · rename_i h1
    split at h
    · rename_i h2
      have hy : y = .c (.p (.v .nilFunc)) := by
        unfold nilFv at h2; split at h2
        · rfl
        · cases h2
      refine .inr (.inr ⟨by simpa using h1, hy, ?_⟩)
      unfold anyF at h; split at h <;> (try (cases h; done)) <;> obtain rfl := Option.some.inj h
      · exact .inl ⟨rfl, rfl⟩
      · exact .inr (.inl ⟨⟨_, _, _, rfl⟩, rfl⟩)
      · exact .inr (.inr ⟨⟨_, _, _, rfl⟩, rfl⟩)
    · cases h
  · cases h

def nkOf (tb : Tb) (T : TypeId) : Nat := match tb.tab.lookup T with | some ti => ti.nk | none => 0

def opBin (tb : Tb) (op : BinOp) (T : TypeId) (x y : AV) : Option (Prop × AV) :=
  match isNil (nkOf tb T) x y with
  | some r => match op with
    | .eql => some (True, .c (.p (.b r)))
    | .neq => some (True, .c (.p (.b (!r))))
    | _ => none
  | none => match x, y with
    | .c (.p x), .c (.p y) => (abin tb.O op x y).map fun r => (r.1, .c (.p r.2))
    | .agg xs, .agg ys =>
      match plains xs, plains ys, tb.eqs.lookup T with
      | some ps, some qs, some ks =>
        if kdsb (ps.map Pl.kd) ks && kdsb (qs.map Pl.kd) ks && ks.all Kd.plain then
          match op with
          | .eql => some (True, .c (.p (.b (tb.O.th fun _ => plsEq ps qs))))
          | .neq => some (True, .c (.p (.b (tb.O.th fun _ => !plsEq ps qs))))
          | _ => none
        else none
      | _, _, _ => none
    | _, _ => none

def opLen (O : Th) : AV → Option (Prop × AV)
  | .c (.hdr _ n) => some (True, .c (.p (.i (O.th fun _ => (n : Int)))))
  | .c (.sub _ _ _ n) => some (True, .c (.p (.i (O.th fun _ => (n : Int)))))
  | .c (.p (.n _)) => some (True, .c (.p (.i 0)))
  | .c (.p (.r _ rows)) => some (True, .c (.p (.i (O.th fun _ => (rows.length : Int)))))
  | _ => none

/-- xs[l:h] -/
def opSlice (tb : Tb) (en : En) (T : TypeId) (x : AV) (l h : Option Int) : Option (Prop × AV) :=
  match slElem tb T with
  | some ei => match x, l with
    | .c (.p (.r ks rows)), _ => if ei.size = ks.length then
        some (tb.O.th fun _ => 0 ≤ l.getD 0 ∧ l.getD 0 ≤ h.getD rows.length ∧ h.getD rows.length ≤ rows.length,
          .c (.p (.r ks (tb.O.th fun _ => (rows.take (h.getD rows.length).toNat).drop (l.getD 0).toNat)))) else none
    | .c (.p (.n ks)), _ => some (tb.O.th fun _ => l.getD 0 = 0 ∧ h.getD 0 = 0, .c (.p (.n ks)))
    | .c (.hdr e n), none => match en e with
      | some (.own _ ks rows) => if ei.size = ks.length then some (tb.O.th fun _ => 0 ≤ h.getD n ∧ h.getD n ≤ rows.length, .c (.hdr e (tb.O.th fun _ => (h.getD n).toNat))) else none
      | _ => none
    | .c (.hdr e n), some l => match en e with
      | some (.own _ ks rows) => if ei.size = ks.length then some (tb.O.th fun _ => 0 ≤ l ∧ l ≤ h.getD n ∧ h.getD n ≤ rows.length, .c (.sub e ks.length (tb.O.th fun _ => l.toNat) (tb.O.th fun _ => (h.getD n - l).toNat))) else none
      | _ => none
    | _, _ => none
  | none => none

/-- the parts of a struct laid into its cells -/
def fillC (place : Nat → Option (Nat × Nat)) (cells : List Cel) : List (Nat × AV) → Option (List Cel)
  | [] => some cells
  | (i, v) :: rest =>
    match place i with
    | none => none
    | some (off, size) =>
      if v.cells.length = size ∧ off + size ≤ cells.length then
        fillC place (cells.take off ++ v.cells ++ cells.drop (off + size)) rest
      else none

end Go.Vx

import Derived.Test.YtijaimiefcohbaaDoorX6
set_option linter.unusedSimpArgs false
set_option linter.unusedVariables false
set_option linter.constructorNameAsVariable false
namespace Go.Vx
open Go Go.RowKit

/-! ### other numbers for entities -/
mutual
def Cel.ren (σ : List (Nat × Nat)) : Cel → Option Cel
  | .p x => some (.p x)
  | .ptr e k => (σ.lookup e).map fun e' => .ptr e' k
  | .elt e sz i k => (σ.lookup e).map fun e' => .elt e' sz i k
  | .hdr e n => (σ.lookup e).map fun e' => .hdr e' n
  | .sub e sz off n => (σ.lookup e).map fun e' => .sub e' sz off n
  | .relt ks rows i k => some (.relt ks rows i k)
  | .rptr cs k => some (.rptr cs k)
  | .fn f first caps => match rens σ first, rens σ caps with
    | some a, some b => some (.fn f a b)
    | _, _ => none
  | .g cs => (rens σ cs).map .g
def rens (σ : List (Nat × Nat)) : List Cel → Option (List Cel)
  | [] => some []
  | c :: cs => match c.ren σ, rens σ cs with
    | some c', some cs' => some (c' :: cs')
    | _, _ => none
end

def AV.ren (σ : List (Nat × Nat)) : AV → Option AV
  | .c x => (x.ren σ).map .c
  | .agg cs => (rens σ cs).map .agg

def renA (σ : List (Nat × Nat)) : List AV → Option (List AV)
  | [] => some []
  | c :: cs => match c.ren σ, renA σ cs with
    | some c', some cs' => some (c' :: cs')
    | _, _ => none

def Ent.ren (σ : List (Nat × Nat)) : Ent → Option Ent
  | .cells cs t => (rens σ cs).map fun cs' => .cells cs' t
  | .own t ks rows => some (.own t ks rows)

/-- entities under other numbers; each number stands for the one that σ tells -/
def renE (σ : List (Nat × Nat)) : List (Nat × Ent) → Option (List (Nat × Ent))
  | [] => some []
  | (e, x) :: l => match σ.lookup e, x.ren σ, renE σ l with
    | some e', some x', some l' => some ((e', x') :: l')
    | _, _, _ => none

/-- the valuation by which the elder numbers mean what the new ones mean -/
def renV (σ : List (Nat × Nat)) (V : Vl) : Vl := fun e => (σ.lookup e).bind V

mutual
theorem Cel.ok_ren {σ : List (Nat × Nat)} {Z : Zs} {V : Vl} : ∀ {c c' : Cel} {v : Value}, c.ren σ = some c' → CelOk Z V v c' → CelOk Z (renV σ V) v c
  | .p x, c', v, h, k => by simp only [Cel.ren, Option.some.injEq] at h; subst h; cases k; exact .p (by assumption)
  | .ptr e j, c', v, h, k => by
    simp only [Cel.ren, Option.map_eq_some_iff] at h; obtain ⟨e', h1, rfl⟩ := h
    cases k with | ptr k => exact .ptr (by simp [renV, h1, k])
  | .elt e sz i j, c', v, h, k => by
    simp only [Cel.ren, Option.map_eq_some_iff] at h; obtain ⟨e', h1, rfl⟩ := h
    cases k with | elt k k2 => exact .elt (by simp [renV, h1, k]) k2
  | .hdr e n, c', v, h, k => by
    simp only [Cel.ren, Option.map_eq_some_iff] at h; obtain ⟨e', h1, rfl⟩ := h
    cases k with | hdr k => exact .hdr (by simp [renV, h1, k])
  | .sub e sz off n, c', v, h, k => by
    simp only [Cel.ren, Option.map_eq_some_iff] at h; obtain ⟨e', h1, rfl⟩ := h
    cases k with | sub k k2 => exact .sub (by simp [renV, h1, k]) k2
  | .relt ks rows i j, c', v, h, k => by simp only [Cel.ren, Option.some.injEq] at h; subst h; cases k; exact .relt (by assumption) (by assumption) (by assumption)
  | .rptr cs j, c', v, h, k => by simp only [Cel.ren, Option.some.injEq] at h; subst h; cases k; exact .rptr (by assumption) (by assumption)
  | .fn f a b, c', v, h, k => by
    simp only [Cel.ren] at h
    split at h
    · rename_i a' b' h1 h2
      obtain rfl := Option.some.inj h
      cases k with | fn k1 k2 => exact .fn (cas_ren h1 k1) (cas_ren h2 k2)
    · cases h
  | .g cs, c', v, h, k => by
    simp only [Cel.ren, Option.map_eq_some_iff] at h; obtain ⟨cs', h1, rfl⟩ := h
    cases k
theorem cas_ren {σ : List (Nat × Nat)} {Z : Zs} {V : Vl} : ∀ {cs cs' : List Cel} {vs : List Value}, rens σ cs = some cs' → CasOk Z V vs cs' → CasOk Z (renV σ V) vs cs
  | [], cs', vs, h, k => by
    simp only [rens, Option.some.injEq] at h; subst h
    cases k; exact .nil
  | c :: cs, cs', vs, h, k => by
    simp only [rens] at h
    split at h
    · rename_i c1 cs1 h1 h2
      obtain rfl := Option.some.inj h
      cases k with
      | cons k1 k2 => exact .cons (Cel.ok_ren h1 k1) (cas_ren h2 k2)
      | agg k1 k2 =>
        cases c with
        | g qs =>
          simp only [Cel.ren, Option.map_eq_some_iff] at h1
          obtain ⟨qs', h3, h4⟩ := h1
          injection h4 with h4
          subst h4
          exact .agg (cels_ren h3 k1) (cas_ren h2 k2)
        | fn f a b =>
          simp only [Cel.ren] at h1
          split at h1 <;> cases h1
        | _ => simp [Cel.ren] at h1
    · cases h
theorem cels_ren {σ : List (Nat × Nat)} {Z : Zs} {V : Vl} : ∀ {cs cs' : List Cel} {vs : List Value}, rens σ cs = some cs' → CelsOk Z V vs cs' → CelsOk Z (renV σ V) vs cs
  | [], cs', vs, h, k => by
    simp only [rens, Option.some.injEq] at h; subst h
    cases k; exact .nil
  | c :: cs, cs', vs, h, k => by
    simp only [rens] at h
    split at h
    · rename_i c1 cs1 h1 h2
      obtain rfl := Option.some.inj h
      cases k with | cons k1 k2 => exact .cons (Cel.ok_ren h1 k1) (cels_ren h2 k2)
    · cases h
end

theorem AV.ok_ren {σ : List (Nat × Nat)} {Z : Zs} {V : Vl} {x x' : AV} {v : Value} (h : x.ren σ = some x') (k : AVOk Z V v x') : AVOk Z (renV σ V) v x := by
  cases x with
  | c y =>
    simp only [AV.ren, Option.map_eq_some_iff] at h; obtain ⟨y', h1, rfl⟩ := h
    cases k with | c k => exact .c (Cel.ok_ren h1 k)
  | agg cs =>
    simp only [AV.ren, Option.map_eq_some_iff] at h; obtain ⟨y', h1, rfl⟩ := h
    cases k with | agg k => exact .agg (cels_ren h1 k)

theorem avs_ren {σ : List (Nat × Nat)} {Z : Zs} {V : Vl} : ∀ {xs xs' : List AV} {vs : List Value}, renA σ xs = some xs' → AVsOk Z V vs xs' → AVsOk Z (renV σ V) vs xs
  | [], xs', vs, h, k => by
    simp only [renA, Option.some.injEq] at h; subst h
    cases k; exact .nil
  | x :: xs, xs', vs, h, k => by
    simp only [renA] at h
    split at h
    · rename_i x1 xs1 h1 h2
      obtain rfl := Option.some.inj h
      cases k with | cons k1 k2 => exact .cons (AV.ok_ren h1 k1) (avs_ren h2 k2)
    · cases h

theorem Ent.ok_ren {σ : List (Nat × Nat)} {Z : Zs} {V : Vl} {w : World} {d : VD} {x x' : Ent} (h : x.ren σ = some x') (k : x'.ok Z w V d) : x.ok Z w (renV σ V) d ∧ x.blk d = x'.blk d := by
  cases x with
  | cells cs t =>
    simp only [Ent.ren, Option.map_eq_some_iff] at h
    obtain ⟨cs', h1, rfl⟩ := h
    obtain ⟨vs, k1, k2⟩ := k
    exact ⟨⟨vs, cels_ren h1 k1, k2⟩, rfl⟩
  | own t ks rows => simp only [Ent.ren, Option.some.injEq] at h; subst h; exact ⟨k, rfl⟩

/-! ### contracts of functions -/
structure Cn where
  md : List Bool
  fr : Bool
  fn : List AV → List (Nat × Ent) → Option (Prop × List AV × List (Nat × Ent))

def pack : List Value → Value
  | [v] => v
  | vs => .tuple vs.toArray

def CallR (P : Program) (f : FuncId) (args : Array Value) (w : World) (R : Value → World → Prop) : Prop :=
  ((callFunc f args).run P w = .ok (.enter f args) w ∧ Calls P f args w (fun e w' => ∃ v, e = .returned v ∧ R v w')) ∨
  (∃ v w', (callFunc f args).run P w = .ok (.value v) w' ∧ R v w')

theorem CallR.mono {P : Program} {f : FuncId} {args : Array Value} {w : World} {R R' : Value → World → Prop} (h : CallR P f args w R) (k : ∀ v w', R v w' → R' v w') : CallR P f args w R' := by
  rcases h with ⟨h1, h2⟩ | ⟨v, w', h1, h2⟩
  · exact .inl ⟨h1, Calls.mono h2 fun e w' ⟨v, he, hr⟩ => ⟨v, he, k v w' hr⟩⟩
  · exact .inr ⟨v, w', h1, k v w' h2⟩

/-- tables of the library's that are read: what stands in them -/
def tz64tab : List Int := [0, 1, 56, 2, 57, 49, 28, 3, 61, 58, 42, 50, 38, 29, 17, 4, 62, 47, 59, 36, 45, 43, 51, 22, 53, 39, 33, 30, 24, 18, 12, 5, 63, 55, 48, 27, 60, 41, 37, 16, 46, 35, 44, 21, 52, 32, 23, 11, 54, 26, 40, 15, 34, 20, 31, 10, 25, 14, 19, 9, 13, 8, 7, 6]

def knownTabs : List (String × List Value) := [("math/bits.deBruijn64tab", tz64tab.map fun n => .int .u8 n)]

def GlobOk (P : Program) (Z : Zs) : Prop :=
  ∀ n vs g, knownTabs.lookup n = some vs → P.globalNamed n = some g → ∀ j v, vs[j]? = some v → zcell Z ⟨g, j, none⟩ = some v
theorem GlobOk.mono {P : Program} {Z Z' : Zs} (h : GlobOk P Z) (hz : Z.le Z') : GlobOk P Z' := fun n vs g h1 h2 j v h3 => zcell_le hz (h n vs g h1 h2 j v h3)

def Zs.or (Z Zf : Zs) : Zs := fun k => match Zf k with | some c => some c | none => Z k

def allI : Nat → Prop := fun _ => True

/-- what a call leaves behind -/
def OutOk (w : World) (Z : Zs) (V : Vl) (es : List (Nat × Ent)) (fr : Bool) (rs : List AV) (es' : List (Nat × Ent)) (vs : List Value) (w' : World) : Prop :=
  ∃ (Zf : Zs) (V' : Vl), (∀ k cs, Zf k = some cs → isBlk es V allI k ∨ w.heap.size ≤ k) ∧ Frz Zf w' ∧ AVsOk (if fr then Zf else Z.or Zf) V' vs rs ∧
    (∀ p ∈ es', ∃ d, V' p.1 = some d ∧ p.2.ok (if fr then Zf else Z.or Zf) w' V' d ∧ (∀ k, p.2.blk d = some k → (isBlk es V allI k ∨ w.heap.size ≤ k) ∧ Zf k = none)) ∧
    (∀ p ∈ es', ∀ q ∈ es', ∀ d d' k, p.1 ≠ q.1 → V' p.1 = some d → V' q.1 = some d' → p.2.blk d = some k → q.2.blk d' = some k → False) ∧
    Fr (isBlk es V allI) w w' ∧ (∀ e d, e < es.length → V e = some d → V' e = some d)

def bsOf (w : World) (Z : Zs) (V : Vl) (es : List (Nat × Ent)) : Bs := ⟨isBlk es V allI, w, Z⟩

def ConOk (P : Program) (f : FuncId) (cn : Cn) : Prop :=
  ∀ (w : World) (Z : Zs) (V : Vl) (es : List (Nat × Ent)) (args : List Value) (xs : List AV), GlobOk P Z → EnvOk (bsOf w Z V es) Z V es w → (∀ e, es.length ≤ e → V e = none) → AVsOk Z V args xs →
    ∀ c rs es', cn.fn xs es = some (c, rs, es') → c →
      CallR P f args.toArray w fun v w' => ∃ vs, v = pack vs ∧ OutOk w Z V es cn.fr rs es' vs w'

structure Cx extends Tb where
  con : List (FuncId × Cn)

structure CxOk (P : Program) (cx : Cx) : Prop where
  tb : TbOk P cx.toTb
  con : ∀ f fn, cx.con.lookup f = some fn → ConOk P f fn

/-- .. and of the worlds that can come -/
structure CxG (P : Program) (cx : Cx) (B : Bs) : Prop extends CxOk P cx where
  gl : GlobOk P B.Z0

/-! ### what an operation does -/
inductive Ea where
  | none
  | new (xs : List Ent)
  | upd (del : List Nat) (put : List (Nat × Ent)) (xs : List Ent)

structure Eff where
  c : Prop
  val : Option SV
  ea : Ea

def rd (ov : Ov) (x : Operand) : Option (Prop × AV) :=
  match ov x with
  | some (g, .a v) => some (g = true, v)
  | _ => none

def un1 (ov : Ov) (x : Operand) (k : AV → Option (Prop × AV)) : Option Eff :=
  match rd ov x with
  | some (c, v) => (k v).map fun p => { c := c ∧ p.1, val := some (.a p.2), ea := .none }
  | none => none

def un2 (ov : Ov) (x y : Operand) (k : AV → AV → Option (Prop × AV)) : Option Eff :=
  match rd ov x, rd ov y with
  | some (c, v), some (d, u) => (k v u).map fun p => { c := c ∧ d ∧ p.1, val := some (.a p.2), ea := .none }
  | _, _ => none

def rds (ov : Ov) : List Operand → Option (Prop × List AV)
  | [] => some (True, [])
  | x :: xs => match rd ov x, rds ov xs with
    | some (c, v), some (d, vs) => some (c ∧ d, v :: vs)
    | _, _ => none

def packSV : List AV → SV
  | [v] => .a v
  | vs => .tup vs

mutual
def Cel.ids : Cel → List Nat
  | .p _ => []
  | .ptr e _ => [e]
  | .elt e _ _ _ => [e]
  | .hdr e _ => [e]
  | .sub e _ _ _ => [e]
  | .relt _ _ _ _ => []
  | .rptr _ _ => []
  | .fn _ a b => idsL a ++ idsL b
  | .g cs => idsL cs
def idsL : List Cel → List Nat
  | [] => []
  | c :: cs => c.ids ++ idsL cs
end
def AV.ids : AV → List Nat
  | .c x => x.ids
  | .agg cs => idsL cs
def SV.ids : SV → List Nat
  | .a x => x.ids
  | .tup xs => xs.flatMap AV.ids
def Ent.ids : Ent → List Nat
  | .cells cs _ => idsL cs
  | .own _ _ _ => []

/-- which entities are reached from these -/
def reach (en : En) : Nat → List Nat → List Nat → List Nat
  | 0, _, acc => acc
  | _ + 1, [], acc => acc
  | m + 1, e :: todo, acc => if acc.contains e then reach en m todo acc else
    match en e with
    | some x => reach en m (x.ids ++ todo) (acc ++ [e])
    | none => reach en m todo (acc ++ [e])

/-- the arguments as the callee gets them: frozen, or (where the contract says so) as they are -/
def toArgs (O : Th) (en : En) : List Bool → List AV → Option (Prop × List Nat × List AV)
  | _, [] => some (True, [], [])
  | true :: md, x :: xs => match toArgs O en md xs with
    | some (c, ids, ys) => some (c, ids, x :: ys)
    | none => none
  | false :: md, x :: xs => match frzA O en x, toArgs O en md xs with
    | some (c, ids, y), some (d, jds, ys) => some (c ∧ d, ids ++ jds, y :: ys)
    | _, _ => none
  | [], x :: xs => match frzA O en x, toArgs O en [] xs with
    | some (c, ids, y), some (d, jds, ys) => some (c ∧ d, ids ++ jds, y :: ys)
    | _, _ => none

def mutIds : List Bool → List AV → List Nat
  | true :: md, x :: xs => x.ids ++ mutIds md xs
  | false :: md, _ :: xs => mutIds md xs
  | _, _ => []

def fetch (en : En) : List Nat → Option (List (Nat × Ent))
  | [] => some []
  | e :: l => match en e, fetch en l with
    | some x, some r => some ((e, x) :: r)
    | _, _ => none

def upto : Nat → List Nat
  | 0 => []
  | n + 1 => upto n ++ [n]

/-- entities behind a call, under the caller's numbers: those that were handed over; new ones -/
def splitE (τ : List (Nat × Nat)) (m : Nat) : List (Nat × Ent) → Option (List (Nat × Ent) × List (Nat × Ent))
  | [] => some ([], [])
  | (k, x) :: l => match τ.lookup k, x.ren τ, splitE τ m l with
    | some k', some x', some (p, n) => if k < m then some ((k', x') :: p, n) else some (p, (k', x') :: n)
    | _, _, _ => none

def eaOf (ids : List Nat) (put new : List (Nat × Ent)) : Ea :=
  match ids, new with
  | [], [] => .none
  | [], new => .new (new.map (·.2))
  | ids, new => .upd ids put (new.map (·.2))

def effCallA (O : Th) (con : List (FuncId × Cn)) (en : En) (nx : Nat) (f : FuncId) (xs : List AV) : Option Eff :=
  match con.lookup f with
  | none => none
  | some cn =>
    let ids := reach en 60 (mutIds cn.md xs) []
    match toArgs O en cn.md xs, fetch en ids with
    | some (c, tmp, ys), some ents =>
      if (tmp.all fun e => !ids.contains e) = true ∧ (tmp = [] ∨ cn.fr = true) then
        match renA ids.zipIdx ys, renE ids.zipIdx ents with
        | some zs, some es =>
          match cn.fn zs es with
          | some (c2, rs, es2) =>
            let m := ids.length
            let n := (es2.filter fun p => !decide (p.1 < m)).length
            let τ := ids.zipIdx.map (fun p => (p.2, p.1)) ++ (upto n).map fun j => (m + j, nx + j)
            match renA τ rs, splitE τ m es2 with
            | some rs', some (put, new) =>
              if new.map (·.1) = (upto n).map (fun j => nx + j) ∧ put.all (fun p => ids.contains p.1) = true ∧ es.length = m then
                some { c := c ∧ c2, val := some (packSV rs'), ea := eaOf ids put new }
              else none
            | _, _ => none
          | none => none
        | _, _ => none
      else none
    | _, _ => none

/-- a function that is called, with what stands ahead of the arguments and behind them -/
def caughtP : List Pl → List AV
  | [] => []
  | .g ps :: l => .agg (ps.map .p) :: caughtP l
  | x :: l => .c (.p x) :: caughtP l
def caughtC : List Cel → List AV
  | [] => []
  | .g cs :: l => .agg cs :: caughtC l
  | x :: l => .c x :: caughtC l
def calleeOf : AV → Option (FuncId × List AV × List AV)
  | .c (.p (.f f a b)) => some (f, caughtP a, caughtP b)
  | .c (.fn f a b) => some (f, caughtC a, caughtC b)
  | _ => none

def effCall (O : Th) (con : List (FuncId × Cn)) (ov : Ov) (en : En) (nx : Nat) (g : Operand) (xs : List Operand) : Option Eff :=
  match rd ov g, rds ov xs with
  | some (c, v), some (d, ys) => match calleeOf v with
    | some (f, a, b) => (effCallA O con en nx f (a ++ ys ++ b)).map fun E => { E with c := c ∧ d ∧ E.c }
    | none => none
  | _, _ => none

def rset (rows : List (List Pl)) (i : Int) (k : Nat) (ps : List Pl) : List (List Pl) :=
  rows.set i.toNat ((rows.getD i.toNat []).take k ++ ps ++ (rows.getD i.toNat []).drop (k + ps.length))

def effStore (tb : Tb) (en : En) (T : TypeId) (p x : AV) : Option Eff :=
  match p, tb.tab.lookup T with
  | .c (.ptr e k), some ti =>
    match en e with
    | some (.cells cs t) =>
      if x.cells.length = ti.size ∧ k + ti.size ≤ cs.length then
        some { c := True, val := none, ea := .upd [] [(e, .cells (cs.take k ++ x.cells ++ cs.drop (k + ti.size)) t)] [] }
      else none
    | _ => none
  | .c (.elt e sz i k), some ti =>
    match en e, frzL tb.O en 40 x.cells with
    | some (.own t ks rows), some (c, ids, ps) =>
      if sz = ks.length ∧ ps.length = ti.size ∧ k + ti.size ≤ ks.length ∧ kdsb (ps.map Pl.kd) ((ks.drop k).take ti.size) = true ∧ ids.contains e = false then
        some { c := c ∧ tb.O.th fun _ => 0 ≤ i ∧ i < rows.length, val := none, ea := .upd ids [(e, .own t ks (tb.O.th fun _ => rset rows i k ps))] [] }
      else none
    | _, _ => none
  | _, _ => none

/-- rows out of a literal's parts: each place once, in order -/
def litRows (O : Th) (en : En) (ks : List Kd) : Nat → List (Nat × AV) → Option (Prop × List Nat × List (List Pl))
  | _, [] => some (True, [], [])
  | i, (j, v) :: r => match frzL O en 40 v.cells, litRows O en ks (i + 1) r with
    | some (c, ids, ps), some (d, jds, rows) => if i = j ∧ kdsb (ps.map Pl.kd) ks = true then some (c ∧ d, ids ++ jds, ps :: rows) else none
    | _, _ => none

def rdParts (ov : Ov) : List (Nat × Operand) → Option (Prop × List (Nat × AV))
  | [] => some (True, [])
  | (i, x) :: r => match rd ov x, rdParts ov r with
    | some (c, v), some (cs, vs) => some (c ∧ cs, (i, v) :: vs)
    | _, _ => none

def newOr (ids : List Nat) (xs : List Ent) : Ea := match ids with | [] => .new xs | ids => .upd ids [] xs

def effBuildSlice (tb : Tb) (ov : Ov) (en : En) (nx : Nat) (T : TypeId) (len : Nat) (parts : List (Nat × Operand)) : Option Eff :=
  match tb.tab.lookup T, rdParts ov parts with
  | some ti, some (c, ps) => match ti.elem with
    | some E => match tb.tab.lookup E with
      | some ei => match litRows tb.O en ei.kinds 0 ps with
        | some (d, ids, rows) => if rows.length = len ∧ ti.sl = true ∧ 0 < ei.size ∧ len * ei.size ≤ 16777216 then some { c := c ∧ d, val := some (.a (.c (.hdr nx len))), ea := newOr ids [.own E ei.kinds rows] } else none
        | none => none
      | none => none
    | none => none
  | _, _ => none

def effBuild (tb : Tb) (ov : Ov) (T : TypeId) (parts : List (Nat × Operand)) : Option Eff :=
  match tb.tab.lookup T, rdParts ov parts with
  | some ti, some (c, ps) => match ti.pl, ti.arr, ti.elem with
    | some pl, _, _ => match fillC (fun i => pl[i]?) (ti.zero.map .p) ps with
      | some cs => some { c := c, val := some (.a (.agg cs)), ea := .none }
      | none => none
    | none, some _, some E => match tb.tab.lookup E with
      | some ei => match fillC (fun i => some (i * ei.size, ei.size)) (ti.zero.map .p) ps with
        | some cs => some { c := c, val := some (.a (.agg cs)), ea := .none }
        | none => none
      | none => none
    | _, _, _ => none
  | _, _ => none

/-- what is appended, copied: elements -/
def srcRows (O : Th) (en : En) : AV → Option (Prop × List Kd × List (List Pl))
  | .c (.p (.n ks)) => some (True, ks, [])
  | .c (.p (.r ks rows)) => some (True, ks, rows)
  | .c (.hdr e n) => match en e with
    | some (.own _ ks rows) => some (O.th fun _ => n ≤ rows.length, ks, O.th fun _ => rows.take n)
    | _ => none
  | .c (.sub e sz off n) => match en e with
    | some (.own _ ks rows) => if sz = ks.length then some (O.th fun _ => off + n ≤ rows.length, ks, O.th fun _ => (rows.drop off).take n) else none
    | _ => none
  | _ => none

def effAppend (tb : Tb) (en : En) (nx : Nat) (T : TypeId) (s x : AV) : Option Eff :=
  match tb.tab.lookup T, srcRows tb.O en x with
  | some ti, some (cx, kx, rx) => match ti.elem with
    | some E => match tb.tab.lookup E with
      | some ei =>
        if kdsb kx ei.kinds = true ∧ ti.sl = true ∧ 0 < ei.size then
          match s with
          | .c (.hdr e n) => match en e with
            | some (.own E' ks rows) => if E' = E ∧ kdsb ks ei.kinds = true then
                some { c := cx ∧ (tb.O.th fun _ => n ≤ rows.length ∧ (n + rx.length) * ei.bytes ≤ 140737488355328 ∧ n + rx.length ≤ 9223372036854775807), val := some (.a (.c (.hdr nx (tb.O.th fun _ => n + rx.length)))), ea := .upd [e] [] [.own E ks (tb.O.th fun _ => rows.take n ++ rx)] } else none
            | _ => none
          | .c (.p (.n _)) => some { c := cx ∧ (tb.O.th fun _ => rx.length * ei.bytes ≤ 140737488355328 ∧ rx.length ≤ 9223372036854775807), val := some (.a (.c (.hdr nx (tb.O.th fun _ => rx.length)))), ea := .new [.own E ei.kinds rx] }
          | _ => none
        else none
      | none => none
    | none => none
  | _, _ => none

def copyR (rows : List (List Pl)) (n : Nat) (src : List (List Pl)) : List (List Pl) := src.take n ++ rows.drop (min n src.length)

def effCopy (tb : Tb) (en : En) (T : TypeId) (s x : AV) : Option Eff :=
  match tb.tab.lookup T, srcRows tb.O en x with
  | some ti, some (cx, kx, rx) => match ti.elem with
    | some E => match tb.tab.lookup E with
      | some ei =>
        if kdsb kx ei.kinds = true ∧ ti.sl = true ∧ 0 < ei.size then
          match s with
          | .c (.hdr e n) => match en e with
            | some (.own E' ks rows) => if kdsb ks ei.kinds = true then
                some { c := cx ∧ (tb.O.th fun _ => n ≤ rows.length), val := some (.a (.c (.p (.i (tb.O.th fun _ => (min rx.length n : Nat)))))), ea := .upd [] [(e, .own E' ks (tb.O.th fun _ => copyR rows n rx))] [] } else none
            | _ => none
          | _ => none
        else none
      | none => none
    | none => none
  | _, _ => none

def effMake (tb : Tb) (nx : Nat) (T : TypeId) (l c : AV) : Option Eff :=
  match tb.tab.lookup T, l, c with
  | some ti, .c (.p (.i l)), .c (.p (.i c)) => match ti.elem with
    | some E => match tb.tab.lookup E with
      | some ei => if ti.sl = true then
          some { c := tb.O.th fun _ => 0 ≤ l ∧ l ≤ c ∧ (ei.bytes : Int) * c ≤ 281474976710656 ∧ c ≤ 9223372036854775807, val := some (.a (.c (.hdr nx (tb.O.th fun _ => l.toNat)))), ea := .new [.own E ei.kinds (tb.O.th fun _ => List.replicate l.toNat ei.zero)] } else none
      | none => none
    | none => none
  | _, _, _ => none

def effPick (ov : Ov) (c a b : Operand) : Option Eff :=
  match rd ov c with
  | some (gc, .c (.p (.b t))) =>
    match ov a, ov b with
    | some (ga, .a (.c (.p (.b x)))), some (gb, .a (.c (.p (.b y)))) =>
      some { c := gc ∧ (t = true → ga = true) ∧ (t = false → gb = true), val := some (.a (.c (.p (.b (bif t then x else y))))), ea := .none }
    | _, _ => none
  | _ => none

def effExtract (ov : Ov) (x : Operand) (i : Nat) : Option Eff :=
  match ov x with
  | some (g, .tup xs) => match xs[i]? with
    | some v => some { c := g = true, val := some (.a v), ea := .none }
    | none => none
  | _ => none

/-- a nil that is moved bears its type -/
def nilAs (tb : Tb) (T : TypeId) : SV → SV
  | .a (.c (.p (.v (.slice none 0 0)))) => match tb.tab.lookup T with
    | some ti => if ti.sl then .a (.c (.p (.n ti.ks))) else .a (.c (.p (.v (.slice none 0 0))))
    | none => .a (.c (.p (.v (.slice none 0 0))))
  | s => s

def effMove (tb : Tb) (ov : Ov) (T : TypeId) (x : Operand) : Option Eff :=
  match ov x with
  | some (g, s) => some { c := g = true, val := some (nilAs tb T s), ea := .none }
  | none => none

def effConv (tb : Tb) (D : TypeId) : AV → Option (Prop × AV)
  | .c (.p (.u x)) => match tb.tab.lookup D with
    | some ti => match ti.ik with
      | some .i64 => some (True, .c (.p (.i (tb.O.th fun _ => x.toInt))))
      | some .u64 => some (True, .c (.p (.u x)))
      | _ => none
    | none => none
  | .c (.p (.i n)) => match tb.tab.lookup D with
    | some ti => match ti.ik with
      | some .i64 => some (True, .c (.p (.i (tb.O.th fun _ => wrap64 n))))
      | some .u64 => some (True, .c (.p (.u (tb.O.th fun _ => BitVec.ofInt 64 n))))
      | _ => none
    | none => none
  | _ => none

def opNil : AV → Option (Prop × AV)
  | .c (.ptr e k) => some (True, .c (.ptr e k))
  | .c (.elt e sz i k) => some (True, .c (.elt e sz i k))
  | .c (.relt a b i k) => some (True, .c (.relt a b i k))
  | .c (.rptr a k) => some (True, .c (.rptr a k))
  | .c (.p (.q ks cs)) => some (True, .c (.p (.q ks cs)))
  | .c (.p (.f g a b)) => some (True, .c (.p (.f g a b)))
  | .c (.fn g a b) => some (True, .c (.fn g a b))
  | _ => none

def ints : List AV → Option (List Int)
  | [] => some []
  | .c (.p (.i n)) :: l => (ints l).map (n :: ·)
  | _ => none

def cels : List AV → List Cel
  | [] => []
  | .c x :: l => x :: cels l
  | .agg cs :: l => .g cs :: cels l

def plainsG : List Cel → Option (List Pl)
  | [] => some []
  | .p x :: l => (plainsG l).map (x :: ·)
  | .g cs :: l => match plains cs, plainsG l with
    | some ps, some qs => some (.g ps :: qs)
    | _, _ => none
  | _ :: _ => none

def mkFn (f : FuncId) (a b : List Cel) : AV :=
  match plainsG a, plainsG b with
  | some ps, some qs => .c (.p (.f f ps qs))
  | _, _ => .c (.fn f a b)

def bound (ov : Ov) : Option Operand → Option (Prop × Option Int)
  | none => some (True, none)
  | some x => match rd ov x with
    | some (c, .c (.p (.i n))) => some (c, some n)
    | _ => none

def effSlice (tb : Tb) (ov : Ov) (en : En) (T : TypeId) (x : Operand) (l h m : Option Operand) : Option Eff :=
  match m, rd ov x, bound ov l, bound ov h with
  | none, some (c, v), some (cl, lo), some (ch, hi) => (opSlice tb en T v lo hi).map fun p => { c := c ∧ cl ∧ ch ∧ p.1, val := some (.a p.2), ea := .none }
  | _, _, _, _ => none

def effCallOp (cx : Cx) (ov : Ov) (en : En) (nx : Nat) : Callee → List Operand → List TypeId → Option Eff
  | .builtin .len, [x], [T] => match slElem cx.toTb T with
    | some _ => un1 ov x (opLen cx.O)
    | none => none
  | .builtin .append, [s, x], [T, T'] => if T' = T then
      match rd ov s, rd ov x with
      | some (c, sv), some (d, xv) => (effAppend cx.toTb en nx T sv xv).map fun e => { e with c := c ∧ d ∧ e.c }
      | _, _ => none
    else none
  | .builtin .copy, [s, x], [T, T'] => if T' = T then
      match rd ov s, rd ov x with
      | some (c, sv), some (d, xv) => (effCopy cx.toTb en T sv xv).map fun e => { e with c := c ∧ d ∧ e.c }
      | _, _ => none
    else none
  | .builtin .min, xs, _ => match rds ov xs with
    | some (c, vs) => match ints vs with
      | some (n :: l) => some { c := c, val := some (.a (.c (.p (.i (cx.O.th fun _ => l.foldl (fun a b => if b < a then b else a) n))))), ea := .none }
      | _ => none
    | none => none
  | .builtin .max, xs, _ => match rds ov xs with
    | some (c, vs) => match ints vs with
      | some (n :: l) => some { c := c, val := some (.a (.c (.p (.i (cx.O.th fun _ => l.foldl (fun a b => if a < b then b else a) n))))), ea := .none }
      | _ => none
    | none => none
  | .value g, xs, _ => effCall cx.O cx.con ov en nx g xs
  | _, _, _ => none

def eff (cx : Cx) (ov : Ov) (en : En) (nx : Nat) (o : Oper) : Option Eff :=
  match o.op with
  | .move x | .assign x => effMove cx.toTb ov o.type x
  | .pick c a b => effPick ov c a b
  | .load T x => un1 ov x (opLoad cx.toTb en T)
  | .fieldAddr T x f => un1 ov x (opFieldAddr cx.toTb T f)
  | .field T x f => un1 ov x (opField cx.toTb T f)
  | .indexAddr T x y => un2 ov x y fun v u => match opIndexAddr cx.toTb en T v u with | some r => some r | none => opIndexArr cx.toTb T v u
  | .index T x y => un2 ov x y (opIndex cx.toTb T)
  | .slice T x l h m => effSlice cx.toTb ov en T x l h m
  | .nilCheck x => un1 ov x opNil
  | .binOp op T x y _ => un2 ov x y (opBin cx.toTb op T)
  | .unOp op _ x => un1 ov x (opUn cx.O op)
  | .convert S D x => match cx.tab.lookup S with
    | some _ => un1 ov x (effConv cx.toTb D)
    | none => none
  | .extract x i => effExtract ov x i
  | .alloc T => match cx.tab.lookup T with
    | some ti => some { c := True, val := some (.a (.c (.ptr nx 0))), ea := .new [.cells (ti.zero.map .p) T] }
    | none => none
  | .box T x => match rd ov x with
    | some (c, v) => some { c := c, val := some (.a (.c (.ptr nx 0))), ea := .new [.cells v.cells T] }
    | none => none
  | .build T parts => effBuild cx.toTb ov T parts.toList
  | .buildSlice T len parts => effBuildSlice cx.toTb ov en nx T len parts.toList
  | .makeSlice T l c => match rd ov l, rd ov c with
    | some (g, l), some (h, c) => (effMake cx.toTb nx T l c).map fun e => { e with c := g ∧ h ∧ e.c }
    | _, _ => none
  | .makeFunc (.func f) a b => match rds ov a.toList, rds ov b.toList with
    | some (c, as), some (d, bs) => some { c := c ∧ d, val := some (.a (mkFn f (cels as) (cels bs))), ea := .none }
    | _, _ => none
  | .store T p x => match rd ov p, rd ov x with
    | some (c, pv), some (d, xv) => (effStore cx.toTb en T pv xv).map fun e => { e with c := c ∧ d ∧ e.c }
    | _, _ => none
  | .call c => effCallOp cx ov en nx c.callee c.args.toList c.argTypes.toList
  | _ => none

end Go.Vx

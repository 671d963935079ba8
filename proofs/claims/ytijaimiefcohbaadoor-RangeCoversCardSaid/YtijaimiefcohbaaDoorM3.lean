import Derived.Test.YtijaimiefcohbaaDoorM2
set_option linter.unusedSimpArgs false
set_option linter.unusedVariables false
set_option linter.constructorNameAsVariable false
namespace Go.Vx
open Go Go.RowKit
/-! ### what ranges.cover tells -/
/-- the least length from n on, at most j longer, whose last address is not behind the range -/
def lenFrom (f : Int) (w last : BitVec 128) : Nat → Int → Int
  | 0, n => n
  | j + 1, n => if lastW f w n ≤ last then n else lenFrom f w last j (n + 1)
def lenW (f : Int) (w last : BitVec 128) : Int := lenFrom f w last 128 (128 - trailW w)
def coverF (f : Int) (last : BitVec 128) : Nat → BitVec 128 → List (BitVec 128 × Int)
  | 0, _ => []
  | k + 1, w =>
    let n := lenW f w last
    let e := lastW f w n
    (w, n) :: if stopW f e || decide (e = last) then [] else coverF f last k (nextW f e)
def prow (p : BitVec 128 × Int) : List Pl := [.u (hi p.1), .u (lo p.1), .i p.2]
def coverL (f : Int) (w last : BitVec 128) : List (BitVec 128 × Int) := coverF f last (last.toNat - w.toNat + 1) w
def cCover0 (T : TypeId) (O : Th) : ConF := fun
  | [.c (.i f), .agg [.u a, .u b], .agg [.u c, .u d]] => some (O.th fun _ => rightW f (W a b) = 0 ∧ rightW f (W c d) = 0 ∧ W a b ≤ W c d ∧ (coverL f (W a b) (W c d)).length ≤ 1000000,
      [.row T [.u, .u, .i] (O.th fun _ => (coverL f (W a b) (W c d)).map prow)])
  | _ => none
end Go.Vx

import Derived.Orders
import Derived.Below
import Derived.Laws.AppendOwn
import Derived.Laws.OwnMore
import Derived.RowKit3
import Derived.KernelRfl
set_option linter.unusedSimpArgs false
set_option linter.unusedVariables false
set_option linter.constructorNameAsVariable false
namespace Go.Vx
open Go

/-! ### what stands in cells -/
/-- the kinds of cells: u64, int, bool, a value of another kind, a function, a slice, a pointer -/
inductive Kd where
  | u | i | b | o | f
  | r (ks : List Kd)
  | q (ks : List Kd)

mutual
def kdb : Kd → Kd → Bool
  | .u, .u => true | .i, .i => true | .b, .b => true | .o, .o => true | .f, .f => true
  | .r x, .r y => kdsb x y
  | .q x, .q y => kdsb x y
  | _, _ => false
def kdsb : List Kd → List Kd → Bool
  | [], [] => true
  | x :: xs, y :: ys => kdb x y && kdsb xs ys
  | _, _ => false
end
mutual
theorem kdb_eq : ∀ {x y : Kd}, kdb x y = true → x = y
  | .u, y, h => by cases y <;> simp_all [kdb]
  | .i, y, h => by cases y <;> simp_all [kdb]
  | .b, y, h => by cases y <;> simp_all [kdb]
  | .o, y, h => by cases y <;> simp_all [kdb]
  | .f, y, h => by cases y <;> simp_all [kdb]
  | .r a, y, h => by
    cases y <;> simp only [kdb, Bool.false_eq_true] at h
    rw [kdsb_eq h]
  | .q a, y, h => by
    cases y <;> simp only [kdb, Bool.false_eq_true] at h
    rw [kdsb_eq h]
theorem kdsb_eq : ∀ {x y : List Kd}, kdsb x y = true → x = y
  | [], y, h => by cases y <;> simp_all [kdsb]
  | a :: as, y, h => by
    cases y with
    | nil => simp [kdsb] at h
    | cons c cs =>
      simp only [kdsb, Bool.and_eq_true] at h
      rw [kdb_eq h.1, kdsb_eq h.2]
end

/-- what can be read out of one cell and is never written again -/
inductive Pl where
  | u (x : BitVec 64)
  | i (n : Int)
  | b (x : Bool)
  | v (x : Value)
  | n (ks : List Kd)
  | r (ks : List Kd) (rows : List (List Pl))
  | q (ks : List Kd) (cs : List Pl)
  | f (f : FuncId) (first caps : List Pl)
  | g (cs : List Pl)

def Pl.kd : Pl → Kd
  | .u _ => .u | .i _ => .i | .b _ => .b | .v _ => .o | .n ks => .r ks | .r ks _ => .r ks | .q ks _ => .q ks | .f _ _ _ => .f | .g _ => .o

def typed (ks : List Kd) (rows : List (List Pl)) : Prop := ∀ r ∈ rows, r.map Pl.kd = ks

/-- blocks that are never written again -/
abbrev Zs := Nat → Option (Array Value)
def Zs.le (Z Z' : Zs) : Prop := ∀ k cs, Z k = some cs → Z' k = some cs
theorem Zs.le_refl (Z : Zs) : Z.le Z := fun _ _ h => h
theorem Zs.le_trans {a b c : Zs} (h : a.le b) (k : b.le c) : a.le c := fun e d x => k e d (h e d x)

def zcell (Z : Zs) (a : Addr) : Option Value := if a.spot.isSome then none else (Z a.block).bind fun c => c[a.off]?
theorem zcell_le {Z Z' : Zs} (h : Z.le Z') {a : Addr} {v : Value} (hz : zcell Z a = some v) : zcell Z' a = some v := by
  unfold zcell at *
  split
  · rename_i hs; rw [if_pos hs] at hz; cases hz
  · rename_i hs
    rw [if_neg hs] at hz
    obtain ⟨c, h1, h2⟩ := Option.bind_eq_some_iff.1 hz
    rw [h _ _ h1]; exact h2

def CellsAt (Z : Zs) (ad : Addr) (vs : List Value) : Prop := ∀ j u, vs[j]? = some u → zcell Z (ad.add j) = some u
theorem CellsAt.mono {Z Z' : Zs} (h : Z.le Z') {ad : Addr} {vs : List Value} (k : CellsAt Z ad vs) : CellsAt Z' ad vs := fun j u hu => zcell_le h (k j u hu)

mutual
inductive PlOk (Z : Zs) : Value → Pl → Prop
  | u (x : BitVec 64) : PlOk Z (.int .u64 x.toNat) (.u x)
  | i (n : Int) : PlOk Z (.int .i64 n) (.i n)
  | b (x : Bool) : PlOk Z (.bool x) (.b x)
  | v {x : Value} (h : x.oneCell' = true) : PlOk Z x (.v x)
  | n (ks : List Kd) : PlOk Z (.slice none 0 0) (.n ks)
  | r0 (A : Option Addr) (cap : Nat) (ks : List Kd) : PlOk Z (.slice A 0 cap) (.r ks [])
  | r {ad : Addr} {cap : Nat} {ks : List Kd} {rows : List (List Pl)} {vs : List Value} (h1 : rows.length ≤ cap) (h2 : typed ks rows) (h3 : PlsOk Z vs rows.flatten) (h4 : CellsAt Z ad vs) : PlOk Z (.slice (some ad) rows.length cap) (.r ks rows)
  | q {ad : Addr} {ks : List Kd} {cs : List Pl} {vs : List Value} (h1 : cs.map Pl.kd = ks) (h3 : PlsOk Z vs cs) (h4 : CellsAt Z ad vs) : PlOk Z (.pointer (some ad)) (.q ks cs)
  | f {g : FuncId} {first caps : List Pl} {vs us : List Value} (h1 : PasOk Z vs first) (h2 : PasOk Z us caps) : PlOk Z (.func (.func g) vs.toArray us.toArray) (.f g first caps)
inductive PlsOk (Z : Zs) : List Value → List Pl → Prop
  | nil : PlsOk Z [] []
  | cons {v : Value} {p : Pl} {vs : List Value} {ps : List Pl} (h : PlOk Z v p) (hs : PlsOk Z vs ps) : PlsOk Z (v :: vs) (p :: ps)
/-- what a function has caught: cells, structs -/
inductive PasOk (Z : Zs) : List Value → List Pl → Prop
  | nil : PasOk Z [] []
  | cons {v : Value} {p : Pl} {vs : List Value} {ps : List Pl} (h : PlOk Z v p) (hs : PasOk Z vs ps) : PasOk Z (v :: vs) (p :: ps)
  | agg {us : List Value} {qs : List Pl} {vs : List Value} {ps : List Pl} (h : PlsOk Z us qs) (hs : PasOk Z vs ps) : PasOk Z (.agg us.toArray :: vs) (.g qs :: ps)
end

mutual
theorem PlOk.mono {Z Z' : Zs} (hz : Z.le Z') : ∀ {v : Value} {p : Pl}, PlOk Z v p → PlOk Z' v p
  | _, _, .u x => .u x
  | _, _, .i n => .i n
  | _, _, .b x => .b x
  | _, _, .v h => .v h
  | _, _, .n ks => .n ks
  | _, _, .r0 A c ks => .r0 A c ks
  | _, _, .r h1 h2 h3 h4 => .r h1 h2 (PlsOk.mono hz h3) (h4.mono hz)
  | _, _, .q h1 h3 h4 => .q h1 (PlsOk.mono hz h3) (h4.mono hz)
  | _, _, .f h1 h2 => .f (PasOk.mono hz h1) (PasOk.mono hz h2)
theorem PlsOk.mono {Z Z' : Zs} (hz : Z.le Z') : ∀ {v : List Value} {p : List Pl}, PlsOk Z v p → PlsOk Z' v p
  | _, _, .nil => .nil
  | _, _, .cons h hs => .cons (PlOk.mono hz h) (PlsOk.mono hz hs)
theorem PasOk.mono {Z Z' : Zs} (hz : Z.le Z') : ∀ {v : List Value} {p : List Pl}, PasOk Z v p → PasOk Z' v p
  | _, _, .nil => .nil
  | _, _, .cons h hs => .cons (PlOk.mono hz h) (PasOk.mono hz hs)
  | _, _, .agg h hs => .agg (PlsOk.mono hz h) (PasOk.mono hz hs)
end

theorem PlOk.one {Z : Zs} {v : Value} {p : Pl} (h : PlOk Z v p) : v.oneCell' = true := by
  cases h <;> first | rfl | assumption

theorem PlsOk.length {Z : Zs} : ∀ {vs : List Value} {ps : List Pl}, PlsOk Z vs ps → vs.length = ps.length
  | _, _, .nil => rfl
  | _, _, .cons _ hs => by simp [hs.length]

theorem PlsOk.get {Z : Zs} : ∀ {vs : List Value} {ps : List Pl} (k : Nat) {p : Pl}, PlsOk Z vs ps → ps[k]? = some p → ∃ v, vs[k]? = some v ∧ PlOk Z v p
  | _, _, k, _, .nil, h => by simp at h
  | _, _, 0, _, .cons h _, hk => by simp at hk; subst hk; exact ⟨_, rfl, h⟩
  | _, _, k + 1, _, .cons _ hs, hk => by simp at hk; simpa using hs.get k hk

theorem PlsOk.append {Z : Zs} : ∀ {vs us : List Value} {ps qs : List Pl}, PlsOk Z vs ps → PlsOk Z us qs → PlsOk Z (vs ++ us) (ps ++ qs)
  | _, _, _, _, .nil, k => k
  | _, _, _, _, .cons h hs, k => .cons h (hs.append k)

theorem PlsOk.take {Z : Zs} : ∀ {vs : List Value} {ps : List Pl} (n : Nat), PlsOk Z vs ps → PlsOk Z (vs.take n) (ps.take n)
  | _, _, n, .nil => by simp; exact .nil
  | _, _, 0, .cons _ _ => by simp; exact .nil
  | _, _, n + 1, .cons h hs => by simp only [List.take_succ_cons]; exact .cons h (hs.take n)

theorem PlsOk.drop {Z : Zs} : ∀ {vs : List Value} {ps : List Pl} (n : Nat), PlsOk Z vs ps → PlsOk Z (vs.drop n) (ps.drop n)
  | _, _, n, .nil => by simp; exact .nil
  | _, _, 0, .cons h hs => .cons h hs
  | _, _, n + 1, .cons _ hs => by simp only [List.drop_succ_cons]; exact hs.drop n

theorem PlsOk.one {Z : Zs} : ∀ {vs : List Value} {ps : List Pl}, PlsOk Z vs ps → ∀ u ∈ vs, u.oneCell' = true
  | _, _, .nil, u, h => by cases h
  | _, _, .cons h hs, u, hu => by
    rcases List.mem_cons.1 hu with rfl | hu
    · exact h.one
    · exact hs.one u hu

theorem PlsOk.set {Z : Zs} : ∀ {vs : List Value} {ps : List Pl} (k : Nat) {v : Value} {p : Pl}, PlsOk Z vs ps → PlOk Z v p → PlsOk Z (vs.set k v) (ps.set k p)
  | _, _, k, _, _, .nil, _ => by simp; exact .nil
  | _, _, 0, _, _, .cons _ hs, k => .cons k hs
  | _, _, n + 1, _, _, .cons h hs, k => .cons h (hs.set n k)

theorem typed_length {ks : List Kd} {rows : List (List Pl)} (h : typed ks rows) : ∀ r ∈ rows, r.length = ks.length := fun r hr => by
  rw [← h r hr, List.length_map]
theorem typed_append {ks : List Kd} {a b : List (List Pl)} (h : typed ks a) (k : typed ks b) : typed ks (a ++ b) := fun r hr => by
  rcases List.mem_append.1 hr with hr | hr
  · exact h r hr
  · exact k r hr
theorem typed_take {ks : List Kd} {a : List (List Pl)} (n : Nat) (h : typed ks a) : typed ks (a.take n) := fun r hr => h r (List.mem_of_mem_take hr)
theorem typed_drop {ks : List Kd} {a : List (List Pl)} (n : Nat) (h : typed ks a) : typed ks (a.drop n) := fun r hr => h r (List.mem_of_mem_drop hr)

theorem flatten_length {α : Type} {n : Nat} : ∀ {rows : List (List α)}, (∀ r ∈ rows, r.length = n) → rows.flatten.length = rows.length * n
  | [], _ => by simp
  | r :: rows, h => by
    have h1 : rows.flatten.length = rows.length * n := flatten_length (fun x hx => h x (List.mem_cons_of_mem _ hx))
    have h2 := h r List.mem_cons_self
    simp only [List.flatten_cons, List.length_append, h1, h2, List.length_cons, Nat.succ_mul]
    omega

theorem flatten_get {α : Type} {n : Nat} : ∀ {rows : List (List α)} (j k : Nat) {r : List α} {x : α}, (∀ r ∈ rows, r.length = n) → rows[j]? = some r → r[k]? = some x → rows.flatten[j * n + k]? = some x
  | [], j, k, r, x, _, h, _ => by simp at h
  | r :: rows, j, k, r', x, ht, h, hk => by
    have hl := ht r List.mem_cons_self
    simp only [List.flatten_cons]
    cases j with
    | zero =>
      simp at h; subst h
      have hlt : k < r.length := (List.getElem?_eq_some_iff.1 hk).1
      rw [List.getElem?_append_left (by simp; omega)]
      simp [hk]
    | succ j =>
      simp at h
      rw [List.getElem?_append_right (by simp [hl, Nat.succ_mul]; omega)]
      have := flatten_get j k (fun z hz => ht z (List.mem_cons_of_mem _ hz)) h hk
      rw [← this]
      congr 1
      simp [hl, Nat.succ_mul]; omega

theorem flatten_take {α : Type} {n : Nat} : ∀ {rows : List (List α)} (m : Nat), (∀ r ∈ rows, r.length = n) → (rows.take m).flatten = rows.flatten.take (m * n)
  | [], m, _ => by simp
  | r :: rows, 0, _ => by simp
  | r :: rows, m + 1, h => by
    have hl := h r List.mem_cons_self
    have ih := flatten_take m fun x hx => h x (List.mem_cons_of_mem _ hx)
    simp only [List.take_succ_cons, List.flatten_cons, ih, List.take_append]
    have e : (m + 1) * n = n + m * n := by rw [Nat.succ_mul]; omega
    have h1 : r.take ((m + 1) * n) = r := List.take_of_length_le (by omega)
    rw [h1, hl, e, Nat.add_sub_cancel_left]

theorem flatten_drop {α : Type} {n : Nat} : ∀ {rows : List (List α)} (m : Nat), (∀ r ∈ rows, r.length = n) → (rows.drop m).flatten = rows.flatten.drop (m * n)
  | [], m, _ => by simp
  | r :: rows, 0, _ => by simp
  | r :: rows, m + 1, h => by
    have hl := h r List.mem_cons_self
    have ih := flatten_drop m fun x hx => h x (List.mem_cons_of_mem _ hx)
    simp only [List.drop_succ_cons, List.flatten_cons, ih, List.drop_append]
    have e : (m + 1) * n = n + m * n := by rw [Nat.succ_mul]; omega
    have h1 : r.drop ((m + 1) * n) = [] := List.drop_eq_nil_of_le (by omega)
    rw [h1, List.nil_append, hl, e, Nat.add_sub_cancel_left]

/-! ### addresses of ours -/
/-- what stands in one cell: a plain one, or an address -/
inductive Cel where
  | p (x : Pl)
  | ptr (e k : Nat)
  | elt (e sz : Nat) (i : Int) (k : Nat)
  | hdr (e n : Nat)
  | sub (e sz off n : Nat)
  | relt (ks : List Kd) (rows : List (List Pl)) (i : Int) (k : Nat)
  | rptr (cs : List Pl) (k : Nat)
  | fn (f : FuncId) (first caps : List Cel)
  | g (cs : List Cel)

/-- what is known of an entity: its block; a row's address and capacity -/
structure VD where
  blk : Nat
  adr : Option Addr
  cap : Nat

abbrev Vl := Nat → Option VD
def Vl.le (V V' : Vl) : Prop := ∀ e d, V e = some d → V' e = some d
theorem Vl.le_refl (V : Vl) : V.le V := fun _ _ h => h
theorem Vl.le_trans {a b c : Vl} (h : a.le b) (k : b.le c) : a.le c := fun e d x => k e d (h e d x)

mutual
inductive CelOk (Z : Zs) (V : Vl) : Value → Cel → Prop
  | p {v : Value} {x : Pl} (h : PlOk Z v x) : CelOk Z V v (.p x)
  | ptr {e k : Nat} {d : VD} (h : V e = some d) : CelOk Z V (.pointer (some ⟨d.blk, k, none⟩)) (.ptr e k)
  | elt {e sz : Nat} {i : Int} {k : Nat} {d : VD} {ad : Addr} (h : V e = some d) (h2 : d.adr = some ad) : CelOk Z V (.pointer (some (ad.add (i.toNat * sz + k)))) (.elt e sz i k)
  | hdr {e n : Nat} {d : VD} (h : V e = some d) : CelOk Z V (.slice d.adr n d.cap) (.hdr e n)
  | sub {e sz off n : Nat} {d : VD} {A : Option Addr} (h : V e = some d) (h1 : d.cap - off = 0 ∨ A = d.adr.map (·.add (off * sz))) : CelOk Z V (.slice A n (d.cap - off)) (.sub e sz off n)
  | relt {ks : List Kd} {rows : List (List Pl)} {i : Int} {k : Nat} {ad : Addr} {vs : List Value} (h2 : typed ks rows) (h3 : PlsOk Z vs rows.flatten) (h4 : CellsAt Z ad vs) : CelOk Z V (.pointer (some (ad.add (i.toNat * ks.length + k)))) (.relt ks rows i k)
  | rptr {cs : List Pl} {k : Nat} {ad : Addr} {vs : List Value} (h3 : PlsOk Z vs cs) (h4 : CellsAt Z ad vs) : CelOk Z V (.pointer (some (ad.add k))) (.rptr cs k)
  | fn {g : FuncId} {first caps : List Cel} {vs us : List Value} (h1 : CasOk Z V vs first) (h2 : CasOk Z V us caps) : CelOk Z V (.func (.func g) vs.toArray us.toArray) (.fn g first caps)
inductive CelsOk (Z : Zs) (V : Vl) : List Value → List Cel → Prop
  | nil : CelsOk Z V [] []
  | cons {v : Value} {p : Cel} {vs : List Value} {ps : List Cel} (h : CelOk Z V v p) (hs : CelsOk Z V vs ps) : CelsOk Z V (v :: vs) (p :: ps)
inductive CasOk (Z : Zs) (V : Vl) : List Value → List Cel → Prop
  | nil : CasOk Z V [] []
  | cons {v : Value} {p : Cel} {vs : List Value} {ps : List Cel} (h : CelOk Z V v p) (hs : CasOk Z V vs ps) : CasOk Z V (v :: vs) (p :: ps)
  | agg {us : List Value} {qs : List Cel} {vs : List Value} {ps : List Cel} (h : CelsOk Z V us qs) (hs : CasOk Z V vs ps) : CasOk Z V (.agg us.toArray :: vs) (.g qs :: ps)
end

mutual
theorem CelOk.mono {Z Z' : Zs} {V V' : Vl} (hz : Z.le Z') (hv : V.le V') : ∀ {v : Value} {p : Cel}, CelOk Z V v p → CelOk Z' V' v p
  | _, _, .p h => .p (h.mono hz)
  | _, _, .ptr h => .ptr (hv _ _ h)
  | _, _, .elt h h2 => .elt (hv _ _ h) h2
  | _, _, .hdr h => .hdr (hv _ _ h)
  | _, _, .sub h h1 => .sub (hv _ _ h) h1
  | _, _, .relt h2 h3 h4 => .relt h2 (h3.mono hz) (h4.mono hz)
  | _, _, .rptr h3 h4 => .rptr (h3.mono hz) (h4.mono hz)
  | _, _, .fn h1 h2 => .fn (CasOk.mono hz hv h1) (CasOk.mono hz hv h2)
theorem CelsOk.mono {Z Z' : Zs} {V V' : Vl} (hz : Z.le Z') (hv : V.le V') : ∀ {v : List Value} {p : List Cel}, CelsOk Z V v p → CelsOk Z' V' v p
  | _, _, .nil => .nil
  | _, _, .cons h hs => .cons (CelOk.mono hz hv h) (CelsOk.mono hz hv hs)
theorem CasOk.mono {Z Z' : Zs} {V V' : Vl} (hz : Z.le Z') (hv : V.le V') : ∀ {v : List Value} {p : List Cel}, CasOk Z V v p → CasOk Z' V' v p
  | _, _, .nil => .nil
  | _, _, .cons h hs => .cons (CelOk.mono hz hv h) (CasOk.mono hz hv hs)
  | _, _, .agg h hs => .agg (CelsOk.mono hz hv h) (CasOk.mono hz hv hs)
end

theorem CelOk.one {Z : Zs} {V : Vl} {v : Value} {p : Cel} (h : CelOk Z V v p) : v.oneCell' = true := by
  cases h <;> first | rfl | (rename_i h; exact h.one)

section
variable {Z : Zs} {V : Vl}
theorem CelsOk.length : ∀ {vs : List Value} {ps : List Cel}, CelsOk Z V vs ps → vs.length = ps.length
  | _, _, .nil => rfl
  | _, _, .cons _ hs => by simp [hs.length]
theorem CelsOk.get : ∀ {vs : List Value} {ps : List Cel} (k : Nat) {p : Cel}, CelsOk Z V vs ps → ps[k]? = some p → ∃ v, vs[k]? = some v ∧ CelOk Z V v p
  | _, _, k, _, .nil, h => by simp at h
  | _, _, 0, _, .cons h _, hk => by simp at hk; subst hk; exact ⟨_, rfl, h⟩
  | _, _, k + 1, _, .cons _ hs, hk => by simp at hk; simpa using hs.get k hk
theorem CelsOk.append : ∀ {vs us : List Value} {ps qs : List Cel}, CelsOk Z V vs ps → CelsOk Z V us qs → CelsOk Z V (vs ++ us) (ps ++ qs)
  | _, _, _, _, .nil, k => k
  | _, _, _, _, .cons h hs, k => .cons h (hs.append k)
theorem CelsOk.take : ∀ {vs : List Value} {ps : List Cel} (n : Nat), CelsOk Z V vs ps → CelsOk Z V (vs.take n) (ps.take n)
  | _, _, n, .nil => by simp; exact .nil
  | _, _, 0, .cons _ _ => by simp; exact .nil
  | _, _, n + 1, .cons h hs => by simp only [List.take_succ_cons]; exact .cons h (hs.take n)
theorem CelsOk.drop : ∀ {vs : List Value} {ps : List Cel} (n : Nat), CelsOk Z V vs ps → CelsOk Z V (vs.drop n) (ps.drop n)
  | _, _, n, .nil => by simp; exact .nil
  | _, _, 0, .cons h hs => .cons h hs
  | _, _, n + 1, .cons _ hs => by simp only [List.drop_succ_cons]; exact hs.drop n
theorem CelsOk.one : ∀ {vs : List Value} {ps : List Cel}, CelsOk Z V vs ps → ∀ u ∈ vs, u.oneCell' = true
  | _, _, .nil, u, h => by cases h
  | _, _, .cons h hs, u, hu => by
    rcases List.mem_cons.1 hu with rfl | hu
    · exact h.one
    · exact hs.one u hu
theorem CelsOk.ofPls : ∀ {vs : List Value} {ps : List Pl}, PlsOk Z vs ps → CelsOk Z V vs (ps.map .p)
  | _, _, .nil => .nil
  | _, _, .cons h hs => .cons (.p h) (CelsOk.ofPls hs)
theorem CelsOk.toPls : ∀ {vs : List Value} {ps : List Pl}, CelsOk Z V vs (ps.map .p) → PlsOk Z vs ps
  | vs, [], h => by cases h; exact .nil
  | vs, p :: ps, h => by
    cases h with
    | cons h hs => cases h with
      | p h => exact .cons h (CelsOk.toPls hs)
end

/-- a value: one cell, or a struct's (an array's) cells -/
inductive AV where
  | c (x : Cel)
  | agg (cs : List Cel)

inductive AVOk (Z : Zs) (V : Vl) : Value → AV → Prop
  | c {v : Value} {x : Cel} (h : CelOk Z V v x) : AVOk Z V v (.c x)
  | agg {vs : List Value} {cs : List Cel} (h : CelsOk Z V vs cs) : AVOk Z V (.agg vs.toArray) (.agg cs)

theorem AVOk.mono {Z Z' : Zs} {V V' : Vl} (hz : Z.le Z') (hv : V.le V') {v : Value} {x : AV} (h : AVOk Z V v x) : AVOk Z' V' v x := by
  cases h with
  | c h => exact .c (h.mono hz hv)
  | agg h => exact .agg (h.mono hz hv)

def AV.cells : AV → List Cel
  | .c x => [x]
  | .agg cs => cs

theorem AVOk.cells {Z : Zs} {V : Vl} {v : Value} {x : AV} (h : AVOk Z V v x) : CelsOk Z V v.cells.toList x.cells := by
  cases h with
  | c h =>
    have h1 := h.one
    have : v.cells.toList = [v] := by cases v <;> first | rfl | (simp [Value.oneCell'] at h1)
    rw [this]
    exact .cons h .nil
  | agg h => simpa [Value.cells, AV.cells] using h

inductive AVsOk (Z : Zs) (V : Vl) : List Value → List AV → Prop
  | nil : AVsOk Z V [] []
  | cons {v : Value} {p : AV} {vs : List Value} {ps : List AV} (h : AVOk Z V v p) (hs : AVsOk Z V vs ps) : AVsOk Z V (v :: vs) (p :: ps)
theorem AVsOk.mono {Z Z' : Zs} {V V' : Vl} (hz : Z.le Z') (hv : V.le V') : ∀ {v : List Value} {x : List AV}, AVsOk Z V v x → AVsOk Z' V' v x
  | _, _, .nil => .nil
  | _, _, .cons h hs => .cons (h.mono hz hv) (hs.mono hz hv)
theorem AVsOk.get {Z : Zs} {V : Vl} : ∀ {vs : List Value} {ps : List AV} (k : Nat) {p : AV}, AVsOk Z V vs ps → ps[k]? = some p → ∃ v, vs[k]? = some v ∧ AVOk Z V v p
  | _, _, k, _, .nil, h => by simp at h
  | _, _, 0, _, .cons h _, hk => by simp at hk; subst hk; exact ⟨_, rfl, h⟩
  | _, _, k + 1, _, .cons _ hs, hk => by simp at hk; simpa using hs.get k hk
theorem AVsOk.length {Z : Zs} {V : Vl} : ∀ {vs : List Value} {ps : List AV}, AVsOk Z V vs ps → vs.length = ps.length
  | _, _, .nil => rfl
  | _, _, .cons _ hs => by simp [hs.length]

/-- what stands in a slot: a value, or a call's several results -/
inductive SV where
  | a (x : AV)
  | tup (xs : List AV)

inductive SVOk (Z : Zs) (V : Vl) : Value → SV → Prop
  | a {v : Value} {x : AV} (h : AVOk Z V v x) : SVOk Z V v (.a x)
  | tup {vs : List Value} {xs : List AV} (h : AVsOk Z V vs xs) : SVOk Z V (.tuple vs.toArray) (.tup xs)
theorem SVOk.mono {Z Z' : Zs} {V V' : Vl} (hz : Z.le Z') (hv : V.le V') {v : Value} {x : SV} (h : SVOk Z V v x) : SVOk Z' V' v x := by
  cases h with
  | a h => exact .a (h.mono hz hv)
  | tup h => exact .tup (h.mono hz hv)

/-- an entity: a block whose cells are known; a row of our own -/
inductive Ent where
  | cells (cs : List Cel) (t : TypeId)
  | own (t : TypeId) (ks : List Kd) (rows : List (List Pl))

/-- the frame: what a call may write: blocks of F, and new ones -/
structure Fr (F : Nat → Prop) (w0 w : World) : Prop where
  os : w.os = w0.os
  tape : w.tape = w0.tape
  output : w.output = w0.output
  size : w0.heap.size ≤ w.heap.size
  keep : ∀ k, k < w0.heap.size → ¬ F k → w.heap[k]? = w0.heap[k]?

/-- blocks never written again are as told -/
def Frz (Z : Zs) (w : World) : Prop := ∀ k cs, Z k = some cs → ∃ t fz, w.heap[k]? = some (.cells cs t fz)

theorem Frz.cell {Z : Zs} {w : World} (h : Frz Z w) {a : Addr} {v : Value} (hz : zcell Z a = some v) : w.cell? a = some v := by
  unfold zcell at hz
  split at hz
  · cases hz
  · rename_i hs
    obtain ⟨c, h1, h2⟩ := Option.bind_eq_some_iff.1 hz
    obtain ⟨t, fz, h3⟩ := h _ _ h1
    unfold World.cell?
    rw [h3]
    simp only
    rw [if_neg hs]; exact h2

def Ent.blk (d : VD) : Ent → Option Nat
  | .cells _ _ => some d.blk
  | .own _ _ _ => d.adr.map (·.block)

def Ent.ok (Z : Zs) (w : World) (V : Vl) (d : VD) : Ent → Prop
  | .cells cs t => ∃ vs, CelsOk Z V vs cs ∧ w.heap[d.blk]? = some (.cells vs.toArray t (0, 0))
  | .own t ks rows => typed ks rows ∧ ∃ vs, PlsOk Z vs rows.flatten ∧ w.ownsRow 0 t ks.length (.slice d.adr rows.length d.cap) rows.length vs

/-- where a call began: what it may write, the world, what was frozen then -/
structure Bs where
  F : Nat → Prop
  w0 : World
  Z0 : Zs

structure St where
  slots : List (Nat × Bool × SV)
  ents : List (Nat × Ent)
  next : Nat
  nt : Nat

/-- the entities, and what is never written again -/
structure EnvOk (B : Bs) (Z : Zs) (V : Vl) (es : List (Nat × Ent)) (w : World) : Prop where
  ents : ∀ e x, es.lookup e = some x → ∃ d, V e = some d ∧ x.ok Z w V d ∧ (∀ k, x.blk d = some k → (B.F k ∨ B.w0.heap.size ≤ k) ∧ Z k = none)
  apart : ∀ e e' x x' d d' k, e ≠ e' → es.lookup e = some x → es.lookup e' = some x' → V e = some d → V e' = some d' → x.blk d = some k → x'.blk d' = some k → False
  frz : Frz Z w
  frame : Fr B.F B.w0 w
  zn : ∀ k cs, Z k = some cs → k < B.w0.heap.size → ¬ B.F k → B.Z0 k = some cs
  zl : B.Z0.le Z

structure Sat (B : Bs) (Z : Zs) (V : Vl) (st : St) (a : Act) (w : World) : Prop extends EnvOk B Z V st.ents w where
  defers : a.defers = []
  size : a.tmps.size = st.nt
  slots : ∀ t g x, st.slots.lookup t = some (g, x) → g = true → ∃ v, SVOk Z V v x ∧ a.tmps[t]? = some v
  off : ∀ t g x, st.slots.lookup t = some (g, x) → g = false → a.tmps[t]? = some undef
  fresh : ∀ e, st.next ≤ e → V e = none

end Go.Vx

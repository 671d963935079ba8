import Derived.Test.YtijaimiefcohbaaDoorX13
import Derived.Orders
set_option linter.unusedSimpArgs false
set_option linter.unusedVariables false
set_option linter.constructorNameAsVariable false
namespace Go.Vx
open Go Go.RowKit

/-! ### an operation's effect hangs on its operands alone -/
section
variable {cx : Cx} {ov ov' : Ov} {en en' : En} {nx nx' : Nat} {o : Oper} {E : Eff}

def En.le (en en' : En) : Prop := ∀ e x, en e = some x → en' e = some x

theorem rd_congr {x : Operand} (h : ov x = ov' x) : rd ov x = rd ov' x := by unfold rd; rw [h]

theorem rds_congr : ∀ {xs : List Operand}, (∀ x ∈ xs, ov x = ov' x) → rds ov xs = rds ov' xs
  | [], _ => rfl
  | x :: xs, h => by simp only [rds, rd_congr (h x List.mem_cons_self), rds_congr fun y hy => h y (List.mem_cons_of_mem _ hy)]

theorem rdParts_congr : ∀ {l : List (Nat × Operand)}, (∀ p ∈ l, ov p.2 = ov' p.2) → rdParts ov l = rdParts ov' l
  | [], _ => rfl
  | (i, x) :: l, h => by
    simp only [rdParts, rd_congr (h (i, x) List.mem_cons_self), rdParts_congr fun y hy => h y (List.mem_cons_of_mem _ hy)]

theorem bound_congr {x : Option Operand} (h : ∀ y, x = some y → ov y = ov' y) : bound ov x = bound ov' x := by
  cases x with
  | none => rfl
  | some y => simp only [bound, rd_congr (h y rfl)]

theorem un1_congr {x : Operand} {k : AV → Option (Prop × AV)} (h : ov x = ov' x) : un1 ov x k = un1 ov' x k := by unfold un1; rw [rd_congr h]
theorem un2_congr {x y : Operand} {k : AV → AV → Option (Prop × AV)} (h : ov x = ov' x) (h' : ov y = ov' y) : un2 ov x y k = un2 ov' x y k := by unfold un2; rw [rd_congr h, rd_congr h']

theorem un1_mono {x : Operand} {k k' : AV → Option (Prop × AV)} (h : ∀ v r, k v = some r → k' v = some r) (hE : un1 ov x k = some E) : un1 ov x k' = some E := by
  unfold un1 at hE ⊢
  split at hE
  · rename_i c v h1
    obtain ⟨r, h2, rfl⟩ := Option.map_eq_some_iff.1 hE
    simp only [h v r h2, Option.map_some]
  · cases hE

theorem un2_mono {x y : Operand} {k k' : AV → AV → Option (Prop × AV)} (h : ∀ v u r, k v u = some r → k' v u = some r) (hE : un2 ov x y k = some E) : un2 ov x y k' = some E := by
  unfold un2 at hE ⊢
  split at hE
  · rename_i c v d u h1 h1'
    obtain ⟨r, h2, rfl⟩ := Option.map_eq_some_iff.1 hE
    simp only [h v u r h2, Option.map_some]
  · cases hE

theorem opLoad_mono (h : En.le en en') {tb : Tb} {T : TypeId} {x : AV} {r : Prop × AV} (hr : opLoad tb en T x = some r) : opLoad tb en' T x = some r := by
  unfold opLoad at hr ⊢
  split at hr
  · split at hr
    · rename_i h1 h2
      simp only [h1, h _ _ h2]
      exact hr
    · cases hr
  · exact hr
  · split at hr
    · rename_i h1 h2
      simp only [h1, h _ _ h2]
      exact hr
    · cases hr
  · exact hr
  · cases hr

theorem opIndexAddr_mono (h : En.le en en') {tb : Tb} {T : TypeId} {x y : AV} {r : Prop × AV} (hr : opIndexAddr tb en T x y = some r) : opIndexAddr tb en' T x y = some r := by
  unfold opIndexAddr at hr ⊢
  split at hr
  · split at hr
    · rename_i h1 h2
      simp only [h1, h _ _ h2]
      exact hr
    · cases hr
  · exact hr
  · cases hr

/-- an address of an array is no slice -/
theorem opIndexAddr_arr {tb : Tb} {T : TypeId} {x y : AV} {r r' : Prop × AV} (h1 : opIndexArr tb T x y = some r) (h2 : opIndexAddr tb en T x y = some r') : False := by
  unfold opIndexArr at h1
  split at h1
  · split at h1
    · split at h1
      · cases h1
      · obtain ⟨q, h3, _⟩ := Option.map_eq_some_iff.1 h1
        unfold opIndexAddr at h2
        unfold addOff at h3
        split at h3 <;> simp_all
    · cases h1
  · cases h1

theorem opSlice_mono (h : En.le en en') {tb : Tb} {T : TypeId} {x : AV} {l hh : Option Int} {r : Prop × AV} (hr : opSlice tb en T x l hh = some r) : opSlice tb en' T x l hh = some r := by
  unfold opSlice at hr ⊢
  split at hr
  · rename_i ei h1
    (try simp only [h1])
    split at hr
    · exact hr
    · exact hr
    · split at hr
      · rename_i h2
        simp only [h _ _ h2]
        exact hr
      · cases hr
    · split at hr
      · rename_i h2
        simp only [h _ _ h2]
        exact hr
      · cases hr
    · cases hr
  · cases hr

mutual
theorem frzC_mono {O : Th} (h : En.le en en') : ∀ {m : Nat} {x : Cel} {r : Prop × List Nat × Pl}, frzC O en m x = some r → frzC O en' m x = some r
  | m, .p x, r, hr => by unfold frzC at hr ⊢; exact hr
  | m, .hdr e n, r, hr => by
    unfold frzC at hr ⊢
    split at hr
    · rename_i he; simp only [h _ _ he]; exact hr
    · cases hr
  | m, .sub e sz off n, r, hr => by
    unfold frzC at hr ⊢
    split at hr
    · rename_i he; simp only [h _ _ he]; exact hr
    · cases hr
  | 0, .ptr e k, r, hr => by simp [frzC] at hr
  | m + 1, .ptr e k, r, hr => by
    unfold frzC at hr ⊢
    split at hr
    · rename_i cs t he
      simp only [h _ _ he]
      split at hr
      · rename_i c ids ps hl
        simp only [frzL_mono h hl]
        exact hr
      · cases hr
    · cases hr
  | 0, .fn f a b, r, hr => by simp [frzC] at hr
  | m + 1, .fn f a b, r, hr => by
    unfold frzC at hr ⊢
    split at hr
    · rename_i h1 h2
      simp only [frzG_mono h h1, frzG_mono h h2]
      exact hr
    · cases hr
  | m, .rptr cs k, r, hr => by unfold frzC at hr ⊢; exact hr
  | m, .elt _ _ _ _, r, hr => by simp [frzC] at hr
  | m, .relt _ _ _ _, r, hr => by simp [frzC] at hr
  | m, .g _, r, hr => by simp [frzC] at hr
theorem frzL_mono {O : Th} (h : En.le en en') : ∀ {m : Nat} {x : List Cel} {r : Prop × List Nat × List Pl}, frzL O en m x = some r → frzL O en' m x = some r
  | m, [], r, hr => by unfold frzL at hr ⊢; exact hr
  | 0, x :: xs, r, hr => by simp [frzL] at hr
  | m + 1, x :: xs, r, hr => by
    unfold frzL at hr ⊢
    split at hr
    · rename_i h1 h2
      simp only [frzC_mono h h1, frzL_mono h h2]
      exact hr
    · cases hr
theorem frzG_mono {O : Th} (h : En.le en en') : ∀ {m : Nat} {x : List Cel} {r : Prop × List Nat × List Pl}, frzG O en m x = some r → frzG O en' m x = some r
  | m, [], r, hr => by unfold frzG at hr ⊢; exact hr
  | 0, x :: xs, r, hr => by simp [frzG] at hr
  | m + 1, x :: xs, r, hr => by
    cases x with
    | g cs =>
      simp only [frzG] at hr ⊢
      split at hr
      · rename_i h1 h2
        simp only [frzL_mono h h1, frzG_mono h h2]
        exact hr
      · cases hr
    | _ =>
      simp only [frzG] at hr ⊢
      split at hr
      · rename_i h1 h2
        simp only [frzC_mono h h1, frzG_mono h h2]
        exact hr
      · cases hr
end

theorem frzA_mono {O : Th} (h : En.le en en') {x : AV} {r : Prop × List Nat × AV} (hr : frzA O en x = some r) : frzA O en' x = some r := by
  cases x with
  | c x =>
    obtain ⟨q, h1, rfl⟩ := Option.map_eq_some_iff.1 hr
    simp only [frzA, frzC_mono h h1, Option.map_some]
  | agg cs =>
    obtain ⟨q, h1, rfl⟩ := Option.map_eq_some_iff.1 hr
    simp only [frzA, frzL_mono h h1, Option.map_some]

theorem toArgs_mono {O : Th} (h : En.le en en') : ∀ {md : List Bool} {xs : List AV} {r : Prop × List Nat × List AV}, toArgs O en md xs = some r → toArgs O en' md xs = some r
  | md, [], r, hr => by
    have : ∀ en : En, toArgs O en md [] = some (True, [], []) := fun en => by cases md <;> rfl
    rw [this] at hr ⊢; exact hr
  | true :: md, x :: xs, r, hr => by
    simp only [toArgs] at hr ⊢
    split at hr
    · rename_i h1
      simp only [toArgs_mono h h1]; exact hr
    · cases hr
  | false :: md, x :: xs, r, hr => by
    simp only [toArgs] at hr ⊢
    split at hr
    · rename_i h1 h2
      simp only [frzA_mono h h1, toArgs_mono h h2]; exact hr
    · cases hr
  | [], x :: xs, r, hr => by
    simp only [toArgs] at hr ⊢
    split at hr
    · rename_i h1 h2
      simp only [frzA_mono h h1, toArgs_mono h h2]; exact hr
    · cases hr

theorem reach_acc {en : En} {y : Nat} : ∀ {m : Nat} {todo acc : List Nat}, y ∈ acc → y ∈ reach en m todo acc
  | 0, _, _, h => h
  | m + 1, [], _, h => h
  | m + 1, e :: todo, acc, h => by
    unfold reach
    split
    · exact reach_acc h
    · split
      · exact reach_acc (List.mem_append_left _ h)
      · exact reach_acc (List.mem_append_left _ h)

theorem reach_nil {en : En} : ∀ {m : Nat} {todo : List Nat}, reach en (m + 1) todo [] = [] → todo = []
  | m, [], _ => rfl
  | m, e :: todo, h => by
    unfold reach at h
    rw [if_neg (by simp)] at h
    exfalso
    split at h
    · rename_i x _
      have := reach_acc (en := en) (y := e) (m := m) (todo := x.ids ++ todo) (acc := [] ++ [e]) (by simp)
      rw [h] at this; cases this
    · have := reach_acc (en := en) (y := e) (m := m) (todo := todo) (acc := [] ++ [e]) (by simp)
      rw [h] at this; cases this

theorem eaOf_none {ids : List Nat} {put new : List (Nat × Ent)} (h : eaOf ids put new = .none) : ids = [] ∧ new = [] := by
  unfold eaOf at h
  split at h
  · exact ⟨rfl, rfl⟩
  · cases h
  · cases h

theorem effCallA_mono {O : Th} {con : List (FuncId × Cn)} (h : En.le en en') {f : FuncId} {xs : List AV} (hE : effCallA O con en nx f xs = some E) (hl : E.ea = .none) : effCallA O con en' nx' f xs = some E := by
  unfold effCallA at hE ⊢
  split at hE
  · cases hE
  · rename_i cn hcn
    dsimp only at hE ⊢
    split at hE
    case h_2 => cases hE
    rename_i c tmp ys ents h1 h2
    split at hE
    case isFalse => cases hE
    rename_i hcond
    split at hE
    case h_2 => cases hE
    rename_i zs es h3 h4
    split at hE
    case h_2 => cases hE
    rename_i c2 rs es2 h5
    split at hE
    case h_2 => cases hE
    rename_i rs' put new h6 h7
    split at hE
    case isFalse => cases hE
    rename_i hcond2
    obtain rfl := Option.some.inj hE
    obtain ⟨hids, hnew⟩ := eaOf_none hl
    have hmu := reach_nil (m := 59) hids
    have hids' : reach en' 60 (mutIds cn.md xs) [] = [] := by rw [hmu]; rfl
    rw [hids] at h2 hcond h3 h4 h6 h7 hcond2
    simp only [hids', toArgs_mono h h1]
    have h2' : ents = [] := by simp only [fetch, Option.some.injEq] at h2; exact h2.symm
    subst h2'
    have e4 : es = [] := by simp only [renE, Option.some.injEq] at h4; exact h4.symm
    subst e4
    simp only [List.zipIdx_nil, List.map_nil, List.nil_append, List.length_nil, fetch] at *
    simp only [hcond, h3, h4, if_true, and_self]
    simp only [h5]
    subst hnew
    have hn0 : (es2.filter fun p => !decide (p.1 < 0)).length = 0 := by
      have := congrArg List.length hcond2.1
      simpa [upto_len] using this.symm
    simp only [hn0, upto, List.map_nil] at h6 h7 hcond2 ⊢
    simp only [h6, h7, hids]
    rw [if_pos ⟨rfl, hcond2.2.1, rfl⟩]

theorem call_operands {c : Call} {x : Operand} (h : x ∈ c.args.toList) : x ∈ (Op.call c).operands := by
  simp only [Op.operands, Call.operands]
  exact Array.mem_append.2 (.inr (by simpa using h))

/-- the same operands: the same effect -/
theorem eff_congr (h : ∀ x ∈ o.op.operands, ov x = ov' x) : eff cx ov en nx o = eff cx ov' en nx o := by
  unfold eff
  cases hop : o.op <;> simp only [hop, Op.operands] at h ⊢ <;> (try rfl)
  case move x => unfold effMove; rw [h x (by simp)]
  case assign x => unfold effMove; rw [h x (by simp)]
  case pick c x y => unfold effPick; rw [rd_congr (h c (by simp)), h x (by simp), h y (by simp)]
  case box T x => rw [rd_congr (h x (by simp))]
  case build T parts =>
    have hp : rdParts ov parts.toList = rdParts ov' parts.toList := rdParts_congr fun p hp => h p.2 (by
      simp only [List.mem_toArray, List.mem_map]
      exact ⟨p, hp, rfl⟩)
    unfold effBuild; rw [hp]
  case buildSlice T len parts =>
    have hp : rdParts ov parts.toList = rdParts ov' parts.toList := rdParts_congr fun p hp => h p.2 (by
      simp only [List.mem_toArray, List.mem_map]
      exact ⟨p, hp, rfl⟩)
    unfold effBuildSlice; rw [hp]
  case load T x => exact un1_congr (h x (by simp))
  case store T p x => rw [rd_congr (h p (by simp)), rd_congr (h x (by simp))]
  case nilCheck x => exact un1_congr (h x (by simp))
  case binOp op T x y yT => exact un2_congr (h x (by simp)) (h y (by simp))
  case unOp op T x => exact un1_congr (h x (by simp))
  case convert S D x => rw [un1_congr (h x (by simp))]
  case makeFunc fn a b =>
    cases fn with
    | func f =>
      have e1 : rds ov a.toList = rds ov' a.toList := rds_congr fun x hx => h x (Array.mem_append.2 (.inl (by simpa using hx)))
      have e2 : rds ov b.toList = rds ov' b.toList := rds_congr fun x hx => h x (Array.mem_append.2 (.inr (by simpa using hx)))
      simp only [e1, e2]
    | _ => rfl
  case makeSlice T l c => rw [rd_congr (h l (by simp)), rd_congr (h c (by simp))]
  case slice T x l hh m =>
    unfold effSlice
    rw [rd_congr (h x (by simp)), bound_congr (x := l) (fun y hy => h y (by simp [hy])), bound_congr (x := hh) (fun y hy => h y (by simp [hy]))]
  case fieldAddr T x f => exact un1_congr (h x (by simp))
  case field T x f => exact un1_congr (h x (by simp))
  case indexAddr T x y => exact un2_congr (h x (by simp)) (h y (by simp))
  case index T x y => exact un2_congr (h x (by simp)) (h y (by simp))
  case extract x i => unfold effExtract; rw [h x (by simp)]
  case call c =>
    have ha : ∀ x ∈ c.args.toList, ov x = ov' x := fun x hx => h x (by
      have := call_operands (c := c) hx
      simpa [Op.operands] using this)
    unfold effCallOp
    split
    · rename_i x T h1 h2 h3
      rw [un1_congr (ha x (by rw [h2]; simp))]
    · rename_i s x T T' h1 h2 h3
      rw [rd_congr (ha s (by rw [h2]; simp)), rd_congr (ha x (by rw [h2]; simp))]
    · rename_i s x T T' h1 h2 h3
      rw [rd_congr (ha s (by rw [h2]; simp)), rd_congr (ha x (by rw [h2]; simp))]
    · rw [rds_congr ha]
    · rw [rds_congr ha]
    · rename_i g h1
      unfold effCall
      have hg : ov g = ov' g := h g (by
        simp only [Call.operands, h1]
        exact Array.mem_append.2 (.inl (by simp)))
      rw [rd_congr hg, rds_congr ha]
    · rfl

/-- a light effect stays where more entities are told -/
theorem eff_mono (h : En.le en en') (hE : eff cx ov en nx o = some E) (hl : E.ea = .none) : eff cx ov en' nx' o = some E := by
  unfold eff at hE ⊢
  cases hop : o.op <;> simp only [hop] at hE ⊢ <;> (try exact hE)
  case alloc T =>
    split at hE
    · obtain rfl := Option.some.inj hE; cases hl
    · cases hE
  case box T x =>
    split at hE
    · rename_i c v h1
      obtain rfl := Option.some.inj hE
      cases hl
    · cases hE
  case buildSlice T len parts =>
    unfold effBuildSlice at hE
    (repeat' split at hE) <;> (try (cases hE; done))
    obtain rfl := Option.some.inj hE
    simp only [newOr] at hl
    split at hl <;> cases hl
  case makeSlice T l c =>
    split at hE
    · obtain ⟨E', hE', rfl⟩ := Option.map_eq_some_iff.1 hE
      unfold effMake at hE'
      (repeat' split at hE') <;> (try (cases hE'; done))
      obtain rfl := Option.some.inj hE'
      cases hl
    · cases hE
  case makeFunc fn a b =>
    cases fn <;> exact hE
  case load T x => exact un1_mono (fun v r hr => opLoad_mono h hr) hE
  case indexAddr T x y =>
    refine un2_mono (fun v u r hr => ?_) hE
    split at hr
    · rename_i r' h1
      simp only [opIndexAddr_mono h h1]; exact hr
    · rename_i h1
      cases h2 : opIndexAddr cx.toTb en' T v u with
      | none => exact hr
      | some r' => exact (opIndexAddr_arr hr h2).elim
  case slice T x l hh m =>
    unfold effSlice at hE ⊢
    split at hE
    · rename_i h1 h2 h3
      obtain ⟨p, hp, rfl⟩ := Option.map_eq_some_iff.1 hE
      simp only [h1, h2, h3, opSlice_mono h hp, Option.map_some]
    · cases hE
  case store T p x =>
    split at hE
    · rename_i c pv d xv h1 h2
      obtain ⟨E', hE', rfl⟩ := Option.map_eq_some_iff.1 hE
      unfold effStore at hE'
      (repeat' split at hE') <;> (try (cases hE'; done)) <;> (obtain rfl := Option.some.inj hE'; cases hl)
    · cases hE
  case call c =>
    unfold effCallOp at hE ⊢
    split at hE
    · exact hE
    · split at hE
      · split at hE
        · obtain ⟨E', hE', rfl⟩ := Option.map_eq_some_iff.1 hE
          unfold effAppend at hE'
          (repeat' split at hE') <;> (try (cases hE'; done)) <;> (obtain rfl := Option.some.inj hE'; cases hl)
        · cases hE
      · cases hE
    · split at hE
      · split at hE
        · obtain ⟨E', hE', rfl⟩ := Option.map_eq_some_iff.1 hE
          unfold effCopy at hE'
          (repeat' split at hE') <;> (try (cases hE'; done)) <;> (obtain rfl := Option.some.inj hE'; cases hl)
        · cases hE
      · cases hE
    · exact hE
    · exact hE
    · unfold effCall at hE ⊢
      split at hE
      · rename_i c v d ys h1 h2
        split at hE
        · rename_i f as bs h3
          obtain ⟨E', hE', rfl⟩ := Option.map_eq_some_iff.1 hE
          simp only [h1, h2, h3, effCallA_mono h hE' hl, Option.map_some]
        · cases hE
      · cases hE
    · cases hE

end
end Go.Vx

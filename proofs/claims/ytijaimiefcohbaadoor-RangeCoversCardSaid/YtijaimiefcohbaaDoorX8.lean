import Derived.Test.YtijaimiefcohbaaDoorX7
import Derived.Laws.Append
import Derived.Laws.Tables
import Derived.Laws.CopyRow
import Derived.Laws.MakeOwn
set_option linter.unusedSimpArgs false
set_option linter.unusedVariables false
set_option linter.constructorNameAsVariable false
namespace Go.Vx
open Go Go.RowKit

def addEnts (st : St) : List Ent → St
  | [] => st
  | x :: xs => addEnts { st with ents := setK st.next x st.ents, next := st.next + 1 } xs

def delAll (l : List Nat) (es : List (Nat × Ent)) : List (Nat × Ent) := es.filter fun p => !l.contains p.1
def putAll : List (Nat × Ent) → List (Nat × Ent) → List (Nat × Ent)
  | [], es => es
  | (e, x) :: l, es => putAll l (setK e x es)

def St.ea (st : St) : Ea → St
  | .none => st
  | .new xs => addEnts st xs
  | .upd del put xs => addEnts { st with ents := putAll put (delAll del st.ents) } xs

def St.app (st : St) (dst : Option Nat) (g : Bool) (E : Eff) : St := (st.ea E.ea).put dst g E.val

theorem addEnts_nt : ∀ (xs : List Ent) (st : St), (addEnts st xs).nt = st.nt
  | [], st => rfl
  | x :: xs, st => by rw [addEnts, addEnts_nt xs]

theorem St.ea_nt (st : St) (e : Ea) : (st.ea e).nt = st.nt := by
  cases e with
  | new xs => exact addEnts_nt xs st
  | upd del put xs => exact addEnts_nt xs _
  | none => rfl

theorem lookup_delAll (l : List Nat) (j : Nat) : ∀ (es : List (Nat × Ent)), (delAll l es).lookup j = if l.contains j then none else es.lookup j
  | [] => by simp [delAll]
  | (k, x) :: es => by
    have ih := lookup_delAll l j es
    unfold delAll at ih ⊢
    by_cases hk : l.contains k = true
    · simp only [List.filter_cons, hk, Bool.not_true, Bool.false_eq_true, if_false, ih]
      by_cases hj : j = k
      · subst hj
        have : j ∈ l := by simpa using hk
        simp [this]
      · have : (j == k) = false := by simpa using hj
        simp only [List.lookup_cons, this]
    · have hk' : l.contains k = false := by simpa using hk
      simp only [List.filter_cons, hk', Bool.not_false, if_true, List.lookup_cons, ih]
      by_cases hj : j = k
      · subst hj
        have : ¬ j ∈ l := by simpa using hk'
        simp [this]
      · have : (j == k) = false := by simpa using hj
        simp only [this]

section
variable {P : Program} {cx : Cx} {B : Bs} {w : World} {Z : Zs} {V : Vl} {st : St} {a : Act} {o : Oper} {K : Act → World → Prop} {Q : Exit → Act → World → Prop}

theorem wp_value {v : Value} {w' : World} (hrun : (execOp a.eval o).run P w = .ok (.value v) w') (h : K (a.put o.dst v) w') : o.wp P a w K Q := by
  unfold Oper.wp; rw [hrun]; exact h

theorem wp_skip_ {w' : World} (hrun : (execOp a.eval o).run P w = .ok .skip w') (h : K (a.put o.dst undef) w') : o.wp P a w K Q := by
  unfold Oper.wp; rw [hrun]; exact h

theorem rd_sound (hs : Sat B Z V st a w) {x : Operand} {c : Prop} {v : AV} (h : rd st.ov x = some (c, v)) (hc : c) : AVOk Z V (a.eval x) v := by
  unfold rd at h
  split at h
  · rename_i g s hx
    simp only [Option.some.injEq, Prod.mk.injEq] at h
    obtain ⟨rfl, rfl⟩ := h
    obtain ⟨u, h1, h2⟩ := hs.ov hx hc
    cases h1 with | a h1 => exact h2 ▸ h1
  · cases h

theorem rds_sound (hs : Sat B Z V st a w) : ∀ {xs : List Operand} {c : Prop} {vs : List AV}, rds st.ov xs = some (c, vs) → c → AVsOk Z V (xs.map a.eval) vs
  | [], c, vs, h, hc => by
    simp only [rds, Option.some.injEq, Prod.mk.injEq] at h
    obtain ⟨-, rfl⟩ := h
    exact .nil
  | x :: xs, c, vs, h, hc => by
    simp only [rds] at h
    split at h
    · rename_i c1 v d1 vs1 h1 h2
      simp only [Option.some.injEq, Prod.mk.injEq] at h
      obtain ⟨rfl, rfl⟩ := h
      exact .cons (rd_sound hs h1 hc.1) (rds_sound hs h2 hc.2)
    · cases h

/-- what is wanted of an operation whose effect is told -/
def Sound (P : Program) (B : Bs) (Z : Zs) (V : Vl) (st : St) (a : Act) (w : World) (o : Oper) (E : Eff) : Prop :=
  ∀ (K : Act → World → Prop) (Q : Exit → Act → World → Prop) (g : Bool), g = true →
    (∀ Z' V' v w', Z.le Z' → V.le V' → Sat B Z' V' (st.app o.dst g E) (a.put o.dst v) w' → K (a.put o.dst v) w') → o.wp P a w K Q

theorem sound_val (hs : Sat B Z V st a w) (hd : ∀ d, o.dst = some d → d < st.nt) {E : Eff} (he : E.ea = .none) {x : SV} (hx : E.val = some x) {v : Value} (hv : SVOk Z V v x)
    (hrun : (execOp a.eval o).run P w = .ok (.value v) w) : Sound P B Z V st a w o E := by
  intro K Q g hg hK
  refine wp_value hrun (hK Z V v w (Zs.le_refl Z) (Vl.le_refl V) ?_)
  unfold St.app
  rw [he]
  exact hs.put o.dst g E.val v hd (fun s h _ => by rw [hx] at h; obtain rfl := Option.some.inj h; exact hv) (fun s _ h => by rw [hg] at h; cases h)

theorem sound_un1 (hs : Sat B Z V st a w) (hd : ∀ d, o.dst = some d → d < st.nt) {x : Operand} {k : AV → Option (Prop × AV)} {E : Eff} (h : un1 st.ov x k = some E) (hc : E.c) (f : Value → Sem Next)
    (hop : execOp a.eval o = f (a.eval x))
    (hk : ∀ {v r c u}, AVOk Z V u v → k v = some (c, r) → c → ∃ q, AVOk Z V q r ∧ (f u).run P w = .ok (.value q) w) : Sound P B Z V st a w o E := by
  unfold un1 at h
  split at h
  · rename_i c v hr
    obtain ⟨⟨c2, r⟩, h1, rfl⟩ := Option.map_eq_some_iff.1 h
    obtain ⟨q, hq1, hq2⟩ := hk (rd_sound hs hr hc.1) h1 hc.2
    refine sound_val hs hd rfl rfl (.a hq1) ?_
    rw [hop, hq2]
  · cases h

theorem sound_un2 (hs : Sat B Z V st a w) (hd : ∀ d, o.dst = some d → d < st.nt) {x y : Operand} {k : AV → AV → Option (Prop × AV)} {E : Eff} (h : un2 st.ov x y k = some E) (hc : E.c) (f : Value → Value → Sem Next)
    (hop : execOp a.eval o = f (a.eval x) (a.eval y))
    (hk : ∀ {v v' r c u u'}, AVOk Z V u v → AVOk Z V u' v' → k v v' = some (c, r) → c → ∃ q, AVOk Z V q r ∧ (f u u').run P w = .ok (.value q) w) : Sound P B Z V st a w o E := by
  unfold un2 at h
  split at h
  · rename_i c v d v' hr hr'
    obtain ⟨⟨c2, r⟩, h1, rfl⟩ := Option.map_eq_some_iff.1 h
    obtain ⟨q, hq1, hq2⟩ := hk (rd_sound hs hr hc.1) (rd_sound hs hr' hc.2.1) h1 hc.2.2
    refine sound_val hs hd rfl rfl (.a hq1) ?_
    rw [hop, hq2]
  · cases h

theorem toInt_wrap (x : BitVec 64) : wrap64 (x.toNat : Int) = x.toInt := by
  have := x.isLt
  rw [BitVec.toInt_eq_toNat_cond]
  unfold wrap64
  split <;> omega

theorem effConv_sound {tb : Tb} (htb : TbOk P tb) {S D : TypeId} {x r : AV} {v : Value} {c : Prop} (hx : AVOk Z V v x) (h : effConv tb D x = some (c, r)) (hS : ∃ d, P.underlying S = some d) :
    ∃ u, AVOk Z V u r ∧ (Go.convert S D v).run P w = .ok u w := by
  obtain ⟨dS, hS⟩ := hS
  have key : ∀ {ti : TI} {k : IntKind}, tb.tab.lookup D = some ti → ti.ik = some k → ∀ (k' : IntKind) (n : Int), (Go.convert S D (.int k' n)).run P w = .ok (.int k (k.wrap n)) w := by
    intro ti k h1 h2 k' n
    obtain ⟨d, i, z, hu, _, _, _, _, _, _, _, _, _, _, _, hik, _⟩ := tinfo_some (htb.tab _ _ h1)
    rw [hik] at h2
    cases d with
    | int k2 =>
      simp only [Option.some.injEq] at h2
      subst h2
      simp [Go.convert, run_underlying hS, run_underlying hu, Conv.intToInt]
    | _ => simp at h2
  unfold effConv at h
  split at h
  · rename_i y
    cases hx; rename_i hx; cases hx; rename_i hx; cases hx
    split at h
    · rename_i ti h1
      split at h
      · rename_i h2
        simp only [Option.some.injEq, Prod.mk.injEq] at h
        obtain ⟨-, rfl⟩ := h
        exact ⟨_, .c (.p (.i _)), by rw [key h1 h2, i64_w, toInt_wrap, tb.O.eq]⟩
      · rename_i h2
        simp only [Option.some.injEq, Prod.mk.injEq] at h
        obtain ⟨-, rfl⟩ := h
        exact ⟨_, .c (.p (.u _)), by rw [key h1 h2, u64_wrap_toNat]⟩
      · cases h
    · cases h
  · rename_i y
    cases hx; rename_i hx; cases hx; rename_i hx; cases hx
    split at h
    · rename_i ti h1
      split at h
      · rename_i h2
        simp only [Option.some.injEq, Prod.mk.injEq] at h
        obtain ⟨-, rfl⟩ := h
        exact ⟨_, .c (.p (.i _)), by rw [key h1 h2, i64_w, tb.O.eq]⟩
      · rename_i h2
        simp only [Option.some.injEq, Prod.mk.injEq] at h
        obtain ⟨-, rfl⟩ := h
        exact ⟨_, .c (.p (.u _)), by rw [key h1 h2, toNat_wrap_u64, tb.O.eq]⟩
      · cases h
    · cases h
  · cases h

theorem alike_alloc (w : World) (ob : Obj) : Alike w (w.alloc ob) := ⟨rfl, rfl, rfl, by simp⟩

theorem sound_box (hs : Sat B Z V st a w) (hd : ∀ d, o.dst = some d → d < st.nt) {E : Eff} {cs : List Cel} {vs : List Value} (hv : CelsOk Z V vs cs) (T : TypeId)
    (he : E.ea = .new [.cells cs T]) (hval : E.val = some (.a (.c (.ptr st.next 0))))
    (hrun : (execOp a.eval o).run P w = .ok (.value (.pointer (some ⟨w.heap.size, 0, none⟩))) (w.alloc (.cells vs.toArray T))) : Sound P B Z V st a w o E := by
  intro K Q g hg hK
  have hle := Vl.le_set (d := ⟨w.heap.size, none, 0⟩) (hs.fresh st.next (Nat.le_refl _))
  obtain ⟨h1, h2⟩ := hs.add (.cells cs T) ⟨w.heap.size, none, 0⟩ (alike_alloc w _) (fun k hk => heap_alloc_old w _ k hk) ⟨vs, hv.mono (Zs.le_refl Z) hle, heap_alloc_new w _⟩ (fun k hk => by
    simp only [Ent.blk, Option.some.injEq] at hk
    omega)
  refine wp_value hrun (hK _ _ _ _ (Zs.le_refl Z) h2 ?_)
  unfold St.app
  rw [he, hval]
  exact h1.put o.dst g _ _ hd (fun s h _ => by
    obtain rfl := Option.some.inj h
    exact .a (.c (.ptr (Vl.set_same _ _ _)))) (fun s _ h => by rw [hg] at h; cases h)

/-- entities are never written again from here on -/
theorem Sat.freeze (hs : Sat B Z V st a w) (ids : List Nat) : Sat B (Z.plus w (isBlk st.ents V (· ∈ ids))) V { st with ents := delAll ids st.ents } a w ∧ Z.le (Z.plus w (isBlk st.ents V (· ∈ ids))) := by
  have hle := hs.toEnvOk.plus_le (· ∈ ids)
  refine ⟨hs.mem hle (Vl.le_refl V) _ _ ⟨fun e x hx => ?_, fun e e' x x' d d' k hne h1 h2 => ?_, hs.toEnvOk.plus_frz _, hs.frame, fun k cs hk hlt hF => ?_, Zs.le_trans hs.zl hle⟩ hs.fresh, hle⟩
  · rw [lookup_delAll] at hx
    split at hx
    · cases hx
    · rename_i hne
      obtain ⟨d, h1, h2, h3⟩ := hs.ents e x hx
      refine ⟨d, h1, Ent.ok_mono hle (Vl.le_refl V) h2, fun k hk => ⟨(h3 k hk).1, ?_⟩⟩
      unfold Zs.plus
      rw [if_neg]
      · exact (h3 k hk).2
      · rintro ⟨e', y, d', g1, g2, g3, g4⟩
        refine hs.apart e e' x y d d' k (fun he => ?_) hx g2 h1 g3 hk g4
        subst he
        exact hne (by simpa using g1)
  · rw [lookup_delAll] at h1 h2
    split at h1
    · cases h1
    · split at h2
      · cases h2
      · exact hs.apart e e' x x' d d' k hne h1 h2
  · unfold Zs.plus at hk
    split at hk
    · rename_i hb
      obtain ⟨e, y, d, g1, g2, g3, g4⟩ := hb
      obtain ⟨d', q1, _, q3⟩ := hs.ents e y g2
      rw [g3] at q1
      obtain rfl := Option.some.inj q1
      rcases (q3 k g4).1 with h | h
      · exact absurd h hF
      · omega
    · exact hs.zn k cs hk hlt hF

theorem Sat.ents_eq {st' : St} (hs : Sat B Z V st a w) (h1 : st'.slots = st.slots) (h2 : ∀ e, st'.ents.lookup e = st.ents.lookup e) (h3 : st'.next = st.next) (h4 : st'.nt = st.nt) : Sat B Z V st' a w :=
  ⟨hs.toEnvOk.sub fun e x hx => by rw [h2] at hx; exact hx, hs.defers, hs.size.trans h4.symm, h1 ▸ hs.slots, h1 ▸ hs.off, h3 ▸ hs.fresh⟩

theorem Alike.refl (w : World) : Alike w w := ⟨rfl, rfl, rfl, Nat.le_refl _⟩

theorem store_cells_run {tb : Tb} (htb : TbOk P tb) {T : TypeId} {ti : TI} (h1 : tb.tab.lookup T = some ti) {y : Value} (hy : y.cells.size = ti.size) {ad : Addr} {w' : World} (h : (storeCells ad y.cells.toList).run P w = .ok () w') :
    (Instr.storeAt T (.pointer (some ad)) y).run P w = .ok () w' := by
  simp only [Instr.storeAt, Instr.sureAddr, storeVar, Sem.run_bind, Sem.run_pure, Result.andThen_ok, run_sizeOf (htb.tab _ _ h1)]
  simp [hy, h]

theorem flat_set {n : Nat} {rows : List (List Pl)} {i : Nat} {k : Nat} {ps : List Pl} (ht : ∀ r ∈ rows, r.length = n) (hi : i < rows.length) (hk : k + ps.length ≤ n) :
    (rows.set i ((rows.getD i []).take k ++ ps ++ (rows.getD i []).drop (k + ps.length))).flatten = rows.flatten.take (i * n + k) ++ ps ++ rows.flatten.drop (i * n + k + ps.length) := by
  have hg : rows.getD i [] = rows[i] := by rw [List.getD_eq_getElem?_getD, List.getElem?_eq_getElem hi]; rfl
  have hr : rows[i].length = n := ht _ (List.getElem_mem hi)
  rw [hg, List.set_eq_take_append_cons_drop, if_pos hi]
  simp only [List.flatten_append, List.flatten_cons]
  have h1 : rows.flatten = (rows.take i).flatten ++ rows[i] ++ (rows.drop (i + 1)).flatten := by
    have h0 : rows = rows.take i ++ rows[i] :: rows.drop (i + 1) := by rw [← List.drop_eq_getElem_cons hi, List.take_append_drop]
    have := congrArg List.flatten h0
    rw [List.flatten_append, List.flatten_cons] at this
    rw [List.append_assoc]; exact this
  have h2 : (rows.take i).flatten.length = i * n := by
    rw [flatten_length (n := n) (fun r hr => ht r (List.mem_of_mem_take hr)), List.length_take]
    congr 1; omega
  rw [h1]
  have e1 : ((rows.take i).flatten ++ rows[i] ++ (rows.drop (i + 1)).flatten).take (i * n + k) = (rows.take i).flatten ++ rows[i].take k := by
    rw [List.append_assoc, List.take_append, h2, List.take_of_length_le (by omega), Nat.add_sub_cancel_left, List.take_append_of_le_length (by omega)]
  have e2 : ((rows.take i).flatten ++ rows[i] ++ (rows.drop (i + 1)).flatten).drop (i * n + k + ps.length) = rows[i].drop (k + ps.length) ++ (rows.drop (i + 1)).flatten := by
    rw [List.append_assoc, List.drop_append, h2, List.drop_eq_nil_of_le (by omega), List.nil_append, show i * n + k + ps.length - i * n = k + ps.length by omega, List.drop_append_of_le_length (by omega)]
  rw [e1, e2]
  simp

theorem splice_take {L Y : List Value} {A m : Nat} (h1 : A + Y.length ≤ m) (h2 : m ≤ L.length) : (L.take A ++ Y ++ L.drop (A + Y.length)).take m = (L.take m).take A ++ Y ++ (L.take m).drop (A + Y.length) := by
  have e1 : L.take A = (L.take m).take A := by rw [List.take_take, Nat.min_eq_left (by omega)]
  have e2 : L.drop (A + Y.length) = (L.take m).drop (A + Y.length) ++ L.drop m := by
    conv => lhs; rw [← List.take_append_drop m L]
    rw [List.drop_append, List.length_take, Nat.min_eq_left h2, show A + Y.length - m = 0 by omega, List.drop_zero]
  rw [e2, ← List.append_assoc, ← e1, List.take_left']
  simp only [List.length_append, List.length_take, List.length_drop]
  omega

theorem rset_typed {ks : List Kd} {rows : List (List Pl)} {i : Int} {k : Nat} {ps : List Pl} (ht : typed ks rows) (h0 : 0 ≤ i) (h1 : i < rows.length) (hp : ps.map Pl.kd = (ks.drop k).take ps.length) : typed ks (rset rows i k ps) := by
  intro r hr
  unfold rset at hr
  rcases List.mem_or_eq_of_mem_set hr with h | h
  · exact ht r h
  · subst h
    have hlt : i.toNat < rows.length := by omega
    have hg : rows.getD i.toNat [] = rows[i.toNat] := by rw [List.getD_eq_getElem?_getD, List.getElem?_eq_getElem hlt]; rfl
    have hr := ht _ (List.getElem_mem hlt)
    rw [hg]
    simp only [List.map_append, List.map_take, List.map_drop, hr, hp]
    rw [← List.drop_drop, List.append_assoc, List.take_append_drop, List.take_append_drop]

theorem effStore_sound (htb : TbOk P cx.toTb) (hs : Sat B Z V st a w) (hd : ∀ d, o.dst = some d → d < st.nt) {T : TypeId} {p x : Operand} (hop : o.op = .store T p x)
    {c d : Prop} {pv xv : AV} (hp : rd st.ov p = some (c, pv)) (hx : rd st.ov x = some (d, xv)) (hc : c) (hdd : d) {E E' : Eff}
    (h : effStore cx.toTb (fun e => st.ents.lookup e) T pv xv = some E') (hc' : E'.c) (hE : E.ea = E'.ea) (hEv : E.val = E'.val) : Sound P B Z V st a w o E := by
  have hu1 := rd_sound hs hp hc
  have hy1 := rd_sound hs hx hdd
  unfold effStore at h
  split at h
  · rename_i e k ti h1
    split at h
    · rename_i cs t h2
      split at h
      · rename_i hlen
        obtain ⟨hl1, hl2⟩ := hlen
        obtain rfl := Option.some.inj h
        obtain ⟨dd, hV, ⟨vs, hv, hblk⟩, _⟩ := hs.ents e _ h2
        generalize a.eval p = u at hu1
        generalize hyy : a.eval x = y at hy1
        obtain ⟨rfl⟩ : u = .pointer (some ⟨dd.blk, k, none⟩) := by
          cases hu1; rename_i hu1; cases hu1; rename_i hu1
          rw [hV] at hu1; obtain rfl := Option.some.inj hu1; rfl
        have hcy := hy1.cells
        have hylen := hcy.length
        have hvl := hv.length
        have hrun := run_storeCells_at (P := P) dd.blk k t y.cells.toList 0 vs.toArray w hblk (by simp only [List.size_toArray]; omega) hcy.one
        simp only [Nat.add_zero] at hrun
        have hu2 : a.eval p = .pointer (some ⟨dd.blk, k, none⟩) := by
          have := rd_sound hs hp hc
          cases hu3 : a.eval p <;> rw [hu3] at this <;> (try (cases this; rename_i this; cases this; done))
          cases this; rename_i this; cases this; rename_i this
          rw [hV] at this; obtain rfl := Option.some.inj this; rfl
        intro K Q g hg hK
        have hex : (execOp a.eval o).run P w = .ok .skip (w.setRow dd.blk (vs.take k ++ y.cells.toList ++ vs.drop (k + y.cells.toList.length)).toArray) := by
          simp only [execOp, hop, hu2, hyy, Sem.run_bind]
          rw [store_cells_run htb h1 (by simpa using hylen.trans hl1) hrun]
          rfl
        refine wp_skip_ hex (hK Z V _ _ (Zs.le_refl Z) (Vl.le_refl V) ?_)
        unfold St.app
        rw [hE, hEv]
        have hnew : Sat B Z V { st with ents := setK e (.cells (cs.take k ++ xv.cells ++ cs.drop (k + ti.size)) t) st.ents } a (w.setRow dd.blk (vs.take k ++ y.cells.toList ++ vs.drop (k + y.cells.toList.length)).toArray) := by
          refine hs.turn h2 hV ⟨rfl, rfl, rfl, by simp [World.setRow]⟩ (fun j hj => setRow_other w dd.blk j _ (fun hjj => hj (by simp [Ent.blk, hjj]))) rfl ?_
          refine ⟨vs.take k ++ y.cells.toList ++ vs.drop (k + y.cells.toList.length), ?_, setRow_heap w dd.blk vs.toArray _ t (0, 0) hblk⟩
          rw [hylen, hl1]
          exact ((hv.take k).append hcy).append (hv.drop _)
        have hnew' : Sat B Z V (st.ea (.upd [] [(e, .cells (cs.take k ++ xv.cells ++ cs.drop (k + ti.size)) t)] [])) a (w.setRow dd.blk (vs.take k ++ y.cells.toList ++ vs.drop (k + y.cells.toList.length)).toArray) := by
          refine hnew.ents_eq rfl (fun e' => ?_) rfl rfl
          simp only [St.ea, addEnts, putAll, lookup_setK, lookup_delAll]
          split <;> simp
        exact hnew'.put o.dst g none undef hd (fun s h => by cases h) (fun s h => by cases h)
      · cases h
    · cases h
  · rename_i e sz i k ti h1
    split at h
    · rename_i t ks rows c0 ids ps h2 h3
      split at h
      · rename_i hcond
        obtain ⟨hsz, hpl, hkt, hkd, hne⟩ := hcond
        obtain rfl := Option.some.inj h
        obtain ⟨hc0, hci⟩ := hc'
        rw [cx.O.eq] at hci
        obtain ⟨hs', hle⟩ := hs.freeze ids
        have hcy := frzL_sound hs.toEnvOk hle hy1.cells h3 hc0 (zhas_plus ids)
        have h2' : (delAll ids st.ents).lookup e = some (.own t ks rows) := by
          rw [lookup_delAll, if_neg (by rw [hne]; exact Bool.false_ne_true)]; exact h2
        obtain ⟨dd, vs, hV, ht, hv, ho, hcap, _⟩ := hs'.toEnvOk.own h2'
        generalize hyy : a.eval x = y at hy1 hcy
        rcases ho.2 with ⟨_, hn⟩ | ⟨gb, cap, cur, e1, e2, e3, e4, e5, e6, e7⟩
        · omega
        injection e1 with e8 e9 e10
        have hu2 : a.eval p = .pointer (some ⟨gb, i.toNat * ks.length + k, none⟩) := by
          have := hu1
          generalize a.eval p = u at this
          cases this; rename_i this; cases this; rename_i d2 ad q2 q1
          rw [hV] at q1; obtain rfl := Option.some.inj q1
          rw [e8] at q2
          obtain rfl := Option.some.inj q2
          rw [Addr.add_lit, hsz, Nat.zero_add]
        have hylen := hcy.length
        have hvl := hv.length
        rw [flatten_length (typed_length ht)] at hvl
        have hin : i.toNat * ks.length + ks.length ≤ rows.length * ks.length := by
          have : (i.toNat + 1) * ks.length ≤ rows.length * ks.length := Nat.mul_le_mul_right _ (by omega)
          rw [Nat.succ_mul] at this; exact this
        have hcs : rows.length * ks.length ≤ cap * ks.length := Nat.mul_le_mul_right _ e4
        have hrun := run_storeCells_at (P := P) gb (i.toNat * ks.length + k) t y.cells.toList 0 cur w e3 (by omega) hcy.one
        simp only [Nat.add_zero] at hrun
        intro K Q g hg hK
        have hex : (execOp a.eval o).run P w = .ok .skip (w.setRow gb (cur.toList.take (i.toNat * ks.length + k) ++ y.cells.toList ++ cur.toList.drop (i.toNat * ks.length + k + y.cells.toList.length)).toArray) := by
          simp only [execOp, hop, hu2, hyy, Sem.run_bind]
          rw [store_cells_run htb h1 (by simpa using hylen.trans hpl) hrun]
          rfl
        refine wp_skip_ hex (hK _ V _ _ hle (Vl.le_refl V) ?_)
        unfold St.app
        rw [hE, hEv]
        have hrs : rset rows i k ps = rows.set i.toNat ((rows.getD i.toNat []).take k ++ ps ++ (rows.getD i.toNat []).drop (k + ps.length)) := rfl
        have htr := rset_typed ht hci.1 hci.2 (by rw [kdsb_eq hkd, hpl])
        have hlr : (rset rows i k ps).length = rows.length := by rw [hrs, List.length_set]
        have hnew : Sat B (Z.plus w (isBlk st.ents V (· ∈ ids))) V { st with ents := setK e (.own t ks (rset rows i k ps)) (delAll ids st.ents) } a (w.setRow gb (cur.toList.take (i.toNat * ks.length + k) ++ y.cells.toList ++ cur.toList.drop (i.toNat * ks.length + k + y.cells.toList.length)).toArray) := by
          refine hs'.turn (st := { st with ents := delAll ids st.ents }) h2' hV ⟨rfl, rfl, rfl, by simp [World.setRow]⟩ (fun j hj => setRow_other w gb j _ (fun hjj => hj (by simp [Ent.blk, hjj, e8]))) rfl ?_
          refine ⟨htr, vs.take (i.toNat * ks.length + k) ++ y.cells.toList ++ vs.drop (i.toNat * ks.length + k + ps.length), ?_, ?_⟩
          · rw [hrs, flat_set (n := ks.length) (rows := rows) (i := i.toNat) (k := k) (ps := ps) (typed_length ht) (by omega) (by omega)]
            exact ((hv.take _).append hcy).append (hv.drop _)
          · rw [hlr]
            refine ⟨by simp only [List.length_append, List.length_take, List.length_drop]; omega, .inr ⟨gb, cap, _, by rw [e8, ← e10], e2, setRow_heap w gb cur _ t (0, 0) e3, e4, e5, ?_, ?_⟩⟩
            · have hcl : cur.toList.length = cap * ks.length := by simpa using e6
              simp only [List.size_toArray, List.length_append, List.length_take, List.length_drop, hcl]
              rw [Nat.min_eq_left (by omega)]
              omega
            · have hcl : cur.toList.length = cap * ks.length := by simpa using e6
              subst e7
              rw [← hylen]
              exact splice_take (by omega) (by omega)
        have hnew' : Sat B (Z.plus w (isBlk st.ents V (· ∈ ids))) V (st.ea (.upd ids [(e, .own t ks (cx.O.th fun _ => rset rows i k ps))] [])) a (w.setRow gb (cur.toList.take (i.toNat * ks.length + k) ++ y.cells.toList ++ cur.toList.drop (i.toNat * ks.length + k + y.cells.toList.length)).toArray) := by
          rw [cx.O.eq]
          exact hnew
        exact hnew'.put o.dst g none undef hd (fun s h => by cases h) (fun s h => by cases h)
      · cases h
    · cases h
  · cases h

end
end Go.Vx

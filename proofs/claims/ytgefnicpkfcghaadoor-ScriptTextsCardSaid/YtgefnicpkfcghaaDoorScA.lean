/-
  append of a whole script to one of the call's own; parts of a script; one operation set. No condition.
-/
import Derived.Laws.AppendOwnNone
import Derived.Test.YtgefnicpkfcghaaDoorScK
namespace Go.Proofs.YtgefnicpkfcghaaDoor
open Go.RowKit
set_option linter.unusedVariables false
set_option linter.unusedSimpArgs false

theorem own_of_none {w : World} {base : Nat} {t ty e : TypeId} {i : TypeInfo} {size n c : Nat} {v : Value} {xs : List Value} (ht : Tryd.prog.underlying t = some (.slice e)) (hi : Tryd.prog.info? e = some i) (hown : w.ownsRow base e size v n xs) :
    (Builtin.append_ #[t, t] ty #[v, .slice none 0 c]).run Tryd.prog w = .ok v w := by
  rcases hown.2 with ⟨rfl, rfl⟩ | ⟨g, cap, cur, rfl, _, _, hnc, _⟩
  · simp [Builtin.append_, run_underlying ht, sizeOf, typeInfo, hi, Builtin.lenOf, Builtin.firstCells]
  · simp [Builtin.append_, run_underlying ht, sizeOf, typeInfo, hi, Builtin.lenOf, Builtin.firstCells, hnc, storeCells]
theorem cells_one (xs : List O) : ∀ u ∈ xs.flatMap O.cells, u.oneCell' = true := by
  intro u hu
  obtain ⟨x, _, hx⟩ := List.mem_flatMap.1 hu
  simp only [O.cells, List.mem_cons, List.mem_nil_iff, or_false] at hx
  rcases hx with rfl | rfl | rfl | rfl | rfl | rfl | rfl <;> rfl
theorem cells_len : ∀ xs : List O, (xs.flatMap O.cells).length = xs.length * 7
  | [] => rfl
  | x :: xs => by
    rw [List.flatMap_cons, List.length_append, cells_len xs, List.length_cons]
    simp only [O.cells, List.length_cons, List.length_nil]
    omega
theorem op_cell {w : World} {A : Option Addr} {xs : List O} (h : OpsAt w A xs) (hx : xs ≠ []) : ∃ b off, A = some ⟨b, off, none⟩ ∧ ∀ (j : Nat) (u : Value), (xs.flatMap O.cells)[j]? = some u → w.cell? (Addr.add ⟨b, off, none⟩ j) = some u := by
  obtain ⟨x, xs, rfl⟩ := List.exists_cons_of_ne_nil hx
  obtain ⟨b, off, hA, _⟩ := h 0 x.cells rfl
  refine ⟨b, off, hA, fun j u hj => ?_⟩
  rw [List.flatMap_def] at hj
  have hlen : ((List.map O.cells (x :: xs)).flatten).length = (x :: xs).length * 7 := by
    rw [← List.flatMap_def]
    exact cells_len _
  have hjl := (List.getElem?_eq_some_iff.1 hj).1
  have hi : j / 7 < (x :: xs).length := by omega
  have hr : (List.map O.cells (x :: xs))[j / 7]? = some ((x :: xs)[j / 7]).cells := by rw [List.getElem?_map, List.getElem?_eq_getElem hi]; rfl
  have hf := flat_get (k := 7) (List.map O.cells (x :: xs)) (j / 7) (j % 7) _ (fun r hr => by obtain ⟨y, _, rfl⟩ := List.mem_map.1 hr; rfl) (Nat.mod_lt _ (by decide)) hr
  rw [show j / 7 * 7 + j % 7 = j from by omega, hj] at hf
  obtain ⟨b', off', hA', _, hc⟩ := h (j / 7) _ hr
  rw [hA] at hA'
  injection hA' with hA'
  injection hA' with e1 e2 _
  subst e1
  subst e2
  have := hc (j % 7) u hf.symm
  rw [add_eq]
  rw [show off + j / 7 * 7 + j % 7 = off + j from by omega] at this
  exact this

theorem append_ops {w : World} {ops : Array Oper} {rest : List Oper} {o : Oper} {a : Act} {Q : Exit → Act → World → Prop} (hgd : o.guard = none) (s x : Operand)
    (ho : o.op = .call { callee := .builtin .append, args := #[s, x], argTypes := #[37, 37] }) (base : Nat) (v : Value) (ls : List O) (hs : a.eval s = v) (hown : OwnO w base v ls)
    (A : Option Addr) (c : Nat) (xs : List O) (hx : a.eval x = .slice A xs.length c) (hA : OpsAt w A xs) (hlen : ls.length + xs.length ≤ 1000000) (hbase : base ≤ w.heap.size)
    (h : ∀ v' w', OwnO w' base v' (ls ++ xs) → Below base w w' → wpList Tryd.prog ops Q rest (a.put o.dst v') w') : wpList Tryd.prog ops Q (o :: rest) a w := by
  obtain ⟨i0, hi, hz0, hz1, hz2⟩ := info_parts infoO
  by_cases hn : A = none
  · subst hn
    have hx0 : xs = [] := by
      cases xs with
      | nil => rfl
      | cons y ys =>
        obtain ⟨b, off, hA', _⟩ := hA 0 y.cells rfl
        cases hA'
    subst hx0
    refine wpList_plain hgd fun K hK => ?_
    have hrun := own_of_none (c := c) (ty := o.type) Tryd.underlying37 hi hown
    unfold Oper.wp
    simp only [List.length_nil] at hx
    simp [execOp, ho, resolve, invoke, builtin, hs, hx, hrun, Result.andThen]
    exact hK _ _ (h _ _ (by rw [List.append_nil]; exact hown) (Below.refl _ _))
  · obtain ⟨ad, had⟩ := Option.ne_none_iff_exists'.1 hn
    subst had
    have hnews : ∀ (j : Nat) (u : Value), (xs.flatMap O.cells)[j]? = some u → w.cell? (ad.add j) = some u := by
      by_cases hx0 : xs = []
      · subst hx0
        intro j u hj
        simp at hj
      · obtain ⟨b, off, hA', hc⟩ := op_cell hA hx0
        injection hA' with hA'
        subst hA'
        exact hc
    have hl := cells_len xs
    refine wpList_append_own w hgd s x 37 ho base 24 i0 _ 7 64 Tryd.underlying37 hi hz0 hz1 hz2 rfl (by decide) v ls.length _ hs hown ad xs.length c _ hx hl hnews (cells_one xs) (by unfold maxLen; omega) (by omega) hbase ?_
    intro v' w' h1 h2 _
    refine h v' w' ?_ (below_grown (Below.refl base w) h2 (own_block hown) hbase)
    unfold OwnO
    rw [List.length_append, List.flatMap_append]
    exact h1

theorem ops_take {w : World} {A : Option Addr} {xs : List O} (h : OpsAt w A xs) (k : Nat) : OpsAt w A (xs.take k) := by
  intro i r hr
  refine h i r ?_
  rw [List.map_take, List.getElem?_take] at hr
  split at hr
  · exact hr
  · cases hr
theorem ops_drop {w : World} {b off : Nat} {xs : List O} (h : OpsAt w (some ⟨b, off, none⟩) xs) (k : Nat) : OpsAt w (some ⟨b, off + k * 7, none⟩) (xs.drop k) := by
  intro i r hr
  rw [List.map_drop, List.getElem?_drop] at hr
  obtain ⟨b', off', hA, hlt, hc⟩ := h (k + i) r hr
  injection hA with hA
  injection hA with e1 e2 _
  subst e1 e2
  refine ⟨b, off + k * 7, rfl, hlt, fun j v hv => ?_⟩
  have := hc j v hv
  rw [show off + (k + i) * 7 + j = off + k * 7 + i * 7 + j from by omega] at this
  exact this

def set7 (W : World) (g o : Nat) (x : O) : World := ((((((W.setCell ⟨g, o, none⟩ (.int .i64 x.k)).setCell ⟨g, o + 1, none⟩ (.int .i64 x.co)).setCell ⟨g, o + 2, none⟩ (.int .i64 x.n)).setCell ⟨g, o + 3, none⟩ (.int .i64 x.p)).setCell ⟨g, o + 4, none⟩ (.int .i64 x.s)).setCell ⟨g, o + 5, none⟩ (.int .u32 x.m)).setCell ⟨g, o + 6, none⟩ (.string x.w)
theorem set7_blk' {W : World} {g o : Nat} {t : TypeId} {cur : Array Value} (h : Blk W g t cur) (x : O) : Blk (set7 W g o x) g t (((((((cur.setIfInBounds o (.int .i64 x.k)).setIfInBounds (o + 1) (.int .i64 x.co)).setIfInBounds (o + 2) (.int .i64 x.n)).setIfInBounds (o + 3) (.int .i64 x.p)).setIfInBounds (o + 4) (.int .i64 x.s)).setIfInBounds (o + 5) (.int .u32 x.m)).setIfInBounds (o + 6) (.string x.w)) :=
  ((((((h.set_ _ _).set_ _ _).set_ _ _).set_ _ _).set_ _ _).set_ _ _).set_ _ _
set_option maxHeartbeats 4000000 in
theorem set7_cell {W : World} {g o : Nat} {t : TypeId} {cur : Array Value} (h : Blk W g t cur) (ho : o + 6 < cur.size) (x : O) :
    (∀ j v, x.cells[j]? = some v → (set7 W g o x).cell? ⟨g, o + j, none⟩ = some v) ∧ ∀ q, (q < o ∨ o + 7 ≤ q) → (set7 W g o x).cell? ⟨g, q, none⟩ = W.cell? ⟨g, q, none⟩ := by
  have hb := set7_blk' (o := o) h x
  constructor
  · intro j v hv
    rw [hb.cell]
    have hj := (List.getElem?_eq_some_iff.1 hv).1
    simp only [O.cells, List.length_cons, List.length_nil] at hj
    have h7 : j = 0 ∨ j = 1 ∨ j = 2 ∨ j = 3 ∨ j = 4 ∨ j = 5 ∨ j = 6 := by omega
    rcases h7 with rfl | rfl | rfl | rfl | rfl | rfl | rfl
    all_goals
      simp only [O.cells, List.getElem?_cons_zero, List.getElem?_cons_succ, Option.some.injEq] at hv
      subst hv
      repeat rw [Array.getElem?_setIfInBounds_ne (by omega)]
      rw [Array.getElem?_setIfInBounds, if_pos (by omega), if_pos (by first | omega | (simp only [Array.size_setIfInBounds]; omega))]
  · intro q hq
    rw [hb.cell, h.cell]
    simp only [Array.getElem?_setIfInBounds]
    rw [if_neg (by omega), if_neg (by omega), if_neg (by omega), if_neg (by omega), if_neg (by omega), if_neg (by omega), if_neg (by omega)]
theorem set7_low {B : Nat} {w W : World} {g o : Nat} (h : Below B w W) (hg : B ≤ g) (x : O) : Below B w (set7 W g o x) :=
  ((((((h.setCell (p := ⟨g, o, none⟩) hg _).setCell (p := ⟨g, o + 1, none⟩) hg _).setCell (p := ⟨g, o + 2, none⟩) hg _).setCell (p := ⟨g, o + 3, none⟩) hg _).setCell (p := ⟨g, o + 4, none⟩) hg _).setCell (p := ⟨g, o + 5, none⟩) hg _).setCell (p := ⟨g, o + 6, none⟩) hg _
attribute [local irreducible] set7
set_option maxHeartbeats 1000000 in
theorem ops_set {W : World} {g : Nat} {t : TypeId} {cur : Array Value} {xs : List O} (hB : Blk W g t cur) (hO : OpsAt W (some ⟨g, 0, none⟩) xs) (k : Nat) (hk : k < xs.length) (hc : k * 7 + 6 < cur.size) (x : O) : OpsAt (set7 W g (k * 7) x) (some ⟨g, 0, none⟩) (xs.set k x) := by
  obtain ⟨h1, h2⟩ := set7_cell (o := k * 7) hB hc x
  have hlt := (set7_blk' (o := k * 7) hB x).lt
  intro i r hr
  rw [List.getElem?_map, List.getElem?_set] at hr
  refine ⟨g, 0, rfl, hlt, fun j v hv => ?_⟩
  by_cases hki : k = i
  · subst hki
    rw [if_pos rfl, if_pos hk] at hr
    injection hr with hr
    subst hr
    have e : 0 + k * 7 + j = k * 7 + j := by omega
    rw [e]
    exact h1 j v hv
  · rw [if_neg hki] at hr
    have hj : j < 7 := by
      cases hx : xs[i]? with
      | none => rw [hx] at hr; cases hr
      | some y =>
        rw [hx] at hr
        injection hr with hr
        have hj := (List.getElem?_eq_some_iff.1 hv).1
        rw [← hr] at hj
        simpa [O.cells] using hj
    have e2 : (set7 W g (k * 7) x).cell? ⟨g, 0 + i * 7 + j, none⟩ = W.cell? ⟨g, 0 + i * 7 + j, none⟩ := h2 (0 + i * 7 + j) (by omega)
    rw [e2]
    obtain ⟨b', off', hA, _, hcc⟩ := hO i r (by rw [List.getElem?_map]; exact hr)
    injection hA with hA
    injection hA with e1 e2 _
    subst e1 e2
    exact hcc j v hv
end Go.Proofs.YtgefnicpkfcghaaDoor

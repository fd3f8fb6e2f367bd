/-
  append of a whole list of what is observed to one of the call's own. No condition.
-/
import Derived.Laws.AppendOwnNone
import Derived.Test.YtpcaeggecojaeaaDoorTrTxt
namespace Go.Proofs.YtpcaeggecojaeaaDoor
open Go.RowKit
set_option linter.unusedVariables false
set_option linter.unusedSimpArgs false

theorem own_of_none {w : World} {base : Nat} {t ty e : TypeId} {i : TypeInfo} {size n c : Nat} {v : Value} {xs : List Value} (ht : Tryd.prog.underlying t = some (.slice e)) (hi : Tryd.prog.info? e = some i) (hown : w.ownsRow base e size v n xs) :
    (Builtin.append_ #[t, t] ty #[v, .slice none 0 c]).run Tryd.prog w = .ok v w := by
  rcases hown.2 with ⟨rfl, rfl⟩ | ⟨g, cap, cur, rfl, _, _, hnc, _⟩
  · simp [Builtin.append_, run_underlying ht, sizeOf, typeInfo, hi, Builtin.lenOf, Builtin.firstCells]
  · simp [Builtin.append_, run_underlying ht, sizeOf, typeInfo, hi, Builtin.lenOf, Builtin.firstCells, hnc, storeCells]
theorem cells_one (xs : List S) : ∀ u ∈ xs.flatMap S.cells, u.oneCell' = true := by
  intro u hu
  obtain ⟨x, _, hx⟩ := List.mem_flatMap.1 hu
  simp only [S.cells, List.mem_cons, List.mem_nil_iff, or_false] at hx
  rcases hx with rfl | rfl | rfl | rfl <;> rfl
theorem cells_len : ∀ xs : List S, (xs.flatMap S.cells).length = xs.length * 4
  | [] => rfl
  | x :: xs => by
    rw [List.flatMap_cons, List.length_append, cells_len xs, List.length_cons]
    simp only [S.cells, List.length_cons, List.length_nil]
    omega
theorem seen_cell {w : World} {A : Option Addr} {xs : List S} (h : SeenAt w A xs) (hx : xs ≠ []) : ∃ b off, A = some ⟨b, off, none⟩ ∧ ∀ (j : Nat) (u : Value), (xs.flatMap S.cells)[j]? = some u → w.cell? (Addr.add ⟨b, off, none⟩ j) = some u := by
  obtain ⟨x, xs, rfl⟩ := List.exists_cons_of_ne_nil hx
  obtain ⟨b, off, hA, _⟩ := h 0 x.cells rfl
  refine ⟨b, off, hA, fun j u hj => ?_⟩
  rw [List.flatMap_def] at hj
  have hlen : ((List.map S.cells (x :: xs)).flatten).length = (x :: xs).length * 4 := by
    rw [← List.flatMap_def]
    exact cells_len _
  have hjl := (List.getElem?_eq_some_iff.1 hj).1
  have hi : j / 4 < (x :: xs).length := by omega
  have hr : (List.map S.cells (x :: xs))[j / 4]? = some ((x :: xs)[j / 4]).cells := by rw [List.getElem?_map, List.getElem?_eq_getElem hi]; rfl
  have hf := flat_get (k := 4) (List.map S.cells (x :: xs)) (j / 4) (j % 4) _ (fun r hr => by obtain ⟨y, _, rfl⟩ := List.mem_map.1 hr; rfl) (Nat.mod_lt _ (by decide)) hr
  rw [show j / 4 * 4 + j % 4 = j from by omega, hj] at hf
  obtain ⟨b', off', hA', _, hc⟩ := h (j / 4) _ hr
  rw [hA] at hA'
  injection hA' with hA'
  injection hA' with e1 e2 _
  subst e1
  subst e2
  have := hc (j % 4) u hf.symm
  rw [add_eq]
  rw [show off + j / 4 * 4 + j % 4 = off + j from by omega] at this
  exact this

theorem append_seen {w : World} {ops : Array Oper} {rest : List Oper} {o : Oper} {a : Act} {Q : Exit → Act → World → Prop} (hgd : o.guard = none) (s x : Operand)
    (ho : o.op = .call { callee := .builtin .append, args := #[s, x], argTypes := #[22, 22] }) (base : Nat) (v : Value) (ls : List S) (hs : a.eval s = v) (hown : OwnS w base v ls)
    (A : Option Addr) (c : Nat) (xs : List S) (hx : a.eval x = .slice A xs.length c) (hA : SeenAt w A xs) (hlen : ls.length + xs.length ≤ 1000000) (hbase : base ≤ w.heap.size)
    (h : ∀ v' w', OwnS w' base v' (ls ++ xs) → Below base w w' → wpList Tryd.prog ops Q rest (a.put o.dst v') w') : wpList Tryd.prog ops Q (o :: rest) a w := by
  obtain ⟨i0, hi, hz0, hz1, hz2⟩ := info_parts infoS
  by_cases hn : A = none
  · subst hn
    have hx0 : xs = [] := by
      cases xs with
      | nil => rfl
      | cons y ys =>
        obtain ⟨b, off, hA', _⟩ := hA 0 y.cells rfl
        cases hA'
    subst hx0
    refine wpList_plain hgd fun K hK => ?_
    have hrun := own_of_none (c := c) (ty := o.type) Tryd.underlying22 hi hown
    unfold Oper.wp
    simp only [List.length_nil] at hx
    simp [execOp, ho, resolve, invoke, builtin, hs, hx, hrun, Result.andThen]
    exact hK _ _ (h _ _ (by rw [List.append_nil]; exact hown) (Below.refl _ _))
  · obtain ⟨ad, had⟩ := Option.ne_none_iff_exists'.1 hn
    subst had
    have hnews : ∀ (j : Nat) (u : Value), (xs.flatMap S.cells)[j]? = some u → w.cell? (ad.add j) = some u := by
      by_cases hx0 : xs = []
      · subst hx0
        intro j u hj
        simp at hj
      · obtain ⟨b, off, hA', hc⟩ := seen_cell hA hx0
        injection hA' with hA'
        subst hA'
        exact hc
    have hl := cells_len xs
    refine wpList_append_own w hgd s x 22 ho base 27 i0 _ 4 32 Tryd.underlying22 hi hz0 hz1 hz2 rfl (by decide) v ls.length _ hs hown ad xs.length c _ hx hl hnews (cells_one xs) (by unfold maxLen; omega) (by omega) hbase ?_
    intro v' w' h1 h2 _
    refine h v' w' ?_ (below_grown (Below.refl base w) h2 (own_block hown) hbase)
    unfold OwnS
    rw [List.length_append, List.flatMap_append]
    exact h1
end Go.Proofs.YtpcaeggecojaeaaDoor

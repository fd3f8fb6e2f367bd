/-
  append([]byte{}, b...): bytes of another's in a block of their own. Condition: the bytes can be read.
-/
import Derived.Test.YtoglmemmdolbmaaDoorCo2
import Derived.Test.YtoglmemmdolbmaaDoorIsBy
namespace Go.Proofs.YtoglmemmdolbmaaDoor
open Go.RowKit
set_option linter.unusedVariables false
set_option linter.unusedSimpArgs false

theorem run_append_none {w : World} (g : Addr) (c : Nat) (ty : TypeId) : (Builtin.append_ #[43, 43] ty #[.slice (some g) 0 0, .slice none 0 c]).run Tryd.prog w = .ok (.slice (some g) 0 0) w := by
  have h1 := Tryd.sizeOf5
  simp only [Builtin.append_]
  go_simp
theorem flat_mapG (l : List Int) : l.flatMap B.bC = l.map (fun n => Value.int .u8 n) := by
  induction l with
  | nil => rfl
  | cons a r ih => rw [List.flatMap_cons, List.map_cons, ih]; rfl
theorem rowB_ofG {w : World} {base : Nat} {v : Value} {l : List Int} (h : B.OwnB w base v l) (hne : l ≠ []) : ∃ A Bk c, v = .slice A l.length c ∧ RowB w A Bk l ∧ base ≤ Bk ∧ Bk < w.heap.size ∧ l.length ≤ c := by
  have hpos : l.length ≠ 0 := fun h => hne (List.length_eq_zero_iff.1 h)
  obtain ⟨_, ⟨_, h0⟩ | ⟨g, cap, cur, hv, hb, hg, hc, _, hs, ht⟩⟩ := h
  · exact absurd h0 hpos
  · refine ⟨some ⟨g, 0, none⟩, g, cap, hv, fun _ => ⟨rfl, cur, hg, by omega, fun i x hx => ?_⟩, hb, (Array.getElem?_eq_some_iff.1 hg).1, hc⟩
    have hi : i < l.length := (List.getElem?_eq_some_iff.1 hx).1
    rw [flat_mapG, Nat.mul_one] at ht
    have h1 : (cur.toList.take l.length)[i]? = some (.int .u8 x) := by rw [ht, List.getElem?_map, hx]; rfl
    rw [List.getElem?_take_of_lt hi] at h1
    simpa using h1
theorem row_of_own {w : World} {base : Nat} {v : Value} {l : List Int} (h : B.OwnB w base v l) (hne : v ≠ .slice none 0 0) : ∃ Bk c, v = .slice (some ⟨Bk, 0, none⟩) l.length c ∧ RowB w (some ⟨Bk, 0, none⟩) Bk l ∧ base ≤ Bk ∧ Bk < w.heap.size ∧ l.length ≤ c := by
  have h0 := h
  obtain ⟨_, ⟨hv, _⟩ | ⟨g, cap, cur, hv, hb, hg, hc, _⟩⟩ := h
  · exact absurd hv hne
  · by_cases hl : l = []
    · subst hl
      exact ⟨g, cap, hv, fun hn => absurd rfl hn, hb, (Array.getElem?_eq_some_iff.1 hg).1, hc⟩
    · obtain ⟨A, Bk, c, h1, h2, h3, h4, h5⟩ := rowB_ofG h0 hl
      obtain ⟨hA, _⟩ := h2 hl
      subst hA
      exact ⟨Bk, c, h1, h2, h3, h4, h5⟩
set_option maxRecDepth 100000 in
theorem run_copy_bytes {w : World} {g0 : Nat} (hg : Blk w g0 5 #[]) (A : Option Addr) (c : Nat) (m : List Int) (ty : TypeId) (hA : B.BytesAt w A m) (hl : m.length ≤ 1000000) :
    ∃ Bk cap w', (Builtin.append_ #[43, 43] ty #[.slice (some ⟨g0, 0, none⟩) 0 0, .slice A m.length c]).run Tryd.prog w = .ok (.slice (some ⟨Bk, 0, none⟩) m.length cap) w' ∧ RowB w' (some ⟨Bk, 0, none⟩) Bk m ∧ m.length ≤ cap ∧ g0 ≤ Bk ∧ Bk < w'.heap.size ∧ Below g0 w w' := by
  have hlt := hg.lt
  have hown : w.ownsRow g0 5 1 (.slice (some ⟨g0, 0, none⟩) 0 0) 0 [] := ⟨rfl, .inr ⟨g0, 0, #[], rfl, Nat.le_refl _, hg, Nat.le_refl _, Nat.zero_le _, rfl, rfl⟩⟩
  cases A with
  | none =>
    have hm : m = [] := by
      cases m with
      | nil => rfl
      | cons x r =>
        obtain ⟨b, off, hn, _⟩ := B.byte_at hA (i := 0) (x := x) rfl
        cases hn
    subst hm
    exact ⟨g0, 0, w, run_append_none _ _ _, fun hn => absurd rfl hn, Nat.le_refl _, Nat.le_refl _, hlt, Below.refl _ _⟩
  | some ad =>
    obtain ⟨i0, hi, hz0, hz1, hz2⟩ := info_parts B.infoB
    have hcells : ∀ j u, (m.flatMap B.bC)[j]? = some u → w.cell? (ad.add j) = some u := fun j u hj => by
      rw [flat_mapG, List.getElem?_map] at hj
      cases hx : m[j]? with
      | none => rw [hx] at hj; cases hj
      | some x =>
        rw [hx] at hj
        obtain ⟨b, off, hn, _, hc⟩ := B.byte_at hA hx
        injection hn with hn
        subst hn
        have e : (⟨b, off, none⟩ : Addr).add j = ⟨b, off + j, none⟩ := by unfold Addr.add; split <;> simp_all
        rw [e, hc]
        exact hj
    have hlen : (m.flatMap B.bC).length = m.length * 1 := by rw [flat_mapG, List.length_map, Nat.mul_one]
    have hone : ∀ u ∈ m.flatMap B.bC, u.oneCell' = true := fun u hu => by
      rw [flat_mapG] at hu
      obtain ⟨x, _, rfl⟩ := List.mem_map.1 hu
      rfl
    obtain ⟨v', w', hr, ho, hgr, hnone⟩ := run_append_own (P := Tryd.prog) w g0 43 ty 5 i0 _ 1 1 Tryd.underlying43 hi hz0 hz1 hz2 rfl (by decide) _ 0 [] hown ad m.length c (m.flatMap B.bC) hlen hcells hone (by unfold maxLen; omega) (by omega) (Nat.le_of_lt hlt)
    rw [List.nil_append, Nat.zero_add] at ho
    obtain ⟨Bk, cap, rfl, h2, h3, h4, h5⟩ := row_of_own ho (fun e => by have := (hnone.1 e).1; cases this)
    exact ⟨Bk, cap, w', hr, h2, h5, h3, h4, B.below_grown (Below.refl _ _) hgr (fun r e => by simp [Value.ownBlock] at e; omega) (Nat.le_of_lt hlt)⟩
theorem wpList_copy_bytes {w : World} {ops : Array Oper} {rest : List Oper} {o : Oper} {a : Act} {Q : Exit → Act → World → Prop} (hgd : o.guard = none) (s x : Operand)
    (ho : o.op = .call { callee := .builtin .append, args := #[s, x], argTypes := #[43, 43] }) {g0 : Nat} (hs : a.eval s = .slice (some ⟨g0, 0, none⟩) 0 0) (hg : Blk w g0 5 #[]) (A : Option Addr) (c : Nat) (m : List Int)
    (hx : a.eval x = .slice A m.length c) (hA : B.BytesAt w A m) (hl : m.length ≤ 1000000)
    (h : ∀ Bk cap w', RowB w' (some ⟨Bk, 0, none⟩) Bk m → m.length ≤ cap → g0 ≤ Bk → Bk < w'.heap.size → Below g0 w w' → wpList Tryd.prog ops Q rest (a.put o.dst (.slice (some ⟨Bk, 0, none⟩) m.length cap)) w') : wpList Tryd.prog ops Q (o :: rest) a w := by
  obtain ⟨Bk, cap, w', hr, h2, h3, h4, h5, h6⟩ := run_copy_bytes hg A c m o.type hA hl
  refine wpList_plain hgd fun _ hK => ?_
  unfold Oper.wp execOp
  simp only [ho, resolve, invoke, builtin, Sem.run_bind, Sem.run_pure, Result.andThen_ok, List.map_toArray, List.map_cons, List.map_nil, hs, hx, hr]
  exact hK _ _ (h Bk cap w' h2 h3 h4 h5 h6)
end Go.Proofs.YtoglmemmdolbmaaDoor

/-
  Slices of rows of cells in memory, over any program: read, made, and opened where they come in. No condition.
-/
import Derived.Deep.Slices
import Derived.Deep.Fields
import Derived.Test.YtlecfdchmcghlaaIter
import Derived.Test.YtlecfdchmcghlaaClose
namespace Go.Proofs.Ytlecfdchmcghlaa
open Go.ChangeShapes Go.WideShapes Go.ChangeAt Go.RowKit Go.Deep
set_option linter.unusedVariables false

/-- A slice of rows, k cells each, in memory. -/
def RowsAt (w : World) (A : Option Addr) (k : Nat) (rows : List (List Value)) : Prop :=
  ∀ (i : Nat) (r : List Value), rows[i]? = some r → ∃ b off, A = some ⟨b, off, none⟩ ∧ b < w.heap.size ∧ ∀ (j : Nat) (v : Value), r[j]? = some v → w.cell? ⟨b, off + i * k + j, none⟩ = some v
section
variable {w w' : World} {A : Option Addr} {k : Nat} {rows : List (List Value)}
theorem RowsAt.below (h : RowsAt w A k rows) (hb : Below w.heap.size w w') : RowsAt w' A k rows := fun i r hr => by
  obtain ⟨b, off, hA, hlt, hc⟩ := h i r hr
  exact ⟨b, off, hA, Nat.lt_of_lt_of_le hlt hb.size, fun j v hv => (hb.cell (p := ⟨b, _, none⟩) hlt).trans (hc j v hv)⟩
theorem RowsAt.belowB {B : Nat} (h : RowsAt w A k rows) (hb : Below B w w') (hl : 0 < rows.length → ∀ b off, A = some ⟨b, off, none⟩ → b < B) : RowsAt w' A k rows := fun i r hr => by
  obtain ⟨b, off, hA, hlt, hc⟩ := h i r hr
  have hbB := hl (by have := (List.getElem?_eq_some_iff.1 hr).1; omega) b off hA
  exact ⟨b, off, hA, Nat.lt_of_lt_of_le hlt hb.size, fun j v hv => (hb.cell (p := ⟨b, _, none⟩) hbB).trans (hc j v hv)⟩
theorem RowsAt.but {S : Nat → Prop} (h : RowsAt w A k rows) (hb : But S w w') (hl : 0 < rows.length → ∀ b off, A = some ⟨b, off, none⟩ → ¬ S b) : RowsAt w' A k rows := fun i r hr => by
  obtain ⟨b, off, hA, hlt, hc⟩ := h i r hr
  have hlB := hb.block b hlt (hl (by have := (List.getElem?_eq_some_iff.1 hr).1; omega) b off hA)
  have hcc : ∀ k, w'.cell? ⟨b, k, none⟩ = w.cell? ⟨b, k, none⟩ := fun k => by
    unfold World.cell?
    simp only [hlB]
  exact ⟨b, off, hA, Nat.lt_of_lt_of_le hlt hb.size, fun j v hv => (hcc _).trans (hc j v hv)⟩
theorem RowsAt.alloc (h : RowsAt w A k rows) (o : Obj) : RowsAt (w.alloc o) A k rows := h.below ((Below.refl _ _).alloc (Nat.le_refl _) o)
theorem RowsAt.drewN (h : RowsAt w A k rows) (n : Nat) : RowsAt (w.drewN n) A k rows := h
theorem RowsAt.drew (h : RowsAt w A k rows) : RowsAt w.drew A k rows := h
theorem RowsAt.nil (w : World) (A : Option Addr) (k : Nat) : RowsAt w A k [] := fun i r h => by simp at h
end
theorem belowN {B : Nat} {a w : World} (h : Below B a w) (n : Nat) : Below B a (w.drewN n) := ⟨h.os, h.tape, h.output, h.size, h.block⟩

theorem flat_get {k : Nat} : ∀ (rows : List (List Value)) (i j : Nat) (r : List Value), (∀ r ∈ rows, r.length = k) → j < k → rows[i]? = some r → rows.flatten[i * k + j]? = r[j]?
  | [], i, j, r, _, _, h => by simp at h
  | y :: ys, 0, j, r, hk, hj, h => by
    simp only [List.getElem?_cons_zero, Option.some.injEq] at h
    subst h
    have := hk y (List.mem_cons_self ..)
    rw [List.flatten_cons, List.getElem?_append_left (by omega)]
    simp
  | y :: ys, i + 1, j, r, hk, hj, h => by
    simp only [List.getElem?_cons_succ] at h
    have hy := hk y (List.mem_cons_self ..)
    have e : (i + 1) * k + j = i * k + j + y.length := by rw [hy, Nat.succ_mul]; omega
    rw [List.flatten_cons, e, List.getElem?_append_right (by omega)]
    rw [show i * k + j + y.length - y.length = i * k + j from by omega]
    exact flat_get ys i j r (fun r hr => hk r (List.mem_cons_of_mem _ hr)) hj h
theorem rows_own {w : World} {base : Nat} {t : TypeId} {k : Nat} {v : Value} {rows : List (List Value)} (hk : ∀ r ∈ rows, r.length = k) (h : w.ownsRow base t k v rows.length rows.flatten) :
    ∃ A c, v = .slice A rows.length c ∧ RowsAt w A k rows ∧ ∀ b off, A = some ⟨b, off, none⟩ → base ≤ b := by
  rcases h.2 with ⟨rfl, h0⟩ | ⟨g, cap, cur, rfl, hb, hg, _, _, _, ht⟩
  · have : rows = [] := List.eq_nil_of_length_eq_zero h0
    subst this
    exact ⟨none, 0, rfl, RowsAt.nil _ _ _, fun b off h => by cases h⟩
  · refine ⟨_, cap, rfl, fun i r hr => ⟨g, 0, rfl, (Array.getElem?_eq_some_iff.1 hg).1, fun j v hv => ?_⟩, fun b off h => by injection h with h; injection h with h; omega⟩
    have hjr := (List.getElem?_eq_some_iff.1 hv).1
    have hrm : r ∈ rows := List.mem_of_getElem? hr
    have hjk : j < k := by rw [← hk r hrm]; exact hjr
    rw [cell_of_row w g _ cur _ _ hg, ← hv, ← flat_get rows i j r hk hjk hr, ← ht, List.getElem?_take, if_pos]
    · simp
    · have hi := (List.getElem?_eq_some_iff.1 hr).1
      have : i * k + k ≤ rows.length * k := by rw [← Nat.succ_mul]; exact Nat.mul_le_mul_right k hi
      omega

theorem add_eq (b o n : Nat) : Addr.add ⟨b, o, none⟩ n = ⟨b, o + n, none⟩ := by
  unfold Addr.add; split <;> simp_all
theorem spot_of_cell {w : World} {a : Addr} {v : Value} (h : w.cell? a = some v) : a.spot = none := by
  unfold World.cell? at h
  split at h
  · split at h
    · cases h
    · rename_i hs; cases ha : a.spot <;> simp_all
  · cases h
/-- A slice of rows that came in. -/
theorem open_rows {α : Type} {P : Program} (rowOf : α → List Value) {k : Nat} (hk0 : 0 < k) (hlen : ∀ x, (rowOf x).length = k) {t e : TypeId} (ht : P.underlying t = some (.slice e)) (hce : P.cellsOf e = k)
    {H : Type} {enc : TypeId × Value → H} {w : World} (hel : ∀ {fuel : Nat} {cs : List Value} {y : DataW H × List MemPlace}, DataW.trod enc P w 0 (fun _ => true) true fuel e cs = some y → ∃ x : α, cs = rowOf x)
    {v : Value} {d : DataW H} {p : List MemPlace} {r : Reach} {b0 : Nat} (hv : Value.okWide P w r b0 t v) (h : DataW.Trod enc P w 0 (fun _ => true) true t v d p) :
    ∃ (A : Option Addr) (c : Nat) (l : List α), v = .slice A l.length c ∧ RowsAt w A k (l.map rowOf) ∧ l.length ≤ maxLen := by
  obtain ⟨a0, len, cap, rfl⟩ := okWide_slice ht hv
  obtain ⟨fuel, hf⟩ := h
  rcases open_slice ht hf with ⟨hcs, hx⟩ | ⟨a, len', cap', m, n, D, Pl, hcs, hb, hl, hm, hmm, hx, hi⟩
  · simp only [Value.cells, List.cons.injEq, Value.slice.injEq, and_true] at hcs
    obtain ⟨rfl, rfl, rfl⟩ := hcs
    exact ⟨none, 0, [], rfl, RowsAt.nil _ _ _, Nat.zero_le _⟩
  · simp only [Value.cells, List.cons.injEq, Value.slice.injEq, and_true] at hcs
    obtain ⟨rfl, rfl, rfl⟩ := hcs
    have hmc : m = cap := by simpa using hmm
    have hel : ∀ i, i < len → ∃ x : α, ∃ cs', w.cells? 0 (a.add (i * k)) k = some cs' ∧ cs' = rowOf x := fun i hil => by
      obtain ⟨cs', h1, h2⟩ := hi i (by omega)
      rw [hce] at h1
      obtain ⟨x, hx⟩ := hel h2
      exact ⟨x, cs', h1, hx⟩
    obtain ⟨l, hll, hl'⟩ : ∃ l : List α, l.length = len ∧ ∀ i x, l[i]? = some x → ∃ cs', w.cells? 0 (a.add (i * k)) k = some cs' ∧ cs' = rowOf x := by
      clear hi hx hf
      have : ∀ n, n ≤ len → ∃ l : List α, l.length = n ∧ ∀ i x, l[i]? = some x → ∃ cs', w.cells? 0 (a.add (i * k)) k = some cs' ∧ cs' = rowOf x := by
        intro n
        induction n with
        | zero => intro _; exact ⟨[], rfl, fun i x h => by simp at h⟩
        | succ n ih =>
          intro hn
          obtain ⟨l, hl1, hl2⟩ := ih (by omega)
          obtain ⟨x, cs', hx1, hx2⟩ := hel n (by omega)
          refine ⟨l ++ [x], by simp [hl1], fun i y hy => ?_⟩
          rcases Nat.lt_or_ge i l.length with h | h
          · rw [List.getElem?_append_left h] at hy
            exact hl2 i y hy
          · rw [List.getElem?_append_right h] at hy
            have hi0 : i = l.length := by
              have := (List.getElem?_eq_some_iff.1 hy).1
              simp at this
              omega
            subst hi0
            simp only [Nat.sub_self, List.getElem?_cons_zero, Option.some.injEq] at hy
            subst hy
            rw [hl1]
            exact ⟨cs', hx1, hx2⟩
      exact this len (Nat.le_refl _)
    refine ⟨some a, cap, l, by rw [hll], fun i r hr => ?_, by omega⟩
    rw [List.getElem?_map] at hr
    cases hli : l[i]? with
    | none => rw [hli] at hr; simp at hr
    | some x =>
      rw [hli] at hr
      simp only [Option.map_some, Option.some.injEq] at hr
      subst hr
      obtain ⟨cs', h1, rfl⟩ := hl' i x hli
      obtain ⟨_, _, hat⟩ := World.cells?_some h1
      have hx0 : ∃ u, (rowOf x)[0]? = some u := ⟨_, List.getElem?_eq_getElem (by rw [hlen]; omega)⟩
      have hsp : a.spot = none := by
        have hl0 : 0 < l.length := by have := (List.getElem?_eq_some_iff.1 hli).1; omega
        obtain ⟨cs0, g1, g2⟩ := hl' 0 _ (List.getElem?_eq_getElem hl0)
        obtain ⟨_, _, hat0⟩ := World.cells?_some g1
        have h0 := hat0 0 (by omega)
        have e : (a.add (0 * k)).add 0 = a := by simp [Addr.add]
        rw [e, g2, List.getElem?_eq_getElem (by rw [hlen]; omega)] at h0
        exact spot_of_cell h0
      obtain ⟨b, off, sp⟩ := a
      simp only at hsp
      subst hsp
      have g : ∀ j v, (rowOf x)[j]? = some v → w.cell? ⟨b, off + i * k + j, none⟩ = some v := fun j v hv => by
        have hj := (List.getElem?_eq_some_iff.1 hv).1
        rw [hlen] at hj
        have := hat j hj
        simp only [add_eq] at this
        rw [this, hv]
      obtain ⟨u, hu⟩ := hx0
      exact ⟨b, off, rfl, block_lt_of_cell (w := w) (a := ⟨b, off + i * k + 0, none⟩) (g 0 u hu), g⟩
end Go.Proofs.Ytlecfdchmcghlaa

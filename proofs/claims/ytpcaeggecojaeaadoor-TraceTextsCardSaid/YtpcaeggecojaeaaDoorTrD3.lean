/-
  Walks over the reference of package trace: Of, Without, Pids. No condition.
-/
import Derived.Test.YtpcaeggecojaeaaDoorTrD2
namespace Go.Proofs.YtpcaeggecojaeaaDoor
open Go.RowKit
set_option linter.unusedVariables false
set_option linter.unusedSimpArgs false

theorem infoS : (Tryd.prog.info? 27).map (fun i => (i.zero, i.size, i.bytes)) = some (some (.agg #[.int .i64 0, .int .i64 0, .int .i64 0, .int .u32 0]), 4, 32) := by kernel_rfl
theorem infoInt : (Tryd.prog.info? 3).map (fun i => (i.zero, i.size, i.bytes)) = some (some (.int .i64 0), 1, 8) := by kernel_rfl
/-- A slice of its own that holds what is seen. -/
abbrev OwnS (w : World) (base : Nat) (v : Value) (l : List S) : Prop := w.ownsRow base 27 4 v l.length (l.flatMap S.cells)
abbrev OwnI (w : World) (base : Nat) (v : Value) (l : List Int) : Prop := w.ownsRow base 3 1 v l.length (l.flatMap iCells)
theorem ownS_at {w : World} {base : Nat} {v : Value} {l : List S} (h : OwnS w base v l) : ∃ A c, v = .slice A l.length c ∧ SeenAt w A l ∧ ∀ b off, A = some ⟨b, off, none⟩ → base ≤ b := by
  have := rows_own (k := 4) (w := w) (v := v) (base := base) (t := 27) (rows := l.map S.cells) (fun r hr => by obtain ⟨x, _, rfl⟩ := List.mem_map.1 hr; rfl) (by rw [List.length_map, ← List.flatMap_def]; exact h)
  rwa [List.length_map] at this
theorem ownI_at {w : World} {base : Nat} {v : Value} {l : List Int} (h : OwnI w base v l) : ∃ A c, v = .slice A l.length c ∧ IntsAt w A l ∧ ∀ b off, A = some ⟨b, off, none⟩ → base ≤ b := by
  have := rows_own (k := 1) (w := w) (v := v) (base := base) (t := 3) (rows := l.map iCells) (fun r hr => by obtain ⟨x, _, rfl⟩ := List.mem_map.1 hr; rfl) (by rw [List.length_map, ← List.flatMap_def]; exact h)
  rwa [List.length_map] at this
theorem below_grown {B : Nat} {w w1 w2 : World} {row : Option Nat} (h : Below B w w1) (hg : w1.grownBy w2 row) (hr : ∀ r, row = some r → B ≤ r) (hB : B ≤ w1.heap.size) : Below B w w2 :=
  ⟨hg.os.trans h.os, hg.tape.trans h.tape, hg.output.trans h.output, Nat.le_trans h.size hg.size, fun k hk => (hg.block k (by omega) (fun e => by have := hr k e.symm; omega)).trans (h.block k hk)⟩
theorem own_block {w : World} {base : Nat} {t : TypeId} {s : Nat} {v : Value} {n : Nat} {cs : List Value} (h : w.ownsRow base t s v n cs) : ∀ r, v.ownBlock = some r → base ≤ r := by
  rcases h.2 with ⟨rfl, _⟩ | ⟨g, cap, cur, rfl, hb, _⟩
  · intro r h; simp [Value.ownBlock] at h
  · intro r h; simp [Value.ownBlock] at h; omega
theorem ownsRow_below {w w' : World} {base : Nat} {e : TypeId} {size : Nat} {v : Value} {k : Nat} {xs : List Value} (h : w.ownsRow base e size v k xs) (hb : Below w.heap.size w w') : w'.ownsRow base e size v k xs :=
  h.kept (grownBy_below hb) (by cases v.ownBlock <;> simp)

/-! ## the lists -/
def selOf (pids : List Int) (l : List S) : List S := l.filter fun x => decide (x.p ∈ pids)
def without (call : Int) (l : List S) : List S := l.filter fun x => !(decide (x.k = 1) && decide (x.c = call))
theorem filter_take {p : S → Bool} {l : List S} {k : Nat} {x : S} (h : l[k]? = some x) : (l.take (k + 1)).filter p = (l.take k).filter p ++ (if p x then [x] else []) := by
  rw [List.take_add_one, h, List.filter_append]
  cases hp : p x <;> simp [hp]
theorem take_len {l : List S} {k : Nat} {p : S → Bool} : ((l.take k).filter p).length ≤ k := Nat.le_trans (List.length_filter_le _ _) (by rw [List.length_take]; omega)

theorem ownS_snoc {w : World} {base : Nat} {v : Value} {l : List S} {x : S} (h : w.ownsRow base 27 4 v (l.length + 1) (l.flatMap S.cells ++ x.cells)) : OwnS w base v (l ++ [x]) := by
  unfold OwnS
  rw [List.length_append, List.flatMap_append]
  simpa using h
theorem ownI_snoc {w : World} {base : Nat} {v : Value} {l : List Int} {x : Int} (h : w.ownsRow base 3 1 v (l.length + 1) (l.flatMap iCells ++ iCells x)) : OwnI w base v (l ++ [x]) := by
  unfold OwnI
  rw [List.length_append, List.flatMap_append]
  simpa using h
theorem mem_take_next {ps : List Int} {q : Nat} {y v : Int} (h : ps[q]? = some y) : decide (v ∈ ps.take (q + 1)) = (decide (v ∈ ps.take q) || decide (y = v)) := by
  rw [List.take_add_one, h]
  by_cases h1 : v ∈ ps.take q <;> by_cases h2 : y = v
  · simp [h1, h2]
  · simp [h1]
  · simp [h2]
  · have : ¬ v = y := fun h => h2 h.symm
    simp [h1, h2, this]

end Go.Proofs.YtpcaeggecojaeaaDoor

/-
  Operations compared; the blocks that a walk over an operation's parts knows. No condition.
-/
import Derived.Test.YtgefnicpkfcghaaDoorScPl
namespace Go.Proofs.YtgefnicpkfcghaaDoor
open Go.RowKit Go.Shelf
set_option linter.unusedVariables false
set_option linter.unusedSimpArgs false

theorem seq_true {a b : ByteArray} (h : a = b) : (a.toList == b.toList) = true := by rw [h]; simp
theorem seq_false {a b : ByteArray} (h : a ≠ b) : (a.toList == b.toList) = false := by
  rw [Lib.toList_data, Lib.toList_data, beq_eq_false_iff_ne]
  exact fun he => h (Go.WideShapes.bytes_inj he)
theorem seq_dec (a b : ByteArray) : (a.toList == b.toList) = decide (a = b) := by
  by_cases h : a = b
  · rw [seq_true h, decide_eq_true h]
  · rw [seq_false h, decide_eq_false h]

theorem eqO (x y : O) (w : World) : (Op.equalIn 10000 24 (.agg x.cells.toArray) (.agg y.cells.toArray)).run Tryd.prog w = .ok (decide (x = y)) w := by
  rw [show (10000 : Nat) = 9999 + 1 from rfl, run_equalIn_agg w 9999 24 _ _ (by kernel_rfl) Tryd.stoodInHeld24]
  have a3 := Tryd.isAgg3
  have a4 := Tryd.isAgg22
  have a5 := Tryd.isAgg9
  simp only [Program.fieldsOf, Tryd.underlying24]
  obtain ⟨k, co, n, p, s, m, nm⟩ := x
  obtain ⟨k', co', n', p', s', m', nm'⟩ := y
  simp only [O.cells]
  go_simp
  by_cases h1 : k = k'
  case neg => simp [h1]
  by_cases h2 : co = co'
  case neg => simp [h1, h2]
  by_cases h3 : n = n'
  case neg => simp [h1, h2, h3]
  by_cases h4 : p = p'
  case neg => simp [h1, h2, h3, h4]
  by_cases h5 : s = s'
  case neg => simp [h1, h2, h3, h4, h5]
  by_cases h6 : m = m'
  case neg => simp [h1, h2, h3, h4, h5, h6]
  by_cases h7 : nm = nm'
  case neg =>
    have h8 := seq_false h7
    simp [h1, h2, h3, h4, h5, h6, h7, h8]
    try simpa using h8
  simp [h1, h2, h3, h4, h5, h6, h7]

theorem ocells {w : World} {g : Nat} {t : TypeId} {a b c d e f h : Value} (hb : Blk w g t #[a, b, c, d, e, f, h]) : w.cell? ⟨g, 0, none⟩ = some a ∧ w.cell? ⟨g, 1, none⟩ = some b ∧ w.cell? ⟨g, 2, none⟩ = some c ∧ w.cell? ⟨g, 3, none⟩ = some d ∧ w.cell? ⟨g, 4, none⟩ = some e ∧ w.cell? ⟨g, 5, none⟩ = some f ∧ w.cell? ⟨g, 6, none⟩ = some h :=
  ⟨(hb.cell 0).trans rfl, (hb.cell 1).trans rfl, (hb.cell 2).trans rfl, (hb.cell 3).trans rfl, (hb.cell 4).trans rfl, (hb.cell 5).trans rfl, (hb.cell 6).trans rfl⟩

/-- The operation, another one, and a truth: each in its block. -/
structure CI (w : World) (x y : O) (f : Bool) (W : World) : Prop where
  x : Blk W w.heap.size 24 x.cells.toArray
  y : Blk W (w.heap.size + 1) 24 y.cells.toArray
  f : Blk W (w.heap.size + 1 + 1) 4 #[.bool f]
  b : Below w.heap.size w W
section
variable {w W W' : World} {x y : O} {f : Bool}
theorem CI.lt (h : CI w x y f W) : w.heap.size + 1 + 1 < W.heap.size := h.f.lt
theorem CI.below (h : CI w x y f W) (hb : Below W.heap.size W W') : CI w x y f W' := ⟨h.x.below hb h.x.lt, h.y.below hb h.y.lt, h.f.below hb h.f.lt, h.b.trans (hb.mono h.b.size)⟩
theorem CI.drew (h : CI w x y f W) : CI w x y f W.drew := ⟨h.x, h.y, h.f, h.b.drew⟩
theorem CI.grown {row : Option Nat} {B : Nat} (h : CI w x y f W) (hB : w.heap.size ≤ B) (hg : W.grownBy W' row) (hr : ∀ r, row = some r → B ≤ r ∧ ∃ o : Obj, W.heap[r]? = some o ∧ o.isCells = false) : CI w x y f W' :=
  ⟨blk_own _ _ (fun _ : Unit => _) () _ _ _ h.x hg (fun r e => (hr r e).2), blk_own _ _ (fun _ : Unit => _) () _ _ _ h.y hg (fun r e => (hr r e).2), blk_own _ _ (fun _ : Unit => _) () _ _ _ h.f hg (fun r e => (hr r e).2), h.b.grown hg h.b.size (fun k e => Nat.le_trans hB (hr k e).1)⟩
theorem CI.setF (h : CI w x y f W) (g : Bool) : CI w x y g (W.setCell ⟨w.heap.size + 1 + 1, 0, none⟩ (.bool g)) :=
  ⟨h.x.far (by simp; omega) _, h.y.far (by simp) _, h.f.set_ 0 _, h.b.setCell (by simp; omega) _⟩
theorem CI.setW (h : CI w x y f W) (nm : ByteArray) : CI w x { y with w := nm } f (W.setCell ⟨w.heap.size + 1, 6, none⟩ (.string nm)) :=
  ⟨h.x.far (by simp) _, by have := h.y.set_ 6 (.string nm); simpa [O.cells] using this, h.f.far (by simp) _, h.b.setCell (by simp) _⟩
theorem CI.setP (h : CI w x y f W) {y' : O} {i : Nat} {u : Value} (hy : Blk (W.setCell ⟨w.heap.size + 1, i, none⟩ u) (w.heap.size + 1) 24 y'.cells.toArray) : CI w x y' f (W.setCell ⟨w.heap.size + 1, i, none⟩ u) :=
  ⟨h.x.far (by simp) _, hy, h.f.far (by simp) _, h.b.setCell (by simp) _⟩
end
theorem parts_ne {k : Int} (h : partsL k ≠ []) : kindW k ≠ [] := by
  by_cases hk : k = 1 ∨ k = 2 ∨ k = 4 ∨ k = 5 ∨ k = 6 ∨ k = 7 ∨ k = 8 ∨ k = 9
  · rcases hk with rfl | rfl | rfl | rfl | rfl | rfl | rfl | rfl <;> decide
  · refine absurd ?_ h
    unfold partsL partsB
    rw [if_neg (fun e => hk (by simp [e])), if_neg (fun e => hk (by simp [e])), if_neg (fun e => hk (by simp [e])), if_neg (fun e => hk (by simp [e])), if_neg (fun e => hk (by simp [e])), if_neg (fun e => hk (by simp [e])), if_neg (fun e => hk (by simp [e])), if_neg (fun e => hk (by simp [e]))]
    rfl
end Go.Proofs.YtgefnicpkfcghaaDoor

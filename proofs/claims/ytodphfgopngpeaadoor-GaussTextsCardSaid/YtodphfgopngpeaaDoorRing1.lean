/-
  Numbers modulo 2^20, balanced: sums and products. Plain: no program in sight. No condition.
-/
import Derived.Test.YtodphfgopngpeaaDoorGau9
namespace Go.Proofs.YtodphfgopngpeaaDoor
set_option linter.unusedVariables false

theorem wz_mod (n : Int) : ∃ k, wz n = n + 1048576 * k := ⟨-((n + 524288) / 1048576), by unfold wz; omega⟩
theorem wz_of {x y : Int} (h : ∃ k, x = y + 1048576 * k) : wz x = wz y := by obtain ⟨k, rfl⟩ := h; unfold wz; omega
theorem wz_wz (n : Int) : wz (wz n) = wz n := by unfold wz; omega
theorem wz_add (x y : Int) : wz (wz x + y) = wz (x + y) := by unfold wz; omega
theorem wz_add' (x y : Int) : wz (x + wz y) = wz (x + y) := by unfold wz; omega
theorem wz_sub (x y : Int) : wz (wz x - y) = wz (x - y) := by unfold wz; omega
theorem wz_sub' (x y : Int) : wz (x - wz y) = wz (x - y) := by unfold wz; omega
theorem wz_neg (x : Int) : wz (-wz x) = wz (-x) := by unfold wz; omega
theorem wz_mulL (x y : Int) : wz (wz x * y) = wz (x * y) := by
  obtain ⟨k, h⟩ := wz_mod x
  rw [h]
  exact wz_of ⟨k * y, by rw [Int.add_mul, Int.mul_assoc]⟩
theorem wz_mulR (x y : Int) : wz (x * wz y) = wz (x * y) := by rw [Int.mul_comm, wz_mulL, Int.mul_comm]
/-- What stands in a sum of two products may be made whole ahead, or behind. -/
theorem wz_lin {x x' y y' : Int} (h1 : wz x = wz x') (h2 : wz y = wz y') : wz (x + y) = wz (x' + y') := by rw [← wz_add, h1, wz_add, ← wz_add', h2, wz_add']
theorem wz_lin' {x x' y y' : Int} (h1 : wz x = wz x') (h2 : wz y = wz y') : wz (x - y) = wz (x' - y') := by rw [← wz_sub, h1, wz_sub, ← wz_sub', h2, wz_sub']
theorem ring_assoc1 (a b c d e f : Int) : wz (wz (a * c - b * d) * e - wz (a * d + b * c) * f) = wz (a * wz (c * e - d * f) - b * wz (c * f + d * e)) := by
  rw [wz_lin' (wz_mulL (a * c - b * d) e) (wz_mulL (a * d + b * c) f), wz_lin' (wz_mulR a (c * e - d * f)) (wz_mulR b (c * f + d * e))]
  congr 1
  grind
theorem ring_assoc2 (a b c d e f : Int) : wz (wz (a * c - b * d) * f + wz (a * d + b * c) * e) = wz (a * wz (c * f + d * e) + b * wz (c * e - d * f)) := by
  rw [wz_lin (wz_mulL (a * c - b * d) f) (wz_mulL (a * d + b * c) e), wz_lin (wz_mulR a (c * f + d * e)) (wz_mulR b (c * e - d * f))]
  congr 1
  grind
theorem ring_both1 (a b c d e f : Int) : wz (a * wz (c + e) - b * wz (d + f)) = wz (wz (a * c - b * d) + wz (a * e - b * f)) := by
  rw [wz_lin' (wz_mulR a (c + e)) (wz_mulR b (d + f)), wz_lin (wz_wz (a * c - b * d)) (wz_wz (a * e - b * f))]
  congr 1
  grind
theorem ring_both2 (a b c d e f : Int) : wz (a * wz (d + f) + b * wz (c + e)) = wz (wz (a * d + b * c) + wz (a * f + b * e)) := by
  rw [wz_lin (wz_mulR a (d + f)) (wz_mulR b (c + e)), wz_lin (wz_wz (a * d + b * c)) (wz_wz (a * f + b * e))]
  congr 1
  grind
theorem ring_conj1 (a b c d : Int) : wz (wz (a * c - b * d)) = wz (a * c - wz (-b) * wz (-d)) := by
  rw [wz_wz]
  refine wz_lin' rfl ?_
  rw [wz_mulL, wz_mulR, Int.neg_mul_neg]
theorem ring_conj2 (a b c d : Int) : wz (-wz (a * d + b * c)) = wz (a * wz (-d) + wz (-b) * c) := by
  rw [wz_neg, wz_lin (wz_mulR a (-d)) (wz_mulL (-b) c)]
  congr 1
  grind
theorem ring_norm1 (a b : Int) : wz (a * a - b * wz (-b)) = wz (a * a + b * b) := by
  rw [wz_lin' (rfl : wz (a * a) = wz (a * a)) (wz_mulR b (-b))]
  congr 1
  grind
theorem ring_norm2 (a b : Int) : wz (a * wz (-b) + b * a) = 0 := by
  rw [wz_lin (wz_mulR a (-b)) (rfl : wz (b * a) = wz (b * a)), show a * -b + b * a = 0 by grind]
  rfl
end Go.Proofs.YtodphfgopngpeaaDoor

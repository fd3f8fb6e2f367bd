/-
  Walks over package gauss and its reference: wraps, makes. No condition.
-/
import Derived.IntWalk
import Derived.Test.YtodphfgopngpeaaDoorGau2
namespace Go.Proofs.YtodphfgopngpeaaDoor
open Go.RowKit Go.Shelf
set_option linter.unusedVariables false
set_option linter.unusedSimpArgs false

/-- A number modulo 2^20, balanced. -/
def wz (n : Int) : Int := (n + 524288) % 1048576 - 524288
theorem wz_range (n : Int) : -524288 ≤ wz n ∧ wz n ≤ 524287 := by unfold wz; omega
theorem tm (n : Int) : ∃ q, n = 1048576 * q + n.tmod 1048576 ∧ -1048576 < n.tmod 1048576 ∧ n.tmod 1048576 < 1048576 := by
  by_cases h : 0 ≤ n
  · rw [Int.tmod_eq_emod_of_nonneg h]
    exact ⟨n / 1048576, by omega, by omega, by omega⟩
  · have e : n.tmod 1048576 = -((-n) % 1048576) := by rw [← Int.tmod_eq_emod_of_nonneg (by omega), Int.neg_tmod, Int.neg_neg]
    rw [e]
    exact ⟨-((-n) / 1048576), by omega, by omega, by omega⟩
def mk (p q : Int) : Value := .complex .f64 (floatOfInt .f64 (wz p)) (floatOfInt .f64 (wz q))

theorem gWrap_any {w : World} (n : Int) : Calls Tryd.prog 24 #[.int .i64 n] w fun e w' => e = .returned (.float .f64 (floatOfInt .f64 (wz n))) ∧ w = w' := by
  obtain ⟨q, hq, h0, h1⟩ := tm n
  have w2 : wrap64 (n.tmod 1048576 + 1048576) = n.tmod 1048576 + 1048576 := IntWalk.wrap64_in _ (by omega)
  have w3 : wrap64 (n.tmod 1048576 - 1048576) = n.tmod 1048576 - 1048576 := IntWalk.wrap64_in _ (by omega)
  have w4 : wrap64 (n.tmod 1048576 + 1048576 - 1048576) = n.tmod 1048576 := by rw [IntWalk.wrap64_in _ (by omega)]; omega
  by_cases c1 : 524288 ≤ n.tmod 1048576
  · have e : wz n = n.tmod 1048576 - 1048576 := by unfold wz; omega
    rw [e]
    clear hq h0 h1 e
    go_enter Tryd.func24, Tryd.ntmps24
    go_wp2
    go_ret
    first | exact ⟨rfl, rfl⟩ | (simp only [w2, w3, w4, IntWalk.i64_left]; exact ⟨rfl, rfl⟩)
  · by_cases c2 : n.tmod 1048576 < -524288
    · have e : wz n = n.tmod 1048576 + 1048576 := by unfold wz; omega
      rw [e]
      clear hq h0 h1 e
      go_enter Tryd.func24, Tryd.ntmps24
      go_wp2
      go_ret
      first | exact ⟨rfl, rfl⟩ | (simp only [w2, w3, w4, IntWalk.i64_left]; exact ⟨rfl, rfl⟩)
    · have e : wz n = n.tmod 1048576 := by unfold wz; omega
      rw [e]
      clear hq h0 h1 e
      go_enter Tryd.func24, Tryd.ntmps24
      go_wp2
      go_ret
      first | exact ⟨rfl, rfl⟩ | (simp only [w2, w3, w4, IntWalk.i64_left]; exact ⟨rfl, rfl⟩)

theorem rWrap_any {w : World} (n : Int) : Calls Tryd.prog 46 #[.int .i64 n] w fun e w' => e = .returned (.int .i64 (wz n)) ∧ w = w' := by
  obtain ⟨q, hq, h0, h1⟩ := tm n
  have w2 : wrap64 (n.tmod 1048576 + 1048576) = n.tmod 1048576 + 1048576 := IntWalk.wrap64_in _ (by omega)
  have w3 : wrap64 (n.tmod 1048576 - 1048576) = n.tmod 1048576 - 1048576 := IntWalk.wrap64_in _ (by omega)
  have w4 : wrap64 (n.tmod 1048576 + 1048576 - 1048576) = n.tmod 1048576 := by rw [IntWalk.wrap64_in _ (by omega)]; omega
  by_cases c0 : n.tmod 1048576 < 0
  · by_cases c1 : 524288 ≤ n.tmod 1048576 + 1048576
    · have e : wz n = n.tmod 1048576 := by unfold wz; omega
      have c2 : 524288 ≤ wrap64 (n.tmod 1048576 + 1048576) := by rw [w2]; exact c1
      rw [e]
      clear hq h0 h1 e c1
      go_enter Tryd.func46, Tryd.ntmps46
      go_wp2
      go_ret
      first | exact ⟨rfl, rfl⟩ | (simp only [w2, w3, w4, IntWalk.i64_left]; exact ⟨rfl, rfl⟩)
    · have e : wz n = n.tmod 1048576 + 1048576 := by unfold wz; omega
      have c2 : ¬ 524288 ≤ wrap64 (n.tmod 1048576 + 1048576) := by rw [w2]; exact c1
      rw [e]
      clear hq h0 h1 e c1
      go_enter Tryd.func46, Tryd.ntmps46
      go_wp2
      go_ret
      first | exact ⟨rfl, rfl⟩ | (simp only [w2, w3, w4, IntWalk.i64_left]; exact ⟨rfl, rfl⟩)
  · by_cases c1 : 524288 ≤ n.tmod 1048576
    · have e : wz n = n.tmod 1048576 - 1048576 := by unfold wz; omega
      rw [e]
      clear hq h0 h1 e
      go_enter Tryd.func46, Tryd.ntmps46
      go_wp2
      go_ret
      first | exact ⟨rfl, rfl⟩ | (simp only [w2, w3, w4, IntWalk.i64_left]; exact ⟨rfl, rfl⟩)
    · have e : wz n = n.tmod 1048576 := by unfold wz; omega
      rw [e]
      clear hq h0 h1 e
      go_enter Tryd.func46, Tryd.ntmps46
      go_wp2
      go_ret
      first | exact ⟨rfl, rfl⟩ | (simp only [w2, w3, w4, IntWalk.i64_left]; exact ⟨rfl, rfl⟩)
end Go.Proofs.YtodphfgopngpeaaDoor

/-
  Walks over package gauss and its reference: a number's words, words' number. Condition: words are words.
-/
import Derived.Test.YtodphfgopngpeaaDoorGau6
namespace Go.Proofs.YtodphfgopngpeaaDoor
open Go.RowKit Go.Shelf
set_option linter.unusedVariables false
set_option linter.unusedSimpArgs false
attribute [local irreducible] floatOfInt wz

theorem wrap32_in {x : Int} (h0 : 0 ≤ x) (h1 : x ≤ 4294967295) : wrap32 x = if 2147483648 ≤ x then x - 4294967296 else x := by
  unfold wrap32
  split <;> omega
theorem gFromWords_any {w : World} (x y : Int) (hx : 0 ≤ x ∧ x ≤ 4294967295) (hy : 0 ≤ y ∧ y ≤ 4294967295) : Calls Tryd.prog 19 #[.int .u32 x, .int .u32 y] w fun e w' => e = .returned (mk (wrap32 x) (wrap32 y)) ∧ w = w' := by
  have k1 : ∀ n : Int, wrap64 (wrap32 n) = wrap32 n := fun n => by simp only [wrap64, wrap32]; omega
  have H1 := Lib.hid (fun W => show Calls Tryd.prog 9 #[.int .i64 (wrap64 (wrap32 x)), .int .i64 (wrap64 (wrap32 y))] W fun e w' => e = .returned (mk (wrap32 x) (wrap32 y)) ∧ W = w' from
    (gMake_any (w := W) (wrap64 (wrap32 x)) (wrap64 (wrap32 y))).mono fun e w' h => by rw [k1, k1] at h; exact h)
  clear k1
  go_enter Tryd.func19, Tryd.ntmps19
  go_wp2_with fail
  refine H1.out w |>.mono ?_
  rintro e w1 ⟨rfl, rfl⟩
  go_wp2
  go_ret
  exact ⟨rfl, rfl⟩
theorem rFromWords_any {w : World} (x y : Int) (hx : 0 ≤ x ∧ x ≤ 4294967295) (hy : 0 ≤ y ∧ y ≤ 4294967295) : Calls Tryd.prog 20 #[.int .u32 x, .int .u32 y] w fun e w' => e = .returned (mk (wrap32 x) (wrap32 y)) ∧ w = w' := by
  have H1 := Lib.hid (fun W => rMake_any (w := W) (wrap32 x) (wrap32 y))
  have e1 := wrap32_in hx.1 hx.2
  have e2 := wrap32_in hy.1 hy.2
  obtain ⟨hx0, hx1⟩ := hx
  obtain ⟨hy0, hy1⟩ := hy
  by_cases h1 : 2147483648 ≤ x <;> by_cases h2 : 2147483648 ≤ y
  all_goals
    simp only [h1, h2, if_true, if_false] at e1 e2
    rw [e1, e2] at H1 ⊢
    clear e1 e2
    go_enter Tryd.func20, Tryd.ntmps20
    go_wp2_with fail
    refine H1.out w |>.mono ?_
    rintro e w1 ⟨rfl, rfl⟩
    go_wp2
    go_ret
    exact ⟨rfl, rfl⟩
theorem gWords_any {w : World} (a b : Nat) : Calls Tryd.prog 15 #[.complex .f64 a b] w fun e w' => e = .returned (.tuple #[.int .u32 (re a b % 4294967296), .int .u32 (im a b % 4294967296)]) ∧ Below w.heap.size w w' := by
  have H1 := Lib.hid (fun W => gParts_any (w := W) a b)
  generalize re a b = p at *
  generalize im a b = q at *
  go_enter Tryd.func15, Tryd.ntmps15
  go_wp2_with fail
  refine H1.out w |>.mono ?_
  rintro e w1 ⟨rfl, hb⟩
  have HB := Lib.hid hb
  clear hb
  go_wp2
  go_ret2
  exact ⟨rfl, HB.out⟩
theorem rWords_any {w : World} (a b : Nat) : Calls Tryd.prog 16 #[.complex .f64 a b] w fun e w' => e = .returned (.tuple #[.int .u32 (re a b % 4294967296), .int .u32 (im a b % 4294967296)]) ∧ w = w' := by
  have H1 := Lib.hid (fun W => rParts_any (w := W) a b)
  obtain ⟨⟨p0, p1⟩, p2, p3⟩ := re_range a b
  generalize re a b = p at *
  generalize im a b = q at *
  generalize isP a b = t at *
  have e1 : p % 4294967296 = if p < 0 then p + 4294967296 else p := by split <;> omega
  have e2 : q % 4294967296 = if q < 0 then q + 4294967296 else q := by split <;> omega
  by_cases h1 : p < 0 <;> by_cases h2 : q < 0
  all_goals
    simp only [h1, h2, if_true, if_false] at e1 e2
    rw [e1, e2]
    have E1 := Lib.hid e1
    have E2 := Lib.hid e2
    clear e1 e2
    go_enter Tryd.func16, Tryd.ntmps16
    go_wp2_with fail
    refine H1.out w |>.mono ?_
    rintro e w1 ⟨rfl, rfl⟩
    go_wp2
    go_ret2
    exact ⟨by first | rfl | simp, rfl⟩
end Go.Proofs.YtodphfgopngpeaaDoor

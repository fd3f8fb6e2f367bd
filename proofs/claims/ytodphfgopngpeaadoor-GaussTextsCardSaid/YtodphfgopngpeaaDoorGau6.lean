/-
  Walks over the reference of package gauss. No condition.
-/
import Derived.Test.YtodphfgopngpeaaDoorGau5
namespace Go.Proofs.YtodphfgopngpeaaDoor
open Go.RowKit Go.Shelf
set_option linter.unusedVariables false
set_option linter.unusedSimpArgs false
attribute [local irreducible] floatOfInt wz

noncomputable def wh (x : Nat) : Bool := @decide (∃ n, Whole x n) (Classical.propDecidable _)
theorem wh_iff (x : Nat) : wh x = true ↔ ∃ n, Whole x n := by unfold wh; exact @decide_eq_true_iff _ (Classical.propDecidable _)
theorem wh_no {x : Nat} (h : ∀ n, ¬ Whole x n) : wh x = false := by
  cases h' : wh x with
  | false => rfl
  | true => obtain ⟨n, hn⟩ := (wh_iff x).1 h'; exact absurd hn (h n)
theorem isP_wh (a b : Nat) : isP a b = (wh a && wh b) := by
  have h1 := isP_iff a b
  have h2 := wh_iff a
  have h3 := wh_iff b
  rw [← h2, ← h3] at h1
  cases h : isP a b <;> cases ha : wh a <;> cases hb : wh b <;> simp_all

theorem rPart_any {w : World} (x : Nat) : Calls Tryd.prog 37 #[.float .f64 x] w fun e w' => ∃ k, e = .returned (.tuple #[.int .i64 k, .bool (wh x)]) ∧ (wh x = true → k = prt x) ∧ w = w' := by
  rcases part_cases x with ⟨g0, hno⟩ | ⟨g0, g1, hno⟩ | ⟨g0, g1, g2, hno⟩ | ⟨g0, g1, g2, k, b, hk, hb, hiff, heq⟩
  · rw [wh_no hno]
    clear hno
    go_enter Tryd.func37, Tryd.ntmps37
    go_wp2
    go_ret2
    exact ⟨_, rfl, (fun h => by cases h), rfl⟩
  · rw [wh_no hno]
    clear hno
    go_enter Tryd.func37, Tryd.ntmps37
    go_wp2
    go_ret2
    exact ⟨_, rfl, (fun h => by cases h), rfl⟩
  · rw [wh_no hno]
    clear hno
    go_enter Tryd.func37, Tryd.ntmps37
    go_wp2
    go_ret2
    exact ⟨_, rfl, (fun h => by cases h), rfl⟩
  · have hwb : wh x = b := by
      have h2 := wh_iff x
      rw [← hiff] at h2
      cases h : wh x <;> cases h' : b <;> simp_all
    have hkp : wh x = true → k = prt x := fun h => by
      have h3 := prt_whole ((wh_iff x).1 h)
      exact heq _ h3
    rw [hwb] at hkp ⊢
    have k1 := fun w : World => run_convert_float_int (P := Tryd.prog) w 34 2 .f64 .i64 x k (by rw [Tryd.underlying34]; rfl) Tryd.underlying2 hk
    have HK := Lib.hid hkp
    clear hiff heq hkp hk hwb
    generalize prt x = p at *
    go_enter Tryd.func37, Tryd.ntmps37
    go_wp2
    go_ret2
    exact ⟨k, rfl, HK.out, rfl⟩

set_option maxHeartbeats 1000000 in
theorem rParts_any {w : World} (a b : Nat) : Calls Tryd.prog 27 #[.complex .f64 a b] w fun e w' => e = .returned (.tuple #[.int .i64 (re a b), .int .i64 (im a b), .bool (isP a b)]) ∧ w = w' := by
  have H1 := Lib.hid (fun W x => rPart_any (w := W) x)
  unfold re im
  rw [isP_wh]
  cases ha : wh a with
  | false =>
    simp only [Bool.false_and, if_false, Bool.false_eq_true]
    have HA := Lib.hid (fun W => (by have h := H1.out W a; rw [ha] at h; exact h))
    have HB := Lib.hid (fun W => H1.out W b)
    generalize wh b = v at *
    clear ha H1
    go_enter Tryd.func27, Tryd.ntmps27
    go_wp2_with fail
    refine (HA.out _).mono ?_
    rintro e w1 ⟨k, rfl, hk, rfl⟩
    go_wp2_with fail
    refine (HB.out _).mono ?_
    rintro e w2 ⟨k2, rfl, hk2, rfl⟩
    clear hk hk2
    go_wp2
    go_ret3
    exact ⟨rfl, rfl⟩
  | true =>
    have HA := Lib.hid (fun W => (by have h := H1.out W a; rw [ha] at h; exact h))
    cases hb : wh b with
    | false =>
      simp only [Bool.true_and, if_false, Bool.false_eq_true]
      have HB := Lib.hid (fun W => (by have h := H1.out W b; rw [hb] at h; exact h))
      clear ha hb H1
      go_enter Tryd.func27, Tryd.ntmps27
      go_wp2_with fail
      refine (HA.out _).mono ?_
      rintro e w1 ⟨k, rfl, hk, rfl⟩
      go_wp2_with fail
      refine (HB.out _).mono ?_
      rintro e w2 ⟨k2, rfl, hk2, rfl⟩
      clear hk hk2
      go_wp2
      go_ret3
      exact ⟨rfl, rfl⟩
    | true =>
      simp only [Bool.true_and, if_true]
      have HB := Lib.hid (fun W => (by have h := H1.out W b; rw [hb] at h; exact h))
      clear ha hb H1
      go_enter Tryd.func27, Tryd.ntmps27
      go_wp2_with fail
      refine (HA.out _).mono ?_
      rintro e w1 ⟨k, rfl, hk, rfl⟩
      obtain rfl := hk (by simp)
      go_wp2_with fail
      refine (HB.out _).mono ?_
      rintro e w2 ⟨k2, rfl, hk2, rfl⟩
      obtain rfl := hk2 (by simp)
      clear hk hk2
      go_wp2
      go_ret3
      exact ⟨rfl, rfl⟩

end Go.Proofs.YtodphfgopngpeaaDoor

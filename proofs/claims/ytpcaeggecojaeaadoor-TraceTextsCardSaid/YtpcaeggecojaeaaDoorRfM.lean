/-
  The document's word on what may be. No condition.
-/
import Derived.Test.YtpcaeggecojaeaaDoorRfW
import Derived.Test.YtpcaeggecojaeaaDoorTrBkP
namespace Go.Proofs.YtpcaeggecojaeaaDoor
open Go.RowKit
set_option linter.unusedVariables false
set_option linter.unusedSimpArgs false

set_option maxHeartbeats 4000000 in
theorem refMay_any {w : World} (p k c v : Int) (hv : 0 ≤ v) :
    Calls Tryd.prog 31 #[.agg #[.int .i64 p, .int .i64 k, .int .i64 c, .int .u32 v]] w fun e w' => e = .returned (.bool (decide (May ⟨p, k, c, v⟩))) ∧ Below w.heap.size w w' := by
  obtain ⟨r, hr⟩ : ∃ r, r = decide (May ⟨p, k, c, v⟩) := ⟨_, rfl⟩
  rw [← hr]
  have HR : Hid ((May ⟨p, k, c, v⟩ → r = true) ∧ (¬ May ⟨p, k, c, v⟩ → r = false)) := ⟨fun h => hr.trans (decide_eq_true h), fun h => hr.trans (decide_eq_false h)⟩
  clear hr
  by_cases h1 : p < 1
  · go_enter Tryd.func31, Tryd.ntmps31
    go_wp2
    go_ret
    refine ⟨?_, (Below.refl _ _).alloc (Nat.le_refl _) _⟩
    rw [HR.out.2 (by first | (unfold May; simp only; omega) | (unfold May; simp; done) | (unfold May; simp; omega))]
    first | rfl | (simp; done) | (simp; omega)
  · by_cases h2 : 65535 < p
    · go_enter Tryd.func31, Tryd.ntmps31
      go_wp2
      go_ret
      refine ⟨?_, (Below.refl _ _).alloc (Nat.le_refl _) _⟩
      rw [HR.out.2 (by first | (unfold May; simp only; omega) | (unfold May; simp; done) | (unfold May; simp; omega))]
      first | rfl | (simp; done) | (simp; omega)
    · by_cases h3 : k = 1
      · subst h3
        by_cases h4 : c < 0
        · go_enter Tryd.func31, Tryd.ntmps31
          go_wp2
          go_ret
          refine ⟨?_, (Below.refl _ _).alloc (Nat.le_refl _) _⟩
          rw [HR.out.2 (by first | (unfold May; simp only; omega) | (unfold May; simp; done) | (unfold May; simp; omega))]
          first | rfl | (simp; done) | (simp; omega)
        · by_cases h5 : 22 < c
          · go_enter Tryd.func31, Tryd.ntmps31
            go_wp2
            go_ret
            refine ⟨?_, (Below.refl _ _).alloc (Nat.le_refl _) _⟩
            rw [HR.out.2 (by first | (unfold May; simp only; omega) | (unfold May; simp; done) | (unfold May; simp; omega))]
            first | rfl | (simp; done) | (simp; omega)
          · go_enter Tryd.func31, Tryd.ntmps31
            go_wp2
            go_ret
            refine ⟨?_, (Below.refl _ _).alloc (Nat.le_refl _) _⟩
            rw [HR.out.1 (by first | (unfold May; simp only; omega) | (unfold May; simp; done) | (unfold May; simp; omega))]
            first | rfl | (simp; done) | (simp; omega)
      · by_cases h3 : k = 2
        · subst h3
          by_cases h4 : c = 0
          · subst h4
            go_enter Tryd.func31, Tryd.ntmps31
            go_wp2
            go_ret
            refine ⟨?_, (Below.refl _ _).alloc (Nat.le_refl _) _⟩
            rw [HR.out.1 (by first | (unfold May; simp only; omega) | (unfold May; simp; done) | (unfold May; simp; omega))]
            first | rfl | (simp; done) | (simp; omega)
          · go_enter Tryd.func31, Tryd.ntmps31
            go_wp2
            go_ret
            refine ⟨?_, (Below.refl _ _).alloc (Nat.le_refl _) _⟩
            rw [HR.out.2 (by first | (unfold May; simp only; omega) | (unfold May; simp; done) | (unfold May; simp; omega))]
            first | rfl | (simp; done) | (simp; omega)
        · by_cases h3 : k = 3
          · subst h3
            by_cases h4 : c = 0
            · subst h4
              by_cases h5 : v < 1
              · go_enter Tryd.func31, Tryd.ntmps31
                go_wp2
                go_ret
                refine ⟨?_, (Below.refl _ _).alloc (Nat.le_refl _) _⟩
                rw [HR.out.2 (by first | (unfold May; simp only; omega) | (unfold May; simp; done) | (unfold May; simp; omega))]
                first | rfl | (simp; done) | (simp; omega)
              · by_cases h6 : 15 < v
                · go_enter Tryd.func31, Tryd.ntmps31
                  go_wp2
                  go_ret
                  refine ⟨?_, (Below.refl _ _).alloc (Nat.le_refl _) _⟩
                  rw [HR.out.2 (by first | (unfold May; simp only; omega) | (unfold May; simp; done) | (unfold May; simp; omega))]
                  first | rfl | (simp; done) | (simp; omega)
                · go_enter Tryd.func31, Tryd.ntmps31
                  go_wp2
                  go_ret
                  refine ⟨?_, (Below.refl _ _).alloc (Nat.le_refl _) _⟩
                  rw [HR.out.1 (by first | (unfold May; simp only; omega) | (unfold May; simp; done) | (unfold May; simp; omega))]
                  first | rfl | (simp; done) | (simp; omega)
            · go_enter Tryd.func31, Tryd.ntmps31
              go_wp2
              go_ret
              refine ⟨?_, (Below.refl _ _).alloc (Nat.le_refl _) _⟩
              rw [HR.out.2 (by first | (unfold May; simp only; omega) | (unfold May; simp; done) | (unfold May; simp; omega))]
              first | rfl | (simp; done) | (simp; omega)
          · by_cases h3 : k = 4
            · subst h3
              by_cases h4 : c = 0
              · subst h4
                go_enter Tryd.func31, Tryd.ntmps31
                go_wp2
                go_ret
                refine ⟨?_, (Below.refl _ _).alloc (Nat.le_refl _) _⟩
                rw [HR.out.1 (by first | (unfold May; simp only; omega) | (unfold May; simp; done) | (unfold May; simp; omega))]
                first | rfl | (simp; done) | (simp; omega)
              · go_enter Tryd.func31, Tryd.ntmps31
                go_wp2
                go_ret
                refine ⟨?_, (Below.refl _ _).alloc (Nat.le_refl _) _⟩
                rw [HR.out.2 (by first | (unfold May; simp only; omega) | (unfold May; simp; done) | (unfold May; simp; omega))]
                first | rfl | (simp; done) | (simp; omega)
            · go_enter Tryd.func31, Tryd.ntmps31
              go_wp2
              go_ret
              refine ⟨?_, (Below.refl _ _).alloc (Nat.le_refl _) _⟩
              rw [HR.out.2 (by first | (unfold May; simp only; omega) | (unfold May; simp; done) | (unfold May; simp; omega))]
              first | rfl | (simp; done) | (simp; omega)
end Go.Proofs.YtpcaeggecojaeaaDoor

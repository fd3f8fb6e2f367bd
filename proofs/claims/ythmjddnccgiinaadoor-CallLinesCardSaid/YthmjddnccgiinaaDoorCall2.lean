/-
  Walks over the reference of package call: Name, Many, Code. No condition.
-/
import Derived.Test.YthmjddnccgiinaaDoorCall1
namespace Go.Proofs.YthmjddnccgiinaaDoor
open Go.RowKit
set_option linter.unusedVariables false
set_option linter.unusedSimpArgs false
set_option maxHeartbeats 8000000 in
theorem refName_any {w : World} (n : Int) (hlo : -9223372036854775808 ≤ n) : Calls Tryd.prog 9 #[.int .i64 n] w fun e w' => e = .returned (.string (kN (kR n))) ∧ Below w.heap.size w w' := by
  by_cases h : 1 ≤ n ∧ n < 23
  · have hc : n = 1 ∨ n = 2 ∨ n = 3 ∨ n = 4 ∨ n = 5 ∨ n = 6 ∨ n = 7 ∨ n = 8 ∨ n = 9 ∨ n = 10 ∨ n = 11 ∨ n = 12 ∨ n = 13 ∨ n = 14 ∨ n = 15 ∨ n = 16 ∨ n = 17 ∨ n = 18 ∨ n = 19 ∨ n = 20 ∨ n = 21 ∨ n = 22 := by omega
    clear h hlo
    rcases hc with rfl | rfl | rfl | rfl | rfl | rfl | rfl | rfl | rfl | rfl | rfl | rfl | rfl | rfl | rfl | rfl | rfl | rfl | rfl | rfl | rfl | rfl
    all_goals
      go_enter Tryd.func9, Tryd.ntmps9
      go_wp2
      go_ret
      exact ⟨rfl, (Below.refl _ _).alloc (Nat.le_refl _) _⟩
  · rw [kR_out (by omega)]
    by_cases hn : n < 1
    · clear h
      go_enter Tryd.func9, Tryd.ntmps9
      go_wp2
      go_ret
      exact ⟨rfl, (Below.refl _ _).alloc (Nat.le_refl _) _⟩
    · have hn2 : 22 < n := by omega
      clear h
      go_enter Tryd.func9, Tryd.ntmps9
      go_wp2
      go_ret
      exact ⟨rfl, (Below.refl _ _).alloc (Nat.le_refl _) _⟩
set_option maxHeartbeats 8000000 in
theorem refMany_any {w : World} (n : Int) : Calls Tryd.prog 14 #[.int .i64 n] w fun e w' => e = .returned (.int .i64 (kM (kR n))) ∧ w = w' := by
  by_cases h : 1 ≤ n ∧ n < 23
  · have hc : n = 1 ∨ n = 2 ∨ n = 3 ∨ n = 4 ∨ n = 5 ∨ n = 6 ∨ n = 7 ∨ n = 8 ∨ n = 9 ∨ n = 10 ∨ n = 11 ∨ n = 12 ∨ n = 13 ∨ n = 14 ∨ n = 15 ∨ n = 16 ∨ n = 17 ∨ n = 18 ∨ n = 19 ∨ n = 20 ∨ n = 21 ∨ n = 22 := by omega
    clear h
    rcases hc with rfl | rfl | rfl | rfl | rfl | rfl | rfl | rfl | rfl | rfl | rfl | rfl | rfl | rfl | rfl | rfl | rfl | rfl | rfl | rfl | rfl | rfl
    all_goals
      go_enter Tryd.func14, Tryd.ntmps14
      go_wp2
      go_ret
      exact ⟨rfl, rfl⟩
  · rw [kR_out (by omega)]
    have n2 : (n == 2) = false := beq_eq_false_iff_ne.2 (by omega)
    have n4 : (n == 4) = false := beq_eq_false_iff_ne.2 (by omega)
    have n5 : (n == 5) = false := beq_eq_false_iff_ne.2 (by omega)
    have n14 : (n == 14) = false := beq_eq_false_iff_ne.2 (by omega)
    have n18 : (n == 18) = false := beq_eq_false_iff_ne.2 (by omega)
    have n1 : (n == 1) = false := beq_eq_false_iff_ne.2 (by omega)
    have n3 : (n == 3) = false := beq_eq_false_iff_ne.2 (by omega)
    have n6 : (n == 6) = false := beq_eq_false_iff_ne.2 (by omega)
    have n9 : (n == 9) = false := beq_eq_false_iff_ne.2 (by omega)
    have n10 : (n == 10) = false := beq_eq_false_iff_ne.2 (by omega)
    have n12 : (n == 12) = false := beq_eq_false_iff_ne.2 (by omega)
    have n17 : (n == 17) = false := beq_eq_false_iff_ne.2 (by omega)
    have n21 : (n == 21) = false := beq_eq_false_iff_ne.2 (by omega)
    have n22 : (n == 22) = false := beq_eq_false_iff_ne.2 (by omega)
    have n11 : (n == 11) = false := beq_eq_false_iff_ne.2 (by omega)
    have n13 : (n == 13) = false := beq_eq_false_iff_ne.2 (by omega)
    have n15 : (n == 15) = false := beq_eq_false_iff_ne.2 (by omega)
    have n16 : (n == 16) = false := beq_eq_false_iff_ne.2 (by omega)
    have n20 : (n == 20) = false := beq_eq_false_iff_ne.2 (by omega)
    have n7 : (n == 7) = false := beq_eq_false_iff_ne.2 (by omega)
    have n8 : (n == 8) = false := beq_eq_false_iff_ne.2 (by omega)
    have n19 : (n == 19) = false := beq_eq_false_iff_ne.2 (by omega)
    clear h
    go_enter Tryd.func14, Tryd.ntmps14
    go_wp2
    go_ret
    exact ⟨rfl, rfl⟩

/-- A code's word; none: no such code. -/
def codeOf (c : Int) : ByteArray := ⟨(((codesL.find? fun x => x.1 == c).map fun x => x.2).getD []).toArray⟩
theorem codeOf_hit {k : Nat} (hk : k < 15) : codeOf (cN k) = cS k := by
  have : k = 0 ∨ k = 1 ∨ k = 2 ∨ k = 3 ∨ k = 4 ∨ k = 5 ∨ k = 6 ∨ k = 7 ∨ k = 8 ∨ k = 9 ∨ k = 10 ∨ k = 11 ∨ k = 12 ∨ k = 13 ∨ k = 14 := by omega
  rcases this with rfl | rfl | rfl | rfl | rfl | rfl | rfl | rfl | rfl | rfl | rfl | rfl | rfl | rfl | rfl <;> rfl
theorem codeOf_none {c : Int} (h : ∀ k, k < 15 → cN k ≠ c) : codeOf c = ⟨#[]⟩ := by
  have : codesL.find? (fun x => x.1 == c) = none := by
    rw [List.find?_eq_none]
    intro x hx
    obtain ⟨k, hk, rfl⟩ := List.getElem_of_mem hx
    have := h k hk
    simp only [beq_iff_eq]
    intro he
    apply this
    unfold cN
    rw [List.getD_eq_getElem?_getD, List.getElem?_eq_getElem hk]
    exact he
  unfold codeOf
  rw [this]
  rfl
theorem codeOf_out {c : Int} (h : ¬ (c = 1 ∨ c = 3 ∨ c = 4 ∨ c = 9 ∨ c = 10 ∨ c = 11 ∨ c = 12 ∨ c = 14 ∨ c = 16 ∨ c = 22 ∨ c = 23 ∨ c = 24 ∨ c = 32 ∨ c = 38 ∨ c = 60)) : codeOf c = ⟨#[]⟩ := codeOf_none (fun k hk he => by
  have : k = 0 ∨ k = 1 ∨ k = 2 ∨ k = 3 ∨ k = 4 ∨ k = 5 ∨ k = 6 ∨ k = 7 ∨ k = 8 ∨ k = 9 ∨ k = 10 ∨ k = 11 ∨ k = 12 ∨ k = 13 ∨ k = 14 := by omega
  rcases this with rfl | rfl | rfl | rfl | rfl | rfl | rfl | rfl | rfl | rfl | rfl | rfl | rfl | rfl | rfl <;> (have he' : _ = c := he; simp only [cN, codesL, List.getD_cons_zero, List.getD_cons_succ] at he'; omega))
set_option maxHeartbeats 8000000 in
theorem refCode_any {w : World} (n : Int) : Calls Tryd.prog 17 #[.int .i64 n] w fun e w' => e = .returned (.string (codeOf n)) ∧ w = w' := by
  by_cases h : n = 1 ∨ n = 3 ∨ n = 4 ∨ n = 9 ∨ n = 10 ∨ n = 11 ∨ n = 12 ∨ n = 14 ∨ n = 16 ∨ n = 22 ∨ n = 23 ∨ n = 24 ∨ n = 32 ∨ n = 38 ∨ n = 60
  · rcases h with rfl | rfl | rfl | rfl | rfl | rfl | rfl | rfl | rfl | rfl | rfl | rfl | rfl | rfl | rfl
    all_goals
      go_enter Tryd.func17, Tryd.ntmps17
      go_wp2
      go_ret
      exact ⟨rfl, rfl⟩
  · rw [codeOf_out h]
    have n1 : (n == 1) = false := beq_eq_false_iff_ne.2 (by omega)
    have n3 : (n == 3) = false := beq_eq_false_iff_ne.2 (by omega)
    have n4 : (n == 4) = false := beq_eq_false_iff_ne.2 (by omega)
    have n9 : (n == 9) = false := beq_eq_false_iff_ne.2 (by omega)
    have n10 : (n == 10) = false := beq_eq_false_iff_ne.2 (by omega)
    have n11 : (n == 11) = false := beq_eq_false_iff_ne.2 (by omega)
    have n12 : (n == 12) = false := beq_eq_false_iff_ne.2 (by omega)
    have n14 : (n == 14) = false := beq_eq_false_iff_ne.2 (by omega)
    have n16 : (n == 16) = false := beq_eq_false_iff_ne.2 (by omega)
    have n22 : (n == 22) = false := beq_eq_false_iff_ne.2 (by omega)
    have n23 : (n == 23) = false := beq_eq_false_iff_ne.2 (by omega)
    have n24 : (n == 24) = false := beq_eq_false_iff_ne.2 (by omega)
    have n32 : (n == 32) = false := beq_eq_false_iff_ne.2 (by omega)
    have n38 : (n == 38) = false := beq_eq_false_iff_ne.2 (by omega)
    have n60 : (n == 60) = false := beq_eq_false_iff_ne.2 (by omega)
    clear h
    go_enter Tryd.func17, Tryd.ntmps17
    go_wp2
    go_ret
    exact ⟨rfl, rfl⟩
end Go.Proofs.YthmjddnccgiinaaDoor

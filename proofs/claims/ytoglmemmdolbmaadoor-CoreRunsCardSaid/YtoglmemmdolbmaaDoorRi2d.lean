/-
  The document's May, walked: some of the ways. No condition.
-/
import Derived.Deep.QuietTactic
import Derived.Test.YtoglmemmdolbmaaDoorRi2h
namespace Go.Proofs.YtoglmemmdolbmaaDoor.I
section
open Go.RowKit
set_option linter.unusedVariables false
set_option linter.unusedSimpArgs false
attribute [local go_sem] Oper.semAt_some

set_option maxRecDepth 100000 in
set_option maxHeartbeats 8000000 in
theorem may_w24t {w : World} (n a m ma mb : Int) (nm l : ByteArray) (R : Bool) (h0 : nm.toList.isEmpty = false)
    (HN : Hid (∀ W, Calls Tryd.prog 73 #[.int .i64 n] W fun e w' => e = .returned (.string nm) ∧ Below W.heap.size W w'))
    (HL : Hid (∀ W, Calls Tryd.prog 74 #[.int .i64 n] W fun e w' => e = .returned (.string l) ∧ w' = W))
    (HA : Hid (∀ W, Calls Tryd.prog 75 #[.string l, .int .u8 97] W fun e w' => e = .returned (.bool true) ∧ w' = W))
    (HB : Hid (∀ W, Calls Tryd.prog 75 #[.string l, .int .u8 98] W fun e w' => e = .returned (.bool false) ∧ w' = W))
    (HC : Hid (∀ W, Calls Tryd.prog 75 #[.string l, .int .u8 105] W fun e w' => e = .returned (.bool true) ∧ w' = W))
    (HMA : Hid (∀ W, Calls Tryd.prog 76 #[.int .i64 n, .int .u8 97] W fun e w' => e = .returned (.int .i64 ma) ∧ w' = W))
    (HMB : Hid (∀ W, Calls Tryd.prog 76 #[.int .i64 n, .int .u8 98] W fun e w' => e = .returned (.int .i64 mb) ∧ w' = W))
    (HR : Hid ((FldI true ma a ∧ FldI false mb 0 ∧ ImmI true m → R = true) ∧ (¬ (FldI true ma a ∧ FldI false mb 0 ∧ ImmI true m) → R = false))) (h1 : ¬ a < 0) (h2 : ¬ ma < a) :
    Calls Tryd.prog 53 #[.agg #[.int .i64 n, .int .i64 a, .int .i64 0, .int .i64 m]] w fun e w' => e = .returned (.bool R) ∧ Below w.heap.size w w' := by
  have HB0 := Lib.hid ((Below.refl w.heap.size w).alloc (Nat.le_refl _) (.cells #[.int .i64 n, .int .i64 a, .int .i64 0, .int .i64 m] 38))
  have hx0 := Blk.new w 38 #[.int .i64 n, .int .i64 a, .int .i64 0, .int .i64 m]
  have HX := Lib.hid hx0
  clear hx0
  go_enter Tryd.func53, Tryd.ntmps53
  go_wp2_with fail
  refine (HN.out _).mono ?_
  rintro e W ⟨rfl, hb⟩
  have hx := HX.out.below hb HX.out.lt
  have HBW := Lib.hid (bl_step HB0.out hb)
  obtain ⟨x0, x1, x2, x3, xlt⟩ := ccells hx
  clear hb hx HX HB0
  go_wp2_with fail
  refine (HL.out _).mono ?_
  rintro e W' ⟨rfl, rfl⟩
  clear HL HN
  go_wp2_with fail
  go_quiet ((first | ((go_at_call 75; first | exact Calls.quiet_of_same (HA.out _) | exact quiet_add_same' (HA.out _))) | ((go_at_call 76; first | exact Calls.quiet_of_same (HMA.out _) | exact quiet_add_same' (HMA.out _)))))
  go_wp2_with fail
  go_quiet ((first | ((go_at_call 75; first | exact Calls.quiet_of_same (HB.out _) | exact quiet_add_same' (HB.out _))) | ((go_at_call 76; first | exact Calls.quiet_of_same (HMB.out _) | exact quiet_add_same' (HMB.out _)))))
  have HV := Lib.hid (show R = (decide (-32768 ≤ m) && decide (m ≤ 32767)) from by
    by_cases hi : ImmI true m
    · rw [HR.out.1 ⟨(by unfold FldI; simp only [Bool.false_eq_true, Bool.true_eq_false, reduceCtorEq, false_and, true_and, false_or, or_false] <;> omega), (by unfold FldI; simp only [Bool.false_eq_true, Bool.true_eq_false, reduceCtorEq, false_and, true_and, false_or, or_false] <;> omega), hi⟩]
      unfold ImmI at hi
      simp at hi ⊢
      try omega
    · rw [HR.out.2 (fun e => absurd e.2.2 hi)]
      unfold ImmI at hi
      simp at hi ⊢
      try omega)
  clear HR
  by_cases f1 : -32768 ≤ m
  · by_cases f2 : m ≤ 32767
    · obtain rfl : R = true := by rw [HV.out]; simp [f1, f2]
      go_wp2_with (go_at_call 75; refine (HC.out _).mono ?_; rintro e W8 ⟨rfl, rfl⟩)
      all_goals
        go_ret
        exact ⟨by first | rfl | (simp [f2]; done) | (simp; omega), by first | exact below_dn HBW.out _ | exact below_dn (below_dn HBW.out _) _⟩
    · obtain rfl : R = false := by rw [HV.out]; simp [f2]; try omega
      go_wp2_with (go_at_call 75; refine (HC.out _).mono ?_; rintro e W8 ⟨rfl, rfl⟩)
      all_goals
        go_ret
        exact ⟨by first | rfl | (simp [f2]; done) | (simp; omega), by first | exact below_dn HBW.out _ | exact below_dn (below_dn HBW.out _) _⟩
  · obtain rfl : R = false := by rw [HV.out]; simp; intro h; omega
    go_wp2_with (go_at_call 75; refine (HC.out _).mono ?_; rintro e W8 ⟨rfl, rfl⟩)
    all_goals
      go_ret
      exact ⟨by first | rfl | (simp [f1]; done) | (simp; omega), by first | exact below_dn HBW.out _ | exact below_dn (below_dn HBW.out _) _⟩

set_option maxRecDepth 100000 in
set_option maxHeartbeats 8000000 in
theorem may_w24f {w : World} (n a m ma mb : Int) (nm l : ByteArray) (R : Bool) (h0 : nm.toList.isEmpty = false)
    (HN : Hid (∀ W, Calls Tryd.prog 73 #[.int .i64 n] W fun e w' => e = .returned (.string nm) ∧ Below W.heap.size W w'))
    (HL : Hid (∀ W, Calls Tryd.prog 74 #[.int .i64 n] W fun e w' => e = .returned (.string l) ∧ w' = W))
    (HA : Hid (∀ W, Calls Tryd.prog 75 #[.string l, .int .u8 97] W fun e w' => e = .returned (.bool true) ∧ w' = W))
    (HB : Hid (∀ W, Calls Tryd.prog 75 #[.string l, .int .u8 98] W fun e w' => e = .returned (.bool false) ∧ w' = W))
    (HC : Hid (∀ W, Calls Tryd.prog 75 #[.string l, .int .u8 105] W fun e w' => e = .returned (.bool false) ∧ w' = W))
    (HMA : Hid (∀ W, Calls Tryd.prog 76 #[.int .i64 n, .int .u8 97] W fun e w' => e = .returned (.int .i64 ma) ∧ w' = W))
    (HMB : Hid (∀ W, Calls Tryd.prog 76 #[.int .i64 n, .int .u8 98] W fun e w' => e = .returned (.int .i64 mb) ∧ w' = W))
    (HR : Hid ((FldI true ma a ∧ FldI false mb 0 ∧ ImmI false m → R = true) ∧ (¬ (FldI true ma a ∧ FldI false mb 0 ∧ ImmI false m) → R = false))) (h1 : ¬ a < 0) (h2 : ¬ ma < a) :
    Calls Tryd.prog 53 #[.agg #[.int .i64 n, .int .i64 a, .int .i64 0, .int .i64 m]] w fun e w' => e = .returned (.bool R) ∧ Below w.heap.size w w' := by
  have HB0 := Lib.hid ((Below.refl w.heap.size w).alloc (Nat.le_refl _) (.cells #[.int .i64 n, .int .i64 a, .int .i64 0, .int .i64 m] 38))
  have hx0 := Blk.new w 38 #[.int .i64 n, .int .i64 a, .int .i64 0, .int .i64 m]
  have HX := Lib.hid hx0
  clear hx0
  go_enter Tryd.func53, Tryd.ntmps53
  go_wp2_with fail
  refine (HN.out _).mono ?_
  rintro e W ⟨rfl, hb⟩
  have hx := HX.out.below hb HX.out.lt
  have HBW := Lib.hid (bl_step HB0.out hb)
  obtain ⟨x0, x1, x2, x3, xlt⟩ := ccells hx
  clear hb hx HX HB0
  go_wp2_with fail
  refine (HL.out _).mono ?_
  rintro e W' ⟨rfl, rfl⟩
  clear HL HN
  go_wp2_with fail
  go_quiet ((first | ((go_at_call 75; first | exact Calls.quiet_of_same (HA.out _) | exact quiet_add_same' (HA.out _))) | ((go_at_call 76; first | exact Calls.quiet_of_same (HMA.out _) | exact quiet_add_same' (HMA.out _)))))
  go_wp2_with fail
  go_quiet ((first | ((go_at_call 75; first | exact Calls.quiet_of_same (HB.out _) | exact quiet_add_same' (HB.out _))) | ((go_at_call 76; first | exact Calls.quiet_of_same (HMB.out _) | exact quiet_add_same' (HMB.out _)))))
  have HV := Lib.hid (show R = (m == 0) from by
    by_cases hi : ImmI false m
    · rw [HR.out.1 ⟨(by unfold FldI; simp only [Bool.false_eq_true, Bool.true_eq_false, reduceCtorEq, false_and, true_and, false_or, or_false] <;> omega), (by unfold FldI; simp only [Bool.false_eq_true, Bool.true_eq_false, reduceCtorEq, false_and, true_and, false_or, or_false] <;> omega), hi⟩]
      unfold ImmI at hi
      simp at hi ⊢
      try omega
    · rw [HR.out.2 (fun e => absurd e.2.2 hi)]
      unfold ImmI at hi
      simp at hi ⊢
      try omega)
  clear HR
  by_cases f1 : m = 0
  · subst f1
    obtain rfl : R = true := by rw [HV.out]; rfl
    go_wp2_with (go_at_call 75; refine (HC.out _).mono ?_; rintro e W8 ⟨rfl, rfl⟩)
    all_goals
      go_ret
      exact ⟨by first | rfl | (simp; done) | (simp; omega), by first | exact below_dn HBW.out _ | exact below_dn (below_dn HBW.out _) _⟩
  · obtain rfl : R = false := by rw [HV.out]; simp [f1]
    go_wp2_with (go_at_call 75; refine (HC.out _).mono ?_; rintro e W8 ⟨rfl, rfl⟩)
    all_goals
      go_ret
      exact ⟨by first | rfl | (simp [f1]; done) | (simp; omega), by first | exact below_dn HBW.out _ | exact below_dn (below_dn HBW.out _) _⟩
end
end Go.Proofs.YtoglmemmdolbmaaDoor.I
namespace Go.Proofs.YtoglmemmdolbmaaDoor.I
section
open Go.RowKit
set_option linter.unusedVariables false
set_option linter.unusedSimpArgs false
attribute [local go_sem] Oper.semAt_some

set_option maxRecDepth 100000 in
set_option maxHeartbeats 8000000 in
theorem may_w40 {w : World} (n b m ma mb : Int) (nm l : ByteArray) (pc R : Bool) (h0 : nm.toList.isEmpty = false)
    (HN : Hid (∀ W, Calls Tryd.prog 73 #[.int .i64 n] W fun e w' => e = .returned (.string nm) ∧ Below W.heap.size W w'))
    (HL : Hid (∀ W, Calls Tryd.prog 74 #[.int .i64 n] W fun e w' => e = .returned (.string l) ∧ w' = W))
    (HA : Hid (∀ W, Calls Tryd.prog 75 #[.string l, .int .u8 97] W fun e w' => e = .returned (.bool false) ∧ w' = W))
    (HB : Hid (∀ W, Calls Tryd.prog 75 #[.string l, .int .u8 98] W fun e w' => e = .returned (.bool true) ∧ w' = W))
    (HC : Hid (∀ W, Calls Tryd.prog 75 #[.string l, .int .u8 105] W fun e w' => e = .returned (.bool pc) ∧ w' = W))
    (HMA : Hid (∀ W, Calls Tryd.prog 76 #[.int .i64 n, .int .u8 97] W fun e w' => e = .returned (.int .i64 ma) ∧ w' = W))
    (HMB : Hid (∀ W, Calls Tryd.prog 76 #[.int .i64 n, .int .u8 98] W fun e w' => e = .returned (.int .i64 mb) ∧ w' = W))
    (HR : Hid ((FldI false ma 0 ∧ FldI true mb b ∧ ImmI pc m → R = true) ∧ (¬ (FldI false ma 0 ∧ FldI true mb b ∧ ImmI pc m) → R = false))) (g1 : b < 0) :
    Calls Tryd.prog 53 #[.agg #[.int .i64 n, .int .i64 0, .int .i64 b, .int .i64 m]] w fun e w' => e = .returned (.bool R) ∧ Below w.heap.size w w' := by
  have HB0 := Lib.hid ((Below.refl w.heap.size w).alloc (Nat.le_refl _) (.cells #[.int .i64 n, .int .i64 0, .int .i64 b, .int .i64 m] 38))
  have hx0 := Blk.new w 38 #[.int .i64 n, .int .i64 0, .int .i64 b, .int .i64 m]
  have HX := Lib.hid hx0
  clear hx0
  go_enter Tryd.func53, Tryd.ntmps53
  go_wp2_with fail
  refine (HN.out _).mono ?_
  rintro e W ⟨rfl, hb⟩
  have hx := HX.out.below hb HX.out.lt
  have HBW := Lib.hid (bl_step HB0.out hb)
  obtain ⟨x0, x1, x2, x3, xlt⟩ := ccells hx
  clear hb hx HX HB0
  go_wp2_with fail
  refine (HL.out _).mono ?_
  rintro e W' ⟨rfl, rfl⟩
  clear HL HN
  go_wp2_with fail
  go_quiet ((first | ((go_at_call 75; first | exact Calls.quiet_of_same (HA.out _) | exact quiet_add_same' (HA.out _))) | ((go_at_call 76; first | exact Calls.quiet_of_same (HMA.out _) | exact quiet_add_same' (HMA.out _)))))
  go_wp2_with fail
  go_quiet ((first | ((go_at_call 75; first | exact Calls.quiet_of_same (HB.out _) | exact quiet_add_same' (HB.out _))) | ((go_at_call 76; first | exact Calls.quiet_of_same (HMB.out _) | exact quiet_add_same' (HMB.out _)))))
  go_wp2
  go_ret
  exact ⟨by rw [HR.out.2 (fun e => absurd e.2.1 (by unfold FldI; simp only [Bool.false_eq_true, Bool.true_eq_false, reduceCtorEq, false_and, true_and, false_or, or_false] <;> omega))]; rfl, by first | exact below_dn HBW.out _ | exact below_dn (below_dn HBW.out _) _⟩

set_option maxRecDepth 100000 in
set_option maxHeartbeats 8000000 in
theorem may_w41 {w : World} (n b m ma mb : Int) (nm l : ByteArray) (pc R : Bool) (h0 : nm.toList.isEmpty = false)
    (HN : Hid (∀ W, Calls Tryd.prog 73 #[.int .i64 n] W fun e w' => e = .returned (.string nm) ∧ Below W.heap.size W w'))
    (HL : Hid (∀ W, Calls Tryd.prog 74 #[.int .i64 n] W fun e w' => e = .returned (.string l) ∧ w' = W))
    (HA : Hid (∀ W, Calls Tryd.prog 75 #[.string l, .int .u8 97] W fun e w' => e = .returned (.bool false) ∧ w' = W))
    (HB : Hid (∀ W, Calls Tryd.prog 75 #[.string l, .int .u8 98] W fun e w' => e = .returned (.bool true) ∧ w' = W))
    (HC : Hid (∀ W, Calls Tryd.prog 75 #[.string l, .int .u8 105] W fun e w' => e = .returned (.bool pc) ∧ w' = W))
    (HMA : Hid (∀ W, Calls Tryd.prog 76 #[.int .i64 n, .int .u8 97] W fun e w' => e = .returned (.int .i64 ma) ∧ w' = W))
    (HMB : Hid (∀ W, Calls Tryd.prog 76 #[.int .i64 n, .int .u8 98] W fun e w' => e = .returned (.int .i64 mb) ∧ w' = W))
    (HR : Hid ((FldI false ma 0 ∧ FldI true mb b ∧ ImmI pc m → R = true) ∧ (¬ (FldI false ma 0 ∧ FldI true mb b ∧ ImmI pc m) → R = false))) (g1 : ¬ b < 0) (g2 : mb < b) :
    Calls Tryd.prog 53 #[.agg #[.int .i64 n, .int .i64 0, .int .i64 b, .int .i64 m]] w fun e w' => e = .returned (.bool R) ∧ Below w.heap.size w w' := by
  have G2 := Lib.hid g2
  clear g2
  have HB0 := Lib.hid ((Below.refl w.heap.size w).alloc (Nat.le_refl _) (.cells #[.int .i64 n, .int .i64 0, .int .i64 b, .int .i64 m] 38))
  have hx0 := Blk.new w 38 #[.int .i64 n, .int .i64 0, .int .i64 b, .int .i64 m]
  have HX := Lib.hid hx0
  clear hx0
  go_enter Tryd.func53, Tryd.ntmps53
  go_wp2_with fail
  refine (HN.out _).mono ?_
  rintro e W ⟨rfl, hb⟩
  have hx := HX.out.below hb HX.out.lt
  have HBW := Lib.hid (bl_step HB0.out hb)
  obtain ⟨x0, x1, x2, x3, xlt⟩ := ccells hx
  clear hb hx HX HB0
  go_wp2_with fail
  refine (HL.out _).mono ?_
  rintro e W' ⟨rfl, rfl⟩
  clear HL HN
  go_wp2_with fail
  go_quiet ((first | ((go_at_call 75; first | exact Calls.quiet_of_same (HA.out _) | exact quiet_add_same' (HA.out _))) | ((go_at_call 76; first | exact Calls.quiet_of_same (HMA.out _) | exact quiet_add_same' (HMA.out _)))))
  go_wp2_with fail
  have g3 : ¬ b ≤ mb := by have := G2.out; omega
  go_quiet ((first | ((go_at_call 75; first | exact Calls.quiet_of_same (HB.out _) | exact quiet_add_same' (HB.out _))) | ((go_at_call 76; first | exact Calls.quiet_of_same (HMB.out _) | exact quiet_add_same' (HMB.out _)))))
  have g2 := G2.out
  go_wp2
  go_ret
  exact ⟨by rw [HR.out.2 (fun e => absurd e.2.1 (by unfold FldI; simp only [Bool.false_eq_true, Bool.true_eq_false, reduceCtorEq, false_and, true_and, false_or, or_false] <;> omega))]; rfl, by first | exact below_dn HBW.out _ | exact below_dn (below_dn HBW.out _) _⟩

set_option maxRecDepth 100000 in
set_option maxHeartbeats 8000000 in
theorem may_w42t {w : World} (n b m ma mb : Int) (nm l : ByteArray) (R : Bool) (h0 : nm.toList.isEmpty = false)
    (HN : Hid (∀ W, Calls Tryd.prog 73 #[.int .i64 n] W fun e w' => e = .returned (.string nm) ∧ Below W.heap.size W w'))
    (HL : Hid (∀ W, Calls Tryd.prog 74 #[.int .i64 n] W fun e w' => e = .returned (.string l) ∧ w' = W))
    (HA : Hid (∀ W, Calls Tryd.prog 75 #[.string l, .int .u8 97] W fun e w' => e = .returned (.bool false) ∧ w' = W))
    (HB : Hid (∀ W, Calls Tryd.prog 75 #[.string l, .int .u8 98] W fun e w' => e = .returned (.bool true) ∧ w' = W))
    (HC : Hid (∀ W, Calls Tryd.prog 75 #[.string l, .int .u8 105] W fun e w' => e = .returned (.bool true) ∧ w' = W))
    (HMA : Hid (∀ W, Calls Tryd.prog 76 #[.int .i64 n, .int .u8 97] W fun e w' => e = .returned (.int .i64 ma) ∧ w' = W))
    (HMB : Hid (∀ W, Calls Tryd.prog 76 #[.int .i64 n, .int .u8 98] W fun e w' => e = .returned (.int .i64 mb) ∧ w' = W))
    (HR : Hid ((FldI false ma 0 ∧ FldI true mb b ∧ ImmI true m → R = true) ∧ (¬ (FldI false ma 0 ∧ FldI true mb b ∧ ImmI true m) → R = false))) (g1 : ¬ b < 0) (g2 : ¬ mb < b) :
    Calls Tryd.prog 53 #[.agg #[.int .i64 n, .int .i64 0, .int .i64 b, .int .i64 m]] w fun e w' => e = .returned (.bool R) ∧ Below w.heap.size w w' := by
  have HB0 := Lib.hid ((Below.refl w.heap.size w).alloc (Nat.le_refl _) (.cells #[.int .i64 n, .int .i64 0, .int .i64 b, .int .i64 m] 38))
  have hx0 := Blk.new w 38 #[.int .i64 n, .int .i64 0, .int .i64 b, .int .i64 m]
  have HX := Lib.hid hx0
  clear hx0
  go_enter Tryd.func53, Tryd.ntmps53
  go_wp2_with fail
  refine (HN.out _).mono ?_
  rintro e W ⟨rfl, hb⟩
  have hx := HX.out.below hb HX.out.lt
  have HBW := Lib.hid (bl_step HB0.out hb)
  obtain ⟨x0, x1, x2, x3, xlt⟩ := ccells hx
  clear hb hx HX HB0
  go_wp2_with fail
  refine (HL.out _).mono ?_
  rintro e W' ⟨rfl, rfl⟩
  clear HL HN
  go_wp2_with fail
  go_quiet ((first | ((go_at_call 75; first | exact Calls.quiet_of_same (HA.out _) | exact quiet_add_same' (HA.out _))) | ((go_at_call 76; first | exact Calls.quiet_of_same (HMA.out _) | exact quiet_add_same' (HMA.out _)))))
  go_wp2_with fail
  go_quiet ((first | ((go_at_call 75; first | exact Calls.quiet_of_same (HB.out _) | exact quiet_add_same' (HB.out _))) | ((go_at_call 76; first | exact Calls.quiet_of_same (HMB.out _) | exact quiet_add_same' (HMB.out _)))))
  have HV := Lib.hid (show R = (decide (-32768 ≤ m) && decide (m ≤ 32767)) from by
    by_cases hi : ImmI true m
    · rw [HR.out.1 ⟨(by unfold FldI; simp only [Bool.false_eq_true, Bool.true_eq_false, reduceCtorEq, false_and, true_and, false_or, or_false] <;> omega), (by unfold FldI; simp only [Bool.false_eq_true, Bool.true_eq_false, reduceCtorEq, false_and, true_and, false_or, or_false] <;> omega), hi⟩]
      unfold ImmI at hi
      simp at hi ⊢
      try omega
    · rw [HR.out.2 (fun e => absurd e.2.2 hi)]
      unfold ImmI at hi
      simp at hi ⊢
      try omega)
  clear HR
  by_cases f1 : -32768 ≤ m
  · by_cases f2 : m ≤ 32767
    · obtain rfl : R = true := by rw [HV.out]; simp [f1, f2]
      go_wp2_with (go_at_call 75; refine (HC.out _).mono ?_; rintro e W8 ⟨rfl, rfl⟩)
      all_goals
        go_ret
        exact ⟨by first | rfl | (simp [f2]; done) | (simp; omega), by first | exact below_dn HBW.out _ | exact below_dn (below_dn HBW.out _) _⟩
    · obtain rfl : R = false := by rw [HV.out]; simp [f2]; try omega
      go_wp2_with (go_at_call 75; refine (HC.out _).mono ?_; rintro e W8 ⟨rfl, rfl⟩)
      all_goals
        go_ret
        exact ⟨by first | rfl | (simp [f2]; done) | (simp; omega), by first | exact below_dn HBW.out _ | exact below_dn (below_dn HBW.out _) _⟩
  · obtain rfl : R = false := by rw [HV.out]; simp; intro h; omega
    go_wp2_with (go_at_call 75; refine (HC.out _).mono ?_; rintro e W8 ⟨rfl, rfl⟩)
    all_goals
      go_ret
      exact ⟨by first | rfl | (simp [f1]; done) | (simp; omega), by first | exact below_dn HBW.out _ | exact below_dn (below_dn HBW.out _) _⟩

set_option maxRecDepth 100000 in
set_option maxHeartbeats 8000000 in
theorem may_w42f {w : World} (n b m ma mb : Int) (nm l : ByteArray) (R : Bool) (h0 : nm.toList.isEmpty = false)
    (HN : Hid (∀ W, Calls Tryd.prog 73 #[.int .i64 n] W fun e w' => e = .returned (.string nm) ∧ Below W.heap.size W w'))
    (HL : Hid (∀ W, Calls Tryd.prog 74 #[.int .i64 n] W fun e w' => e = .returned (.string l) ∧ w' = W))
    (HA : Hid (∀ W, Calls Tryd.prog 75 #[.string l, .int .u8 97] W fun e w' => e = .returned (.bool false) ∧ w' = W))
    (HB : Hid (∀ W, Calls Tryd.prog 75 #[.string l, .int .u8 98] W fun e w' => e = .returned (.bool true) ∧ w' = W))
    (HC : Hid (∀ W, Calls Tryd.prog 75 #[.string l, .int .u8 105] W fun e w' => e = .returned (.bool false) ∧ w' = W))
    (HMA : Hid (∀ W, Calls Tryd.prog 76 #[.int .i64 n, .int .u8 97] W fun e w' => e = .returned (.int .i64 ma) ∧ w' = W))
    (HMB : Hid (∀ W, Calls Tryd.prog 76 #[.int .i64 n, .int .u8 98] W fun e w' => e = .returned (.int .i64 mb) ∧ w' = W))
    (HR : Hid ((FldI false ma 0 ∧ FldI true mb b ∧ ImmI false m → R = true) ∧ (¬ (FldI false ma 0 ∧ FldI true mb b ∧ ImmI false m) → R = false))) (g1 : ¬ b < 0) (g2 : ¬ mb < b) :
    Calls Tryd.prog 53 #[.agg #[.int .i64 n, .int .i64 0, .int .i64 b, .int .i64 m]] w fun e w' => e = .returned (.bool R) ∧ Below w.heap.size w w' := by
  have HB0 := Lib.hid ((Below.refl w.heap.size w).alloc (Nat.le_refl _) (.cells #[.int .i64 n, .int .i64 0, .int .i64 b, .int .i64 m] 38))
  have hx0 := Blk.new w 38 #[.int .i64 n, .int .i64 0, .int .i64 b, .int .i64 m]
  have HX := Lib.hid hx0
  clear hx0
  go_enter Tryd.func53, Tryd.ntmps53
  go_wp2_with fail
  refine (HN.out _).mono ?_
  rintro e W ⟨rfl, hb⟩
  have hx := HX.out.below hb HX.out.lt
  have HBW := Lib.hid (bl_step HB0.out hb)
  obtain ⟨x0, x1, x2, x3, xlt⟩ := ccells hx
  clear hb hx HX HB0
  go_wp2_with fail
  refine (HL.out _).mono ?_
  rintro e W' ⟨rfl, rfl⟩
  clear HL HN
  go_wp2_with fail
  go_quiet ((first | ((go_at_call 75; first | exact Calls.quiet_of_same (HA.out _) | exact quiet_add_same' (HA.out _))) | ((go_at_call 76; first | exact Calls.quiet_of_same (HMA.out _) | exact quiet_add_same' (HMA.out _)))))
  go_wp2_with fail
  go_quiet ((first | ((go_at_call 75; first | exact Calls.quiet_of_same (HB.out _) | exact quiet_add_same' (HB.out _))) | ((go_at_call 76; first | exact Calls.quiet_of_same (HMB.out _) | exact quiet_add_same' (HMB.out _)))))
  have HV := Lib.hid (show R = (m == 0) from by
    by_cases hi : ImmI false m
    · rw [HR.out.1 ⟨(by unfold FldI; simp only [Bool.false_eq_true, Bool.true_eq_false, reduceCtorEq, false_and, true_and, false_or, or_false] <;> omega), (by unfold FldI; simp only [Bool.false_eq_true, Bool.true_eq_false, reduceCtorEq, false_and, true_and, false_or, or_false] <;> omega), hi⟩]
      unfold ImmI at hi
      simp at hi ⊢
      try omega
    · rw [HR.out.2 (fun e => absurd e.2.2 hi)]
      unfold ImmI at hi
      simp at hi ⊢
      try omega)
  clear HR
  by_cases f1 : m = 0
  · subst f1
    obtain rfl : R = true := by rw [HV.out]; rfl
    go_wp2_with (go_at_call 75; refine (HC.out _).mono ?_; rintro e W8 ⟨rfl, rfl⟩)
    all_goals
      go_ret
      exact ⟨by first | rfl | (simp; done) | (simp; omega), by first | exact below_dn HBW.out _ | exact below_dn (below_dn HBW.out _) _⟩
  · obtain rfl : R = false := by rw [HV.out]; simp [f1]
    go_wp2_with (go_at_call 75; refine (HC.out _).mono ?_; rintro e W8 ⟨rfl, rfl⟩)
    all_goals
      go_ret
      exact ⟨by first | rfl | (simp [f1]; done) | (simp; omega), by first | exact below_dn HBW.out _ | exact below_dn (below_dn HBW.out _) _⟩

set_option maxRecDepth 100000 in
set_option maxHeartbeats 8000000 in
theorem may_w43 {w : World} (n b m ma mb : Int) (nm l : ByteArray) (pc R : Bool) (h0 : nm.toList.isEmpty = false)
    (HN : Hid (∀ W, Calls Tryd.prog 73 #[.int .i64 n] W fun e w' => e = .returned (.string nm) ∧ Below W.heap.size W w'))
    (HL : Hid (∀ W, Calls Tryd.prog 74 #[.int .i64 n] W fun e w' => e = .returned (.string l) ∧ w' = W))
    (HA : Hid (∀ W, Calls Tryd.prog 75 #[.string l, .int .u8 97] W fun e w' => e = .returned (.bool false) ∧ w' = W))
    (HB : Hid (∀ W, Calls Tryd.prog 75 #[.string l, .int .u8 98] W fun e w' => e = .returned (.bool false) ∧ w' = W))
    (HC : Hid (∀ W, Calls Tryd.prog 75 #[.string l, .int .u8 105] W fun e w' => e = .returned (.bool pc) ∧ w' = W))
    (HMA : Hid (∀ W, Calls Tryd.prog 76 #[.int .i64 n, .int .u8 97] W fun e w' => e = .returned (.int .i64 ma) ∧ w' = W))
    (HMB : Hid (∀ W, Calls Tryd.prog 76 #[.int .i64 n, .int .u8 98] W fun e w' => e = .returned (.int .i64 mb) ∧ w' = W))
    (HR : Hid ((FldI false ma 0 ∧ FldI false mb b ∧ ImmI pc m → R = true) ∧ (¬ (FldI false ma 0 ∧ FldI false mb b ∧ ImmI pc m) → R = false))) (g1 : ¬ b = 0) :
    Calls Tryd.prog 53 #[.agg #[.int .i64 n, .int .i64 0, .int .i64 b, .int .i64 m]] w fun e w' => e = .returned (.bool R) ∧ Below w.heap.size w w' := by
  have HB0 := Lib.hid ((Below.refl w.heap.size w).alloc (Nat.le_refl _) (.cells #[.int .i64 n, .int .i64 0, .int .i64 b, .int .i64 m] 38))
  have hx0 := Blk.new w 38 #[.int .i64 n, .int .i64 0, .int .i64 b, .int .i64 m]
  have HX := Lib.hid hx0
  clear hx0
  go_enter Tryd.func53, Tryd.ntmps53
  go_wp2_with fail
  refine (HN.out _).mono ?_
  rintro e W ⟨rfl, hb⟩
  have hx := HX.out.below hb HX.out.lt
  have HBW := Lib.hid (bl_step HB0.out hb)
  obtain ⟨x0, x1, x2, x3, xlt⟩ := ccells hx
  clear hb hx HX HB0
  go_wp2_with fail
  refine (HL.out _).mono ?_
  rintro e W' ⟨rfl, rfl⟩
  clear HL HN
  go_wp2_with fail
  go_quiet ((first | ((go_at_call 75; first | exact Calls.quiet_of_same (HA.out _) | exact quiet_add_same' (HA.out _))) | ((go_at_call 76; first | exact Calls.quiet_of_same (HMA.out _) | exact quiet_add_same' (HMA.out _)))))
  go_wp2_with fail
  go_quiet ((first | ((go_at_call 75; first | exact Calls.quiet_of_same (HB.out _) | exact quiet_add_same' (HB.out _))) | ((go_at_call 76; first | exact Calls.quiet_of_same (HMB.out _) | exact quiet_add_same' (HMB.out _)))))
  go_wp2
  go_ret
  exact ⟨by rw [HR.out.2 (fun e => absurd e.2.1 (by unfold FldI; simp only [Bool.false_eq_true, Bool.true_eq_false, reduceCtorEq, false_and, true_and, false_or, or_false] <;> omega))]; rfl, by first | exact below_dn HBW.out _ | exact below_dn (below_dn HBW.out _) _⟩

set_option maxRecDepth 100000 in
set_option maxHeartbeats 8000000 in
theorem may_w44t {w : World} (n m ma mb : Int) (nm l : ByteArray) (R : Bool) (h0 : nm.toList.isEmpty = false)
    (HN : Hid (∀ W, Calls Tryd.prog 73 #[.int .i64 n] W fun e w' => e = .returned (.string nm) ∧ Below W.heap.size W w'))
    (HL : Hid (∀ W, Calls Tryd.prog 74 #[.int .i64 n] W fun e w' => e = .returned (.string l) ∧ w' = W))
    (HA : Hid (∀ W, Calls Tryd.prog 75 #[.string l, .int .u8 97] W fun e w' => e = .returned (.bool false) ∧ w' = W))
    (HB : Hid (∀ W, Calls Tryd.prog 75 #[.string l, .int .u8 98] W fun e w' => e = .returned (.bool false) ∧ w' = W))
    (HC : Hid (∀ W, Calls Tryd.prog 75 #[.string l, .int .u8 105] W fun e w' => e = .returned (.bool true) ∧ w' = W))
    (HMA : Hid (∀ W, Calls Tryd.prog 76 #[.int .i64 n, .int .u8 97] W fun e w' => e = .returned (.int .i64 ma) ∧ w' = W))
    (HMB : Hid (∀ W, Calls Tryd.prog 76 #[.int .i64 n, .int .u8 98] W fun e w' => e = .returned (.int .i64 mb) ∧ w' = W))
    (HR : Hid ((FldI false ma 0 ∧ FldI false mb 0 ∧ ImmI true m → R = true) ∧ (¬ (FldI false ma 0 ∧ FldI false mb 0 ∧ ImmI true m) → R = false))) :
    Calls Tryd.prog 53 #[.agg #[.int .i64 n, .int .i64 0, .int .i64 0, .int .i64 m]] w fun e w' => e = .returned (.bool R) ∧ Below w.heap.size w w' := by
  have HB0 := Lib.hid ((Below.refl w.heap.size w).alloc (Nat.le_refl _) (.cells #[.int .i64 n, .int .i64 0, .int .i64 0, .int .i64 m] 38))
  have hx0 := Blk.new w 38 #[.int .i64 n, .int .i64 0, .int .i64 0, .int .i64 m]
  have HX := Lib.hid hx0
  clear hx0
  go_enter Tryd.func53, Tryd.ntmps53
  go_wp2_with fail
  refine (HN.out _).mono ?_
  rintro e W ⟨rfl, hb⟩
  have hx := HX.out.below hb HX.out.lt
  have HBW := Lib.hid (bl_step HB0.out hb)
  obtain ⟨x0, x1, x2, x3, xlt⟩ := ccells hx
  clear hb hx HX HB0
  go_wp2_with fail
  refine (HL.out _).mono ?_
  rintro e W' ⟨rfl, rfl⟩
  clear HL HN
  go_wp2_with fail
  go_quiet ((first | ((go_at_call 75; first | exact Calls.quiet_of_same (HA.out _) | exact quiet_add_same' (HA.out _))) | ((go_at_call 76; first | exact Calls.quiet_of_same (HMA.out _) | exact quiet_add_same' (HMA.out _)))))
  go_wp2_with fail
  go_quiet ((first | ((go_at_call 75; first | exact Calls.quiet_of_same (HB.out _) | exact quiet_add_same' (HB.out _))) | ((go_at_call 76; first | exact Calls.quiet_of_same (HMB.out _) | exact quiet_add_same' (HMB.out _)))))
  have HV := Lib.hid (show R = (decide (-32768 ≤ m) && decide (m ≤ 32767)) from by
    by_cases hi : ImmI true m
    · rw [HR.out.1 ⟨(by unfold FldI; simp only [Bool.false_eq_true, Bool.true_eq_false, reduceCtorEq, false_and, true_and, false_or, or_false] <;> omega), (by unfold FldI; simp only [Bool.false_eq_true, Bool.true_eq_false, reduceCtorEq, false_and, true_and, false_or, or_false] <;> omega), hi⟩]
      unfold ImmI at hi
      simp at hi ⊢
      try omega
    · rw [HR.out.2 (fun e => absurd e.2.2 hi)]
      unfold ImmI at hi
      simp at hi ⊢
      try omega)
  clear HR
  by_cases f1 : -32768 ≤ m
  · by_cases f2 : m ≤ 32767
    · obtain rfl : R = true := by rw [HV.out]; simp [f1, f2]
      go_wp2_with (go_at_call 75; refine (HC.out _).mono ?_; rintro e W8 ⟨rfl, rfl⟩)
      all_goals
        go_ret
        exact ⟨by first | rfl | (simp [f2]; done) | (simp; omega), by first | exact below_dn HBW.out _ | exact below_dn (below_dn HBW.out _) _⟩
    · obtain rfl : R = false := by rw [HV.out]; simp [f2]; try omega
      go_wp2_with (go_at_call 75; refine (HC.out _).mono ?_; rintro e W8 ⟨rfl, rfl⟩)
      all_goals
        go_ret
        exact ⟨by first | rfl | (simp [f2]; done) | (simp; omega), by first | exact below_dn HBW.out _ | exact below_dn (below_dn HBW.out _) _⟩
  · obtain rfl : R = false := by rw [HV.out]; simp; intro h; omega
    go_wp2_with (go_at_call 75; refine (HC.out _).mono ?_; rintro e W8 ⟨rfl, rfl⟩)
    all_goals
      go_ret
      exact ⟨by first | rfl | (simp [f1]; done) | (simp; omega), by first | exact below_dn HBW.out _ | exact below_dn (below_dn HBW.out _) _⟩

set_option maxRecDepth 100000 in
set_option maxHeartbeats 8000000 in
theorem may_w44f {w : World} (n m ma mb : Int) (nm l : ByteArray) (R : Bool) (h0 : nm.toList.isEmpty = false)
    (HN : Hid (∀ W, Calls Tryd.prog 73 #[.int .i64 n] W fun e w' => e = .returned (.string nm) ∧ Below W.heap.size W w'))
    (HL : Hid (∀ W, Calls Tryd.prog 74 #[.int .i64 n] W fun e w' => e = .returned (.string l) ∧ w' = W))
    (HA : Hid (∀ W, Calls Tryd.prog 75 #[.string l, .int .u8 97] W fun e w' => e = .returned (.bool false) ∧ w' = W))
    (HB : Hid (∀ W, Calls Tryd.prog 75 #[.string l, .int .u8 98] W fun e w' => e = .returned (.bool false) ∧ w' = W))
    (HC : Hid (∀ W, Calls Tryd.prog 75 #[.string l, .int .u8 105] W fun e w' => e = .returned (.bool false) ∧ w' = W))
    (HMA : Hid (∀ W, Calls Tryd.prog 76 #[.int .i64 n, .int .u8 97] W fun e w' => e = .returned (.int .i64 ma) ∧ w' = W))
    (HMB : Hid (∀ W, Calls Tryd.prog 76 #[.int .i64 n, .int .u8 98] W fun e w' => e = .returned (.int .i64 mb) ∧ w' = W))
    (HR : Hid ((FldI false ma 0 ∧ FldI false mb 0 ∧ ImmI false m → R = true) ∧ (¬ (FldI false ma 0 ∧ FldI false mb 0 ∧ ImmI false m) → R = false))) :
    Calls Tryd.prog 53 #[.agg #[.int .i64 n, .int .i64 0, .int .i64 0, .int .i64 m]] w fun e w' => e = .returned (.bool R) ∧ Below w.heap.size w w' := by
  have HB0 := Lib.hid ((Below.refl w.heap.size w).alloc (Nat.le_refl _) (.cells #[.int .i64 n, .int .i64 0, .int .i64 0, .int .i64 m] 38))
  have hx0 := Blk.new w 38 #[.int .i64 n, .int .i64 0, .int .i64 0, .int .i64 m]
  have HX := Lib.hid hx0
  clear hx0
  go_enter Tryd.func53, Tryd.ntmps53
  go_wp2_with fail
  refine (HN.out _).mono ?_
  rintro e W ⟨rfl, hb⟩
  have hx := HX.out.below hb HX.out.lt
  have HBW := Lib.hid (bl_step HB0.out hb)
  obtain ⟨x0, x1, x2, x3, xlt⟩ := ccells hx
  clear hb hx HX HB0
  go_wp2_with fail
  refine (HL.out _).mono ?_
  rintro e W' ⟨rfl, rfl⟩
  clear HL HN
  go_wp2_with fail
  go_quiet ((first | ((go_at_call 75; first | exact Calls.quiet_of_same (HA.out _) | exact quiet_add_same' (HA.out _))) | ((go_at_call 76; first | exact Calls.quiet_of_same (HMA.out _) | exact quiet_add_same' (HMA.out _)))))
  go_wp2_with fail
  go_quiet ((first | ((go_at_call 75; first | exact Calls.quiet_of_same (HB.out _) | exact quiet_add_same' (HB.out _))) | ((go_at_call 76; first | exact Calls.quiet_of_same (HMB.out _) | exact quiet_add_same' (HMB.out _)))))
  have HV := Lib.hid (show R = (m == 0) from by
    by_cases hi : ImmI false m
    · rw [HR.out.1 ⟨(by unfold FldI; simp only [Bool.false_eq_true, Bool.true_eq_false, reduceCtorEq, false_and, true_and, false_or, or_false] <;> omega), (by unfold FldI; simp only [Bool.false_eq_true, Bool.true_eq_false, reduceCtorEq, false_and, true_and, false_or, or_false] <;> omega), hi⟩]
      unfold ImmI at hi
      simp at hi ⊢
      try omega
    · rw [HR.out.2 (fun e => absurd e.2.2 hi)]
      unfold ImmI at hi
      simp at hi ⊢
      try omega)
  clear HR
  by_cases f1 : m = 0
  · subst f1
    obtain rfl : R = true := by rw [HV.out]; rfl
    go_wp2_with (go_at_call 75; refine (HC.out _).mono ?_; rintro e W8 ⟨rfl, rfl⟩)
    all_goals
      go_ret
      exact ⟨by first | rfl | (simp; done) | (simp; omega), by first | exact below_dn HBW.out _ | exact below_dn (below_dn HBW.out _) _⟩
  · obtain rfl : R = false := by rw [HV.out]; simp [f1]
    go_wp2_with (go_at_call 75; refine (HC.out _).mono ?_; rintro e W8 ⟨rfl, rfl⟩)
    all_goals
      go_ret
      exact ⟨by first | rfl | (simp [f1]; done) | (simp; omega), by first | exact below_dn HBW.out _ | exact below_dn (below_dn HBW.out _) _⟩
end
end Go.Proofs.YtoglmemmdolbmaaDoor.I

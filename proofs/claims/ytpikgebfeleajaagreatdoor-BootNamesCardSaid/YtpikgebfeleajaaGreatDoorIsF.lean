/-
  The law IsaBack, walked. Condition: the tables lie as the program's text, and the library's, lay them.
-/
import Derived.Test.YtpikgebfeleajaaGreatDoorIsE
import Derived.Test.YtpikgebfeleajaaGreatDoorIsPm
namespace Go.Proofs.YtpikgebfeleajaaGreatDoor.I
open Go.RowKit Go.Shelf
set_option linter.unusedVariables false
set_option linter.unusedSimpArgs false
attribute [local go_sem] Oper.semAt_some

theorem eqI (x y : Ins) (w : World) : (Op.equalIn 10000 86 (.agg #[.int .i64 x.op, .int .i64 x.a, .int .i64 x.b, .int .i64 x.imm]) (.agg #[.int .i64 y.op, .int .i64 y.a, .int .i64 y.b, .int .i64 y.imm])).run Tryz.prog w = .ok (decide (x = y)) w := by
  rw [show (10000 : Nat) = 9999 + 1 from rfl, run_equalIn_agg w 9999 86 _ _ (by kernel_rfl) Tryz.stoodInHeld86]
  have a3 := Tryz.isAgg3
  simp only [Program.fieldsOf, Tryz.underlying86]
  obtain ⟨n, a, b, c⟩ := x
  obtain ⟨n', a', b', c'⟩ := y
  go_simp
  by_cases h1 : n = n'
  case neg => simp [h1]
  by_cases h2 : a = a'
  case neg => simp [h1, h2]
  by_cases h3 : b = b'
  case neg => simp [h1, h2, h3]
  by_cases h4 : c = c' <;> simp [h1, h2, h3, h4]
theorem eqI_same (x : Ins) (w : World) : (Op.equalIn 10000 86 (.agg #[.int .i64 x.op, .int .i64 x.a, .int .i64 x.b, .int .i64 x.imm]) (.agg #[.int .i64 x.op, .int .i64 x.a, .int .i64 x.b, .int .i64 x.imm])).run Tryz.prog w = .ok (.true) w := by
  have h := eqI x x w
  rw [decide_eq_true rfl] at h
  exact h

end Go.Proofs.YtpikgebfeleajaaGreatDoor.I

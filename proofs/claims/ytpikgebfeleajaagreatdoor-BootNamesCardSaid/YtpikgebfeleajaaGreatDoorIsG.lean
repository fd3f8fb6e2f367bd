/-
  The law IsaBack for every input. Condition: the tables lie as the program's text, and the library's, lay them.
-/
import Derived.Test.YtpikgebfeleajaaGreatDoorIsF
namespace Go.Proofs.YtpikgebfeleajaaGreatDoor.I
open Go.RowKit Go.Shelf
set_option linter.unusedVariables false
set_option linter.unusedSimpArgs false
attribute [local go_sem] Oper.semAt_some

def lineB (x : Ins) : ByteArray := if MayI x then ⟨(lineI x).toArray⟩ else ⟨#[]⟩
theorem lineB_size (x : Ins) : (lineB x).size ≤ 80 := by
  unfold lineB
  split
  · rename_i h
    have := lineI_len h
    have e : (⟨(lineI x).toArray⟩ : ByteArray).size = (lineI x).length := List.size_toArray
    omega
  · exact Nat.zero_le _
theorem line_any {w : World} (hG : Ground w) (x : Ins) : Calls Tryz.prog 45 #[.agg #[.int .i64 x.op, .int .i64 x.a, .int .i64 x.b, .int .i64 x.imm]] w fun e w' => e = .returned (.tuple #[.string (lineB x), .int .i64 (errI x)]) ∧ Below w.heap.size w w' := by
  obtain ⟨op, a, b, m⟩ := x
  by_cases h : MayI ⟨op, a, b, m⟩
  · have h1 := lineI_yes hG op a b m h
    have e : lineB ⟨op, a, b, m⟩ = ⟨(lineI ⟨op, a, b, m⟩).toArray⟩ := if_pos h
    rw [e, errI_yes h]
    exact h1
  · have h1 := lineI_no hG.laid op a b m h
    have e : lineB ⟨op, a, b, m⟩ = ⟨#[]⟩ := if_neg h
    rw [e, errI_no h]
    exact h1
theorem decC_any {w : World} (hG : Ground w) (n : Int) (hn : RangeW n) (x : Ins) (k : Int) (hx : decO n = x) (hk : errI (decI n) = k) : Calls Tryz.prog 44 #[.int .u32 n] w fun e w' => e = .returned (.tuple #[.agg #[.int .i64 x.op, .int .i64 x.a, .int .i64 x.b, .int .i64 x.imm], .int .i64 k]) ∧ Below w.heap.size w w' := by
  have h := decode_any hG.laid n hn
  rw [hx, hk] at h
  exact h
theorem encC_any {w : World} (hG : Ground w) (x : Ins) : Calls Tryz.prog 54 #[.agg #[.int .i64 x.op, .int .i64 x.a, .int .i64 x.b, .int .i64 x.imm]] w fun e w' => e = .returned (.tuple #[.int .u32 (encW x), .int .i64 (errI x)]) ∧ Below w.heap.size w w' := encode_any hG.laid x.op x.a x.b x.imm
theorem readX_some {s : List UInt8} {x : Ins} (h : readI s = some x) : readX s = x ∧ readE s = 0 := by
  unfold readX readE
  rw [h]
  exact ⟨rfl, rfl⟩
theorem readX_none {s : List UInt8} (h : readI s = none) : readX s = x0 ∧ readE s = 30 := by
  unfold readX readE
  rw [h]
  exact ⟨rfl, rfl⟩

end Go.Proofs.YtpikgebfeleajaaGreatDoor.I

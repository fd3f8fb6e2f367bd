/-
  isa.Line, isa.Read: an instruction's line, a line's instruction. Condition: the tables lie as the program's text, and the library's, lay them.
-/
import Derived.Test.YtoglmemmdolbmaaGreatDoorIs5
namespace Go.Proofs.YtoglmemmdolbmaaGreatDoor.I
open Go.RowKit Go.Shelf
set_option linter.unusedVariables false
set_option linter.unusedSimpArgs false
attribute [local go_sem] Oper.semAt_some

theorem ret_line {x : ByteArray} {l : List UInt8} {n : Int} (h : x.data.toList = l) : Ending.returned (.tuple #[.string x, .int .i64 n]) = .returned (.tuple #[strV l, .int .i64 n]) := by
  rw [← h]
  show _ = Ending.returned (.tuple #[.string ⟨x.data.toList.toArray⟩, _])
  have : x = ⟨x.data.toList.toArray⟩ := bytes_eq rfl
  rw [← this]
def bsL (l : List UInt8) : ByteArray := ⟨l.toArray⟩
theorem bsL_app (a b : List UInt8) : bsL a ++ bsL b = bsL (a ++ b) := by
  refine bytes_eq ?_
  rw [ByteArray.data_append]
  simp [bsL]
theorem bsL_size (a : List UInt8) : (bsL a).size = a.length := rfl
theorem bsL_eta (s : ByteArray) : bsL s.data.toList = s := bytes_eq rfl
/-- One word more behind a line. -/
def addW (q : Bool) (n : Int) (s : List UInt8) : List UInt8 := if q then s ++ 32 :: Lib.itoa n else s
theorem lineI_is (x : Ins) : lineI x = addW (fI (fR x.op)) x.imm (addW (decide (0 ≤ fB (fR x.op))) x.b (addW (decide (0 ≤ fA (fR x.op))) x.a (nameI x.op))) := by
  unfold lineI wordsI addW
  by_cases h1 : 0 ≤ fA (fR x.op) <;> by_cases h2 : 0 ≤ fB (fR x.op) <;> cases h3 : fI (fR x.op) <;> simp [h1, h2, glue]
theorem addW_len (q : Bool) (n : Int) (s : List UInt8) (h0 : -9223372036854775808 ≤ n) (h1 : n ≤ 9223372036854775807) : (addW q n s).length ≤ s.length + 22 := by
  unfold addW
  split
  · have := itoa_len n h0 h1
    rw [List.length_append, List.length_cons]
    omega
  · omega
theorem row_len : ∀ k : Fin 31, (rowF k.1).1.length ≤ 5 := by decide +kernel
theorem nameI_len (n : Int) : (nameI n).length ≤ 5 := row_len ⟨fR n, by have := fR_le n; omega⟩
theorem lineI_len {x : Ins} (h : MayI x) : (lineI x).length ≤ 80 := by
  have hs := may_small h
  rw [lineI_is]
  have h0 := nameI_len x.op
  have h1 := addW_len (decide (0 ≤ fA (fR x.op))) x.a (nameI x.op) (by omega) (by omega)
  have h2 := addW_len (decide (0 ≤ fB (fR x.op))) x.b (addW (decide (0 ≤ fA (fR x.op))) x.a (nameI x.op)) (by omega) (by omega)
  have h3 := addW_len (fI (fR x.op)) x.imm (addW (decide (0 ≤ fB (fR x.op))) x.b (addW (decide (0 ≤ fA (fR x.op))) x.a (nameI x.op))) (by omega) (by omega)
  omega

/-- What a line reads as: an instruction and an error. -/
def readX (s : List UInt8) : Ins := (readI s).getD x0
def readE (s : List UInt8) : Int := if (readI s).isSome then 0 else 30
end Go.Proofs.YtoglmemmdolbmaaGreatDoor.I

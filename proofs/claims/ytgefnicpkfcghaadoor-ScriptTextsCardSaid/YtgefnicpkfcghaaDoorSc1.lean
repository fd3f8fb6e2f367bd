/-
  Package script: words of kinds; a number of an operation, told and given. Condition: the words' table lies as the program's text lays it.
-/
import Derived.Test.YtgefnicpkfcghaaDoorLines
import Derived.Test.YtgefnicpkfcghaaDoorRes
import Derived.Test.YtgefnicpkfcghaaDoorStr5
import Derived.Test.YtgefnicpkfcghaaDoorStr2
namespace Go.Proofs.YtgefnicpkfcghaaDoor
open Go.RowKit
set_option linter.unusedVariables false
set_option linter.unusedSimpArgs false

structure O where
  k : Int
  co : Int
  n : Int
  p : Int
  s : Int
  m : Int
  w : ByteArray
deriving DecidableEq
def O.cells (x : O) : List Value := [.int .i64 x.k, .int .i64 x.co, .int .i64 x.n, .int .i64 x.p, .int .i64 x.s, .int .u32 x.m, .string x.w]
/-- The kinds' words, by their numbers. -/
def kindL : List (List UInt8) := [[], [115, 116, 101, 112], [114, 117, 110], [116, 105, 99, 107], [114, 111, 116, 97, 116, 101], [115, 105, 103, 110, 97, 108], [99, 104, 101, 99, 107, 112, 111, 105, 110, 116], [100, 101, 115, 116, 114, 111, 121], [114, 101, 115, 116, 111, 114, 101], [109, 105, 103, 114, 97, 116, 101], [114, 111, 117, 110, 100], [99, 117, 116, 111, 118, 101, 114], [97, 98, 111, 114, 116]]
def kindW (k : Int) : List UInt8 := if 0 ≤ k ∧ k < 13 then kindL.getD k.toNat [] else []
def kindArr : Array Value := (kindL.map strV).toArray
def WordsAt (w : World) : Prop := ∃ t, Blk w 0 t kindArr
theorem WordsAt.lt {w : World} (h : WordsAt w) : 0 < w.heap.size := h.elim fun _ x => x.lt
theorem WordsAt.below {w w' : World} (h : WordsAt w) (hb : Below w.heap.size w w') : WordsAt w' := h.elim fun t x => ⟨t, x.below hb x.lt⟩
theorem words_at {w : World} (h : WordsAt w) {k : Nat} (hk : k < 13) : w.cell? ⟨0, k, none⟩ = some (.string ⟨(kindW k).toArray⟩) := by
  obtain ⟨t, h⟩ := h
  rw [h.cell]
  have hl : kindL[k]? = some (kindW k) := by
    unfold kindW
    rw [if_pos (by omega), List.getD_eq_getElem?_getD, Int.toNat_natCast, List.getElem?_eq_getElem (show k < kindL.length from hk)]
    rfl
  unfold kindArr
  rw [List.getElem?_toArray, List.getElem?_map, hl]
  rfl

theorem name_any {w : World} (hW : WordsAt w) (k : Int) :
    Calls Tryd.prog 15 #[.int .i64 k] w fun e w' => e = .returned (strV (kindW k)) ∧ w' = w := by
  by_cases h0 : k < 0
  · have hn : kindW k = [] := if_neg (by omega)
    rw [hn]
    clear hW hn
    go_enter Tryd.func15, Tryd.ntmps15
    go_wp2
    go_ret
    exact ⟨rfl, rfl⟩
  · by_cases h1 : 13 ≤ k
    · have hn : kindW k = [] := if_neg (by omega)
      rw [hn]
      clear hW hn
      go_enter Tryd.func15, Tryd.ntmps15
      go_wp2
      go_ret
      exact ⟨rfl, rfl⟩
    · obtain ⟨j, rfl⟩ : ∃ j : Nat, k = j := ⟨k.toNat, by omega⟩
      have hc := words_at hW (k := j) (by omega)
      obtain ⟨sj, hsj⟩ : ∃ sj : ByteArray, sj = ⟨(kindW j).toArray⟩ := ⟨_, rfl⟩
      rw [← hsj] at hc
      have e : strV (kindW j) = .string sj := by rw [hsj]; rfl
      rw [e]
      have hj : (j : Int) < 13 := by omega
      clear hW hsj e
      go_enter Tryd.func15, Tryd.ntmps15
      go_wp2
      go_ret
      exact ⟨rfl, rfl⟩

/-- A number of an operation: c, n, p, s, and else the mask. -/
def getO (x : O) (b : Nat) : Int := if b = 99 then x.co else if b = 110 then x.n else if b = 112 then x.p else if b = 115 then x.s else x.m
def putO (x : O) (b : Nat) (v : Int) : O := if b = 99 then { x with co := v } else if b = 110 then { x with n := v } else if b = 112 then { x with p := v } else if b = 115 then { x with s := v } else { x with m := v % 4294967296 }
def fineP (b : Nat) (v : Int) : Bool := if b = 99 then decide (0 ≤ v) && decide (v < 8) else if b = 110 then decide (0 ≤ v) else if b = 112 then decide (1 ≤ v) && decide (v ≤ 65535) else if b = 115 then decide (1 ≤ v) && decide (v ≤ 15) else decide (0 ≤ v) && decide (v ≤ 255)
def isPart (b : Nat) : Prop := b = 99 ∨ b = 110 ∨ b = 112 ∨ b = 115 ∨ b = 109

theorem isPart_cases (b : Nat) : b = 99 ∨ b = 110 ∨ b = 112 ∨ b = 115 ∨ (¬ b = 99 ∧ ¬ b = 110 ∧ ¬ b = 112 ∧ ¬ b = 115) := by omega
set_option maxHeartbeats 2000000 in
theorem get_any {w : World} (k co n p s m : Int) (nm : ByteArray) (hm : 0 ≤ m ∧ m ≤ 4294967295) (b : Nat) :
    Calls Tryd.prog 28 #[.agg #[.int .i64 k, .int .i64 co, .int .i64 n, .int .i64 p, .int .i64 s, .int .u32 m, .string nm], .int .u8 (b : Int)] w fun e w' => e = .returned (.int .i64 (getO ⟨k, co, n, p, s, m, nm⟩ b)) ∧ Below w.heap.size w w' := by
  rcases isPart_cases b with rfl | rfl | rfl | rfl | ⟨h1, h2, h3, h4⟩
  case inr.inr.inr.inr =>
    have e : getO ⟨k, co, n, p, s, m, nm⟩ b = m := by unfold getO; rw [if_neg h1, if_neg h2, if_neg h3, if_neg h4]
    rw [e]
    have i1 : ¬ (b : Int) = 99 := by omega
    have i2 : ¬ (b : Int) = 110 := by omega
    have i3 : ¬ (b : Int) = 112 := by omega
    have i4 : ¬ (b : Int) = 115 := by omega
    clear e h1 h2 h3 h4
    go_enter Tryd.func28, Tryd.ntmps28
    go_wp2
    go_ret
    exact ⟨rfl, (Below.refl _ _).alloc (Nat.le_refl _) _⟩
  all_goals
    go_enter Tryd.func28, Tryd.ntmps28
    go_wp2
    go_ret
    exact ⟨rfl, (Below.refl _ _).alloc (Nat.le_refl _) _⟩
end Go.Proofs.YtgefnicpkfcghaaDoor

/-
  The document's May. No condition.
-/
import Derived.Deep.QuietTactic
import Derived.Test.YtkodeoocebimkaaDoorRi1
namespace Go.Proofs.YtkodeoocebimkaaDoor
open Go.RowKit
set_option linter.unusedVariables false
set_option linter.unusedSimpArgs false
attribute [local go_sem] Oper.semAt_some

set_option maxHeartbeats 2000000 in
theorem refHas_any {w : World} (s : ByteArray) (hs : s.size ≤ 1000000) (c : UInt8) :
    Calls Tryd.prog 30 #[.string s, .int .u8 (c.toNat : Int)] w fun e w' => e = .returned (.bool (decide (c ∈ s.data.toList))) ∧ w' = w := by
  obtain ⟨R, hR⟩ : ∃ R : Bool, decide (c ∈ s.data.toList) = R := ⟨_, rfl⟩
  rw [hR]
  have HR := Lib.hid hR
  clear hR
  obtain ⟨m, hm⟩ : ∃ m : Int, (c.toNat : Int) = m := ⟨_, rfl⟩
  have HM := Lib.hid hm
  rw [hm]
  clear hm
  go_enter Tryd.func30, Tryd.ntmps30
  go_wp2
  go_loopw [5] (fun i wr => wr = w ∧ ∃ k : Nat, i = .int .i64 (k : Int) ∧ k ≤ s.size ∧ Hid (∀ j, j < k → s.data.toList[j]? ≠ some c)) (fun i _ => s.size - (intOf i).toNat)
  case atStart => exact ⟨rfl, 0, rfl, Nat.zero_le _, fun j hj => absurd hj (Nat.not_lt_zero j)⟩
  case round =>
    obtain ⟨rfl, k, rfl, hk, hV⟩ := hrel
    have hsl : s.data.toList.length = s.size := by rw [Array.length_toList]; rfl
    by_cases hks : k < s.size
    · have hka : (k : Int) < (s.size : Int) := by omega
      have hcs : s.data.toList[k]? = some s[k] := by rw [List.getElem?_eq_getElem (by omega), Array.getElem_toList]; rfl
      by_cases hc : s[k] = c
      · have hb : ((s[k].toNat : Int) == m) = true := by rw [hc, HM.out]; simp
        have hr : R = true := by rw [← HR.out]; exact decide_eq_true (hc ▸ List.mem_of_getElem? hcs)
        subst hr
        clear hcs hsl hc
        go_wp2
        go_ret
        exact ⟨rfl, rfl⟩
      · have hb : ((s[k].toNat : Int) == m) = false := by
          rw [beq_eq_false_iff_ne]
          intro h
          exact hc (UInt8.toNat_inj.1 (by have := HM.out; omega))
        have hn : ∀ j, j < k + 1 → s.data.toList[j]? ≠ some c := fun j hj => by
          rcases Nat.lt_or_ge j k with h | h
          · exact hV.out j h
          · have : j = k := by omega
            subst this
            rw [hcs]
            intro e
            injection e with e
            exact hc e
        have HN := Lib.hid hn
        clear hcs hsl hc hn
        go_wp2
        go_roundw
        case rel => exact ⟨trivial, k + 1, by go_num, by omega, HN⟩
        case measure => simp [intOf]; omega
    · have hka : ¬ (k : Int) < (s.size : Int) := by omega
      have hr : R = false := by
        rw [← HR.out]
        refine decide_eq_false fun h => ?_
        obtain ⟨j, hj, e⟩ := List.getElem_of_mem h
        exact hV.out j (by omega) (by rw [List.getElem?_eq_getElem hj, e])
      subst hr
      clear hsl
      go_wp2
      go_ret
      exact ⟨rfl, rfl⟩

theorem below_dn {B : Nat} {a w : World} (h : Below B a w) (n : Nat) : Below B a (w.drewN n) := h.trans ⟨rfl, rfl, rfl, Nat.le_refl _, fun _ _ => rfl⟩
/-! ## may an instruction be? -/
theorem fld_row : ∀ k : Fin 30, (decide ((97 : UInt8) ∈ letsI (k.1 : Int)) = decide (0 ≤ fA k.1)) ∧ (decide ((98 : UInt8) ∈ letsI (k.1 : Int)) = decide (0 ≤ fB k.1)) ∧ (decide ((105 : UInt8) ∈ letsI (k.1 : Int)) = fI k.1) ∧ (0 ≤ fA k.1 → mostI (k.1 : Int) 97 = fA k.1) ∧ (0 ≤ fB k.1 → mostI (k.1 : Int) 98 = fB k.1) ∧ (fN k.1).toList.isEmpty = false ∧ (letsI (k.1 : Int)).length ≤ 3 := by decide +kernel
theorem quiet_add_same' {P : Program} {f : FuncId} {args : Array Value} {w : World} {a n : Nat} {v : Value}
    (h : Calls P f args (w.drewN (a + n)) fun e w' => e = .returned v ∧ w' = w.drewN (a + n)) :
    Calls P f args (w.drewN (a + n)) fun e w'' => e = .returned v ∧ ∃ m, w'' = w.drewN (a + m) :=
  h.mono fun _ _ ⟨he, hm⟩ => ⟨he, n, hm⟩
/-- A field: it is named and lies within, or it is not and is 0. -/
def FldI (p : Bool) (m a : Int) : Prop := (p = true ∧ 0 ≤ a ∧ a ≤ m) ∨ (p = false ∧ a = 0)
def ImmI (p : Bool) (m : Int) : Prop := (p = true ∧ -32768 ≤ m ∧ m ≤ 32767) ∨ (p = false ∧ m = 0)
/-- What the document's May answers. -/
def MayC : Prop := ∀ (W : World) (n a b m : Int), Calls Tryd.prog 10 #[.agg #[.int .i64 n, .int .i64 a, .int .i64 b, .int .i64 m]] W fun e w' => e = .returned (.bool (decide (MayI ⟨n, a, b, m⟩))) ∧ Below W.heap.size W w'
end Go.Proofs.YtkodeoocebimkaaDoor

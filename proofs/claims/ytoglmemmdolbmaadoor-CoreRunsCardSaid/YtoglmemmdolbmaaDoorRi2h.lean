/-
  The document's May. No condition.
-/
import Derived.Laws.IdiomStrings
import Derived.Test.YtoglmemmdolbmaaDoorIs3
import Derived.BigQuiet
import Derived.Deep.QuietTactic
namespace Go.Proofs.YtoglmemmdolbmaaDoor.I
section
open Go.RowKit
set_option linter.unusedVariables false
set_option linter.unusedSimpArgs false
attribute [local go_sem] Oper.semAt_some

def namesA : Array Value := #[.string ⟨#[110, 111, 112]⟩, .string ⟨#[108, 105]⟩, .string ⟨#[108, 117, 105]⟩, .string ⟨#[109, 111, 118]⟩, .string ⟨#[97, 100, 100]⟩, .string ⟨#[115, 117, 98]⟩, .string ⟨#[109, 117, 108]⟩, .string ⟨#[97, 110, 100]⟩, .string ⟨#[111, 114]⟩, .string ⟨#[120, 111, 114]⟩, .string ⟨#[115, 104, 108]⟩, .string ⟨#[115, 104, 114]⟩, .string ⟨#[97, 100, 100, 105]⟩, .string ⟨#[115, 108, 116]⟩, .string ⟨#[115, 101, 113]⟩, .string ⟨#[108, 119]⟩, .string ⟨#[115, 119]⟩, .string ⟨#[108, 98]⟩, .string ⟨#[115, 98]⟩, .string ⟨#[106, 109, 112]⟩, .string ⟨#[106, 122]⟩, .string ⟨#[106, 110, 122]⟩, .string ⟨#[106, 97, 108]⟩, .string ⟨#[106, 114]⟩, .string ⟨#[115, 121, 115]⟩, .string ⟨#[122, 115, 101, 116]⟩, .string ⟨#[122, 103, 101, 116]⟩, .string ⟨#[122, 97, 100, 100]⟩, .string ⟨#[122, 109, 117, 108]⟩, .string ⟨#[122, 99, 111, 110, 106]⟩]
theorem namesA_at {k : Nat} (hk : k < 30) : namesA[k]? = some (.string (fN k)) := by
  rcases (show k = 0 ∨ k = 1 ∨ k = 2 ∨ k = 3 ∨ k = 4 ∨ k = 5 ∨ k = 6 ∨ k = 7 ∨ k = 8 ∨ k = 9 ∨ k = 10 ∨ k = 11 ∨ k = 12 ∨ k = 13 ∨ k = 14 ∨ k = 15 ∨ k = 16 ∨ k = 17 ∨ k = 18 ∨ k = 19 ∨ k = 20 ∨ k = 21 ∨ k = 22 ∨ k = 23 ∨ k = 24 ∨ k = 25 ∨ k = 26 ∨ k = 27 ∨ k = 28 ∨ k = 29 by omega) with rfl | rfl | rfl | rfl | rfl | rfl | rfl | rfl | rfl | rfl | rfl | rfl | rfl | rfl | rfl | rfl | rfl | rfl | rfl | rfl | rfl | rfl | rfl | rfl | rfl | rfl | rfl | rfl | rfl | rfl <;> rfl

set_option maxRecDepth 100000 in
set_option maxHeartbeats 4000000 in
theorem refName_any {w : World} (n : Int) : Calls Tryd.prog 73 #[.int .i64 n] w fun e w' => e = .returned (.string (fN (fR n))) ∧ Below w.heap.size w w' := by
  have HB := Lib.hid ((Below.refl w.heap.size w).alloc (Nat.le_refl _) (.cells namesA 9))
  by_cases h0 : n < 0
  · have hr := Lib.hid (fR_out (n := n) (by omega))
    go_enter Tryd.func73, Tryd.ntmps73
    go_wp2
    go_ret
    exact ⟨by rw [hr.out]; rfl, HB.out⟩
  · by_cases h1 : n < 30
    · obtain ⟨k, rfl⟩ := Int.eq_ofNat_of_zero_le (show 0 ≤ n by omega)
      have hk : k < 30 := by omega
      have hr := Lib.hid (fR_in hk)
      have hc : (w.alloc (.cells #[.string ⟨#[110, 111, 112]⟩, .string ⟨#[108, 105]⟩, .string ⟨#[108, 117, 105]⟩, .string ⟨#[109, 111, 118]⟩, .string ⟨#[97, 100, 100]⟩, .string ⟨#[115, 117, 98]⟩, .string ⟨#[109, 117, 108]⟩, .string ⟨#[97, 110, 100]⟩, .string ⟨#[111, 114]⟩, .string ⟨#[120, 111, 114]⟩, .string ⟨#[115, 104, 108]⟩, .string ⟨#[115, 104, 114]⟩, .string ⟨#[97, 100, 100, 105]⟩, .string ⟨#[115, 108, 116]⟩, .string ⟨#[115, 101, 113]⟩, .string ⟨#[108, 119]⟩, .string ⟨#[115, 119]⟩, .string ⟨#[108, 98]⟩, .string ⟨#[115, 98]⟩, .string ⟨#[106, 109, 112]⟩, .string ⟨#[106, 122]⟩, .string ⟨#[106, 110, 122]⟩, .string ⟨#[106, 97, 108]⟩, .string ⟨#[106, 114]⟩, .string ⟨#[115, 121, 115]⟩, .string ⟨#[122, 115, 101, 116]⟩, .string ⟨#[122, 103, 101, 116]⟩, .string ⟨#[122, 97, 100, 100]⟩, .string ⟨#[122, 109, 117, 108]⟩, .string ⟨#[122, 99, 111, 110, 106]⟩] 9)).cell? ⟨w.heap.size, k, none⟩ = some (.string (fN k)) :=
        ((Blk.new w 9 namesA).cell k).trans (namesA_at hk)
      have h2 : ¬ (30 : Int) ≤ (k : Int) := by omega
      go_enter Tryd.func73, Tryd.ntmps73
      go_wp2
      go_ret
      exact ⟨by rw [hr.out]; rfl, HB.out⟩
    · have hr := Lib.hid (fR_out (n := n) (by omega))
      have h2 : (30 : Int) ≤ n := by omega
      go_enter Tryd.func73, Tryd.ntmps73
      go_wp2
      go_ret
      exact ⟨by rw [hr.out]; rfl, HB.out⟩

/-- What an instruction names. -/
def letsI (n : Int) : List UInt8 := if 0 ≤ n ∧ n < 30 then (if 0 ≤ fA (fR n) then [97] else []) ++ ((if 0 ≤ fB (fR n) then [98] else []) ++ (if fI (fR n) = true then [105] else [])) else [97, 98]
def letR : Nat → List UInt8 := fun k => [[], [97, 105], [97, 105], [97, 98], [97, 98], [97, 98], [97, 98], [97, 98], [97, 98], [97, 98], [97, 98], [97, 98], [97, 105], [97, 98], [97, 98], [97, 98, 105], [97, 98, 105], [97, 98, 105], [97, 98, 105], [105], [97, 105], [97, 105], [97, 105], [97], [], [97, 98], [97, 98], [97, 98], [97, 98], [97]].getD k []
theorem letsI_row : ∀ k : Fin 30, letsI (k.1 : Int) = letR k.1 := by decide +kernel
set_option maxHeartbeats 4000000 in
theorem refNames_any {w : World} (n : Int) : Calls Tryd.prog 74 #[.int .i64 n] w fun e w' => e = .returned (.string ⟨(letsI n).toArray⟩) ∧ w' = w := by
  by_cases h : 0 ≤ n ∧ n < 30
  · obtain ⟨k, rfl⟩ := Int.eq_ofNat_of_zero_le h.1
    have hk : k < 30 := by omega
    rw [show letsI (k : Int) = letR k from letsI_row ⟨k, hk⟩]
    clear h
    rcases (show k = 0 ∨ k = 1 ∨ k = 2 ∨ k = 3 ∨ k = 4 ∨ k = 5 ∨ k = 6 ∨ k = 7 ∨ k = 8 ∨ k = 9 ∨ k = 10 ∨ k = 11 ∨ k = 12 ∨ k = 13 ∨ k = 14 ∨ k = 15 ∨ k = 16 ∨ k = 17 ∨ k = 18 ∨ k = 19 ∨ k = 20 ∨ k = 21 ∨ k = 22 ∨ k = 23 ∨ k = 24 ∨ k = 25 ∨ k = 26 ∨ k = 27 ∨ k = 28 ∨ k = 29 by omega) with rfl | rfl | rfl | rfl | rfl | rfl | rfl | rfl | rfl | rfl | rfl | rfl | rfl | rfl | rfl | rfl | rfl | rfl | rfl | rfl | rfl | rfl | rfl | rfl | rfl | rfl | rfl | rfl | rfl | rfl
    all_goals
      go_enter Tryd.func74, Tryd.ntmps74
      go_wp2
      go_ret
      exact ⟨rfl, rfl⟩
  · have e : letsI n = [97, 98] := if_neg h
    rw [e]
    have h0 : ¬ n = 0 := by omega
    have h1 : ¬ n = 1 := by omega
    have h2 : ¬ n = 2 := by omega
    have h12 : ¬ n = 12 := by omega
    have h20 : ¬ n = 20 := by omega
    have h21 : ¬ n = 21 := by omega
    have h22 : ¬ n = 22 := by omega
    have h15 : ¬ n = 15 := by omega
    have h16 : ¬ n = 16 := by omega
    have h17 : ¬ n = 17 := by omega
    have h18 : ¬ n = 18 := by omega
    have h19 : ¬ n = 19 := by omega
    have h23 : ¬ n = 23 := by omega
    have h29 : ¬ n = 29 := by omega
    have h24 : ¬ n = 24 := by omega
    clear h e
    go_enter Tryd.func74, Tryd.ntmps74
    go_wp2
    go_ret
    exact ⟨rfl, rfl⟩
def mostI (n c : Int) : Int := if n < 25 then 7 else if c = 98 ∧ n < 27 then 6 else 1
theorem refMost_any {w : World} (n c : Int) : Calls Tryd.prog 76 #[.int .i64 n, .int .u8 c] w fun e w' => e = .returned (.int .i64 (mostI n c)) ∧ w' = w := by
  by_cases h1 : n < 25
  · rw [show mostI n c = 7 from if_pos h1]
    go_enter Tryd.func76, Tryd.ntmps76
    go_wp2
    go_ret
    exact ⟨rfl, rfl⟩
  · by_cases h2 : c = 98
    · by_cases h3 : n < 27
      · rw [show mostI n c = 6 from by unfold mostI; rw [if_neg h1, if_pos ⟨h2, h3⟩]]
        go_enter Tryd.func76, Tryd.ntmps76
        go_wp2
        go_ret
        exact ⟨rfl, rfl⟩
      · rw [show mostI n c = 1 from by unfold mostI; rw [if_neg h1, if_neg (by omega)]]
        go_enter Tryd.func76, Tryd.ntmps76
        go_wp2
        go_ret
        exact ⟨rfl, rfl⟩
    · rw [show mostI n c = 1 from by unfold mostI; rw [if_neg h1, if_neg (by omega)]]
      go_enter Tryd.func76, Tryd.ntmps76
      go_wp2
      go_ret
      exact ⟨rfl, rfl⟩
end
end Go.Proofs.YtoglmemmdolbmaaDoor.I
namespace Go.Proofs.YtoglmemmdolbmaaDoor.I
section
open Go.RowKit
set_option linter.unusedVariables false
set_option linter.unusedSimpArgs false
attribute [local go_sem] Oper.semAt_some

set_option maxHeartbeats 2000000 in
theorem refHas_any {w : World} (s : ByteArray) (hs : s.size ≤ 1000000) (c : UInt8) :
    Calls Tryd.prog 75 #[.string s, .int .u8 (c.toNat : Int)] w fun e w' => e = .returned (.bool (decide (c ∈ s.data.toList))) ∧ w' = w := by
  obtain ⟨R, hR⟩ : ∃ R : Bool, decide (c ∈ s.data.toList) = R := ⟨_, rfl⟩
  rw [hR]
  have HR := Lib.hid hR
  clear hR
  obtain ⟨m, hm⟩ : ∃ m : Int, (c.toNat : Int) = m := ⟨_, rfl⟩
  have HM := Lib.hid hm
  rw [hm]
  clear hm
  go_enter Tryd.func75, Tryd.ntmps75
  go_wp2
  go_loopw [5] (fun i wr => wr = w ∧ ∃ k : Nat, i = .int .i64 (k : Int) ∧ k ≤ s.size ∧ Hid (∀ j, j < k → s.data.toList[j]? ≠ some c)) (fun i _ => s.size - (intOf i).toNat)
  case atStart => exact ⟨rfl, 0, rfl, Nat.zero_le _, fun j hj => absurd hj (Nat.not_lt_zero j)⟩
  case round =>
    obtain ⟨rfl, k, rfl, hk, hV⟩ := hrel
    have hsl : s.data.toList.length = s.size := by rw [Array.length_toList]; rfl
    by_cases hks : k < s.size
    · have hka : (k : Int) < (s.size : Int) := by omega
      have hcs : s.data.toList[k]? = some s[k] := by rw [List.getElem?_eq_getElem (by omega), Array.getElem_toList]; rfl
      by_cases hc : s[k] = c
      · have hb : ((s[k].toNat : Int) == m) = true := by rw [hc, HM.out]; simp
        have hr : R = true := by rw [← HR.out]; exact decide_eq_true (hc ▸ List.mem_of_getElem? hcs)
        subst hr
        clear hcs hsl hc
        go_wp2
        go_ret
        exact ⟨rfl, rfl⟩
      · have hb : ((s[k].toNat : Int) == m) = false := by
          rw [beq_eq_false_iff_ne]
          intro h
          exact hc (UInt8.toNat_inj.1 (by have := HM.out; omega))
        have hn : ∀ j, j < k + 1 → s.data.toList[j]? ≠ some c := fun j hj => by
          rcases Nat.lt_or_ge j k with h | h
          · exact hV.out j h
          · have : j = k := by omega
            subst this
            rw [hcs]
            intro e
            injection e with e
            exact hc e
        have HN := Lib.hid hn
        clear hcs hsl hc hn
        go_wp2
        go_roundw
        case rel => exact ⟨trivial, k + 1, by go_num, by omega, HN⟩
        case measure => simp [intOf]; omega
    · have hka : ¬ (k : Int) < (s.size : Int) := by omega
      have hr : R = false := by
        rw [← HR.out]
        refine decide_eq_false fun h => ?_
        obtain ⟨j, hj, e⟩ := List.getElem_of_mem h
        exact hV.out j (by omega) (by rw [List.getElem?_eq_getElem hj, e])
      subst hr
      clear hsl
      go_wp2
      go_ret
      exact ⟨rfl, rfl⟩

theorem below_dn {B : Nat} {a w : World} (h : Below B a w) (n : Nat) : Below B a (w.drewN n) := h.trans ⟨rfl, rfl, rfl, Nat.le_refl _, fun _ _ => rfl⟩
/-! ## may an instruction be? -/
theorem fld_row : ∀ k : Fin 30, (decide ((97 : UInt8) ∈ letsI (k.1 : Int)) = decide (0 ≤ fA k.1)) ∧ (decide ((98 : UInt8) ∈ letsI (k.1 : Int)) = decide (0 ≤ fB k.1)) ∧ (decide ((105 : UInt8) ∈ letsI (k.1 : Int)) = fI k.1) ∧ (0 ≤ fA k.1 → mostI (k.1 : Int) 97 = fA k.1) ∧ (0 ≤ fB k.1 → mostI (k.1 : Int) 98 = fB k.1) ∧ (fN k.1).toList.isEmpty = false ∧ (letsI (k.1 : Int)).length ≤ 3 := by decide +kernel
theorem quiet_add_same' {P : Program} {f : FuncId} {args : Array Value} {w : World} {a n : Nat} {v : Value}
    (h : Calls P f args (w.drewN (a + n)) fun e w' => e = .returned v ∧ w' = w.drewN (a + n)) :
    Calls P f args (w.drewN (a + n)) fun e w'' => e = .returned v ∧ ∃ m, w'' = w.drewN (a + m) :=
  h.mono fun _ _ ⟨he, hm⟩ => ⟨he, n, hm⟩
/-- A field: it is named and lies within, or it is not and is 0. -/
def FldI (p : Bool) (m a : Int) : Prop := (p = true ∧ 0 ≤ a ∧ a ≤ m) ∨ (p = false ∧ a = 0)
def ImmI (p : Bool) (m : Int) : Prop := (p = true ∧ -32768 ≤ m ∧ m ≤ 32767) ∨ (p = false ∧ m = 0)
/-- What the document's May answers. -/
def MayC : Prop := ∀ (W : World) (n a b m : Int), Calls Tryd.prog 53 #[.agg #[.int .i64 n, .int .i64 a, .int .i64 b, .int .i64 m]] W fun e w' => e = .returned (.bool (decide (MayI ⟨n, a, b, m⟩))) ∧ Below W.heap.size W w'
end
end Go.Proofs.YtoglmemmdolbmaaDoor.I

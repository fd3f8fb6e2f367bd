/-
  Walks over the reference of package pages: Hole. No condition.
-/
import Derived.Test.YtgdimjcpdndklaaRef2
namespace Go.Proofs.Ytgdimjcpdndklaa
open Go.RowKit
set_option linter.unusedVariables false
set_option linter.unusedSimpArgs false

theorem hole_small (m : M) {n : Int} (h : n < 1) : hole m n = (0, false) := by unfold hole; rw [if_pos h]
/-- From p on, k pages looked at: none has. -/
def FreeTo (m : M) (p k : Nat) (b : Bool) : Prop := b = true ↔ ∀ j, p ≤ j → j < p + k → m j = none

set_option maxHeartbeats 4000000 in
theorem refHole_any {w : World} {base rt : Nat} {m : M} (h : RT w base rt (list m)) (n : Int) (hhi : n ≤ 9223372036854775807) : Calls Try.prog 38 #[.pointer (some ⟨rt, 0, none⟩), .int .i64 n] w
    fun e w' => e = .returned (.tuple #[.int .i64 (hole m n).1, .bool (hole m n).2]) ∧ Below w.heap.size w w' := by
  by_cases hn1 : n < 1
  · rw [hole_small m hn1]
    clear h
    go_enter Try.func38, Try.ntmps38
    go_wp2
    go_ret2
    exact ⟨rfl, Below.refl _ _⟩
  · obtain ⟨k, rfl⟩ := Int.eq_ofNat_of_zero_le (show 0 ≤ n by omega)
    have hk1 : 1 ≤ k := by omega
    have HR := Lib.hid (fun W (hb : Below w.heap.size w W) (p : Int) => refGet_any (h.below hb) p)
    obtain ⟨ha, hb, hh⟩ : ∃ ha hb, hole m (k : Int) = (ha, hb) := ⟨_, _, rfl⟩
    rw [hh]
    have HH := Lib.hid hh
    clear h hh
    go_enter Try.func38, Try.ntmps38
    go_wp2
    go_loopw [6] (fun sp wr => ∃ p : Nat, sp = .int .i64 (p : Int) ∧ p ≤ 64 ∧ (∀ p', p' < p → ¬ Win m k p') ∧ Below w.heap.size w wr) (fun sp _ => 64 - (intOf sp).toNat)
    case atStart => exact ⟨0, rfl, Nat.zero_le _, fun p' h => absurd h (Nat.not_lt_zero p'), Below.refl _ _⟩
    case round =>
      obtain ⟨p, rfl, hp, hno, hB⟩ := hrel
      rename World => wo
      by_cases hpk : p + k ≤ 64
      · have hp64 : (p : Int) < 64 := by omega
        have hkp : (k : Int) ≤ 64 - (p : Int) := by omega
        have HNO := Lib.hid hno
        clear hno
        go_wp2
        go_loopw [7, 8] (fun sf si wr => ∃ (i : Nat) (fr : Bool), si = .int .i64 (i : Int) ∧ i ≤ k ∧ sf = .bool fr ∧ FreeTo m p i fr ∧ Below w.heap.size w wr) (fun _ si _ => k - (intOf si).toNat)
        case atStart => exact ⟨0, true, rfl, Nat.zero_le _, rfl, ⟨fun _ j a b => by omega, fun _ => rfl⟩, hB⟩
        case round =>
          obtain ⟨i, fr, rfl, hi, rfl, hF, hB2⟩ := hrel
          have hsz := hB2.size
          by_cases hik : i < k
          · have hikb : (i : Int) < (k : Int) := by omega
            have hg := HR.out _ hB2 ((p : Int) + (i : Int))
            rw [show (p : Int) + (i : Int) = ((p + i : Nat) : Int) from by omega, look_nat m (show p + i < 64 by omega), show ((p + i : Nat) : Int) = (p : Int) + (i : Int) from by omega] at hg
            cases hm : m (p + i) with
            | none =>
              have hF2 : FreeTo m p (i + 1) fr := ⟨fun h j a b => by
                rcases Nat.lt_or_ge j (p + i) with h1 | h1
                · exact hF.1 h j a h1
                · rw [show j = p + i from by omega]; exact hm, fun h => hF.2 (fun j a b => h j a (by omega))⟩
              rw [hm] at hg
              simp only [gotV, Option.getD_none, Option.isSome_none, E.val, E.arr, E.zero] at hg
              have HG := Lib.hid hg
              have HF := Lib.hid hF2
              clear hg hm hF hF2
              go_wp2_with (go_at_call 36; refine HG.out.mono ?_; rintro e w4 ⟨rfl, hb4⟩)
              go_roundw
              case rel => exact ⟨i + 1, fr, by go_num, by omega, rfl, HF.out, hB2.trans ((hb4.alloc hb4.size _).mono hsz)⟩
              case measure => simp [intOf]; omega
            | some x =>
              have hF2 : FreeTo m p (i + 1) false := ⟨fun h => (by cases h), fun h => (by have := h (p + i) (by omega) (by omega); rw [hm] at this; cases this)⟩
              rw [hm] at hg
              obtain ⟨f, e1, e2, e3, e4⟩ := x
              simp only [gotV, Option.getD_some, Option.isSome_some, E.val, E.arr] at hg
              have HG := Lib.hid hg
              have HF := Lib.hid hF2
              clear hg hm hF hF2
              go_wp2_with (go_at_call 36; refine HG.out.mono ?_; rintro e w4 ⟨rfl, hb4⟩)
              go_roundw
              case rel => exact ⟨i + 1, false, by go_num, by omega, rfl, HF.out, hB2.trans ((hb4.alloc hb4.size _).mono hsz)⟩
              case measure => simp [intOf]; omega
          · have hikk : i = k := by omega
            subst hikk
            cases fr with
            | true =>
              have hwin : Win m i p := ⟨hpk, fun j a b => hF.1 rfl j a b⟩
              have hval := hole_found m i p hk1 hwin HNO.out
              have hpair := HH.out.symm.trans hval
              injection hpair with e1 e2
              subst e1 e2
              clear hval hwin hF
              go_wp2
              go_ret2
              exact ⟨rfl, hB2⟩
            | false =>
              have hno2 : ∀ p', p' < p + 1 → ¬ Win m i p' := fun p' hp' hw => by
                rcases Nat.lt_or_ge p' p with h1 | h1
                · exact HNO.out p' h1 hw
                · have : p' = p := by omega
                  subst this
                  have := hF.2 (fun j a b => hw.2 j a b)
                  cases this
              have HN2 := Lib.hid hno2
              clear hno2 hF
              go_wp2
              go_roundw
              case rel => exact ⟨p + 1, by go_num, by omega, HN2.out, hB2⟩
              case measure => simp [intOf]; omega
      · have hkp : ¬ (k : Int) ≤ 64 - (p : Int) := by omega
        have hval := hole_none m k hk1 (fun p' hw => by
          rcases Nat.lt_or_ge p' p with h1 | h1
          · exact hno p' h1 hw
          · have := hw.1; omega)
        have hpair := HH.out.symm.trans hval
        injection hpair with e1 e2
        subst e1 e2
        clear hval hno
        by_cases hp64 : p < 64
        · have hpb : (p : Int) < 64 := by omega
          go_wp2
          go_ret2
          exact ⟨rfl, hB⟩
        · have hpb : ¬ (p : Int) < 64 := by omega
          go_wp2
          go_ret2
          exact ⟨rfl, hB⟩
end Go.Proofs.Ytgdimjcpdndklaa

/-
  Two lists of words are the same. No condition.
-/
import Derived.Test.YtpikgebfeleajaaGreatDoorIsE
namespace Go.Proofs.YtpikgebfeleajaaGreatDoor
open Go.RowKit Go.Shelf
set_option linter.unusedVariables false
set_option linter.unusedSimpArgs false
attribute [local go_sem] Oper.semAt_some

set_option maxHeartbeats 1000000 in
theorem sameW_any {w : World} (A B : Option Addr) (ca cb : Nat) (xs ys : List Int) (hx : I.WordsAt w A xs) (hy : I.WordsAt w B ys) (hxl : xs.length ≤ 1000000) (hyl : ys.length ≤ 1000000) :
    Calls Tryz.prog 32 #[.slice A xs.length ca, .slice B ys.length cb] w fun e w' => e = .returned (.bool (decide (xs = ys))) ∧ Below w.heap.size w w' := by
  by_cases hlen : xs.length = ys.length
  · go_enter Tryz.func32, Tryz.ntmps32
    have hb : ((xs.length : Int) != (ys.length : Int)) = false := by simp [hlen]
    have HL := Lib.hid hlen
    clear hlen
    go_wp2
    go_loopw [5] (fun i wr => ∃ k : Nat, i = .int .i64 (k : Int) ∧ k ≤ xs.length ∧ (∀ j, j < k → xs[j]? = ys[j]?) ∧ Below w.heap.size w wr) (fun i _ => xs.length - (intOf i).toNat)
    case atStart => exact ⟨0, rfl, Nat.zero_le _, fun j hj => absurd hj (Nat.not_lt_zero j), Below.refl _ _⟩
    case round =>
      obtain ⟨k, rfl, hk, hpre, hB⟩ := hrel
      have HP := Lib.hid hpre
      clear hpre
      by_cases hki : k < xs.length
      · have hkb : (k : Int) < (xs.length : Int) := by omega
        have hlen := HL.out
        have hkb2 : (k : Int) < (ys.length : Int) := by omega
        have hxe : xs[k]? = some xs[k] := List.getElem?_eq_getElem hki
        have hye : ys[k]? = some (ys[k]'(by omega)) := List.getElem?_eq_getElem (by omega)
        obtain ⟨b, off, rfl, hbl, c0⟩ := I.wordsAt_cell (hx.below hB) hxe
        obtain ⟨b', off', rfl, hbl', d0⟩ := I.wordsAt_cell (hy.below hB) hye
        by_cases hxy : xs[k] = ys[k]'(by omega)
        · have hnx : ∀ j, j < k + 1 → xs[j]? = ys[j]? := fun j hj => by
            rcases Nat.lt_or_ge j k with h | h
            · exact HP.out j h
            · have : j = k := by omega
              subst this
              rw [hxe, hye, hxy]
          have HN := Lib.hid hnx
          generalize xs[k] = x at *
          generalize ys[k]'(by omega) = y at *
          have hb1 : (x != y) = false := by simp [hxy]
          clear hnx hxe hye hxy hlen hx hy
          go_wp2_with (go_quiet (fail))
          go_roundw
          case rel => exact ⟨k + 1, by go_num, by omega, HN.out, by first | exact hB | exact belowN hB _ | exact hB.drew⟩
          case measure => simp [intOf]; omega
        · have hne : decide (xs = ys) = false := decide_eq_false fun h => hxy (by subst h; rfl)
          have HNE := Lib.hid hne
          generalize xs[k] = x at *
          generalize ys[k]'(by omega) = y at *
          have hb1 : (x != y) = true := by simp [hxy]
          clear hxe hye hxy hlen hx hy hne
          go_wp2_with (go_quiet (fail))
          go_ret
          exact ⟨by rw [HNE.out]; rfl, by first | exact hB | exact belowN hB _ | exact hB.drew⟩
      · have hlen := HL.out
        have hxy : xs = ys := by
          apply List.ext_getElem?
          intro j
          rcases Nat.lt_or_ge j k with h | h
          · exact HP.out j h
          · rw [List.getElem?_eq_none (by omega), List.getElem?_eq_none (by omega)]
        have hd : decide (xs = ys) = true := decide_eq_true hxy
        have HD := Lib.hid hd
        clear hd hxy hlen
        go_wp2
        go_ret
        exact ⟨by rw [HD.out]; rfl, hB⟩
  · have hne : decide (xs = ys) = false := by simp; intro h; exact hlen (by rw [h])
    rw [hne]
    have hb : ((xs.length : Int) != (ys.length : Int)) = true := by simp; omega
    clear hlen hne hx hy
    go_enter Tryz.func32, Tryz.ntmps32
    go_wp2
    go_ret
    exact ⟨rfl, Below.refl _ _⟩
end Go.Proofs.YtpikgebfeleajaaGreatDoor

/-
  The document's value of a word (63 bits). No condition but the word's length.
-/
import Derived.Deep.QuietTactic
import Derived.BigQuiet
import Derived.IntWalk
import Derived.Test.YtgefnicpkfcghaaDoorScPl
namespace Go.Proofs.YtgefnicpkfcghaaDoor
open Go.RowKit
set_option linter.unusedVariables false
set_option linter.unusedSimpArgs false
attribute [local go_sem] Oper.semAt_some

/-- The number of digits, from n on; -1: they are none, or too great. -/
def valN (n : Nat) : List UInt8 → Int
  | [] => (n : Int)
  | c :: cs => if c.toNat < 48 ∨ 57 < c.toNat ∨ 922337203685477580 < n then -1 else if n = 922337203685477580 ∧ 7 < c.toNat - 48 then -1 else valN (10 * n + (c.toNat - 48)) cs
def valO (l : List UInt8) : Int := valN 0 l
theorem valN_range : ∀ (l : List UInt8) (n : Nat), n ≤ 9223372036854775807 → -1 ≤ valN n l ∧ valN n l ≤ 9223372036854775807
  | [], n, h => by unfold valN; omega
  | c :: cs, n, h => by
    unfold valN
    split
    · omega
    · split
      · omega
      · exact valN_range cs _ (by omega)
theorem valO_range (l : List UInt8) : -1 ≤ valO l ∧ valO l ≤ 9223372036854775807 := valN_range l 0 (by omega)
theorem valN_app : ∀ (l r : List UInt8) (n a : Nat), valN n l = (a : Int) → valN n (l ++ r) = valN a r
  | [], r, n, a, h => by
    unfold valN at h
    have : n = a := by omega
    rw [this]
    rfl
  | c :: cs, r, n, a, h => by
    unfold valN at h
    rw [List.cons_append, valN]
    split at h
    · omega
    · rename_i h1
      rw [if_neg h1]
      split at h
      · omega
      · rename_i h2
        rw [if_neg h2]
        exact valN_app cs r _ a h
theorem valO_dec : ∀ (k u : Nat), u ≤ k → u ≤ 9223372036854775807 → valO (Lib.decDigits u) = (u : Int)
  | 0, u, hk, hu => by
    obtain rfl : u = 0 := by omega
    rw [Lib.decDigits_one (by decide)]
    decide
  | k + 1, u, hk, hu => by
    by_cases h : u < 10
    · rw [Lib.decDigits_one h]
      unfold valO valN
      have e : (UInt8.ofNat (48 + u)).toNat = 48 + u := by rw [UInt8.toNat_ofNat']; omega
      rw [e, if_neg (by omega), if_neg (by omega)]
      unfold valN
      omega
    · rw [Lib.decDigits, dif_neg h]
      have ih := valO_dec k (u / 10) (by omega) (by omega)
      unfold valO at ih ⊢
      rw [valN_app _ _ 0 (u / 10) ih]
      unfold valN
      have e : (UInt8.ofNat (48 + u % 10)).toNat = 48 + u % 10 := by rw [UInt8.toNat_ofNat']; omega
      rw [e, if_neg (by omega), if_neg (by omega)]
      unfold valN
      omega
theorem valO_itoa {p : Int} (h0 : 0 ≤ p) (h1 : p ≤ 9223372036854775807) : valO (Lib.itoa p) = p := by
  obtain ⟨u, rfl⟩ := Int.eq_ofNat_of_zero_le h0
  rw [show Lib.itoa ((u : Nat) : Int) = Lib.decDigits u from by unfold Lib.itoa; rw [if_neg (by omega)]; simp]
  exact valO_dec u u (Nat.le_refl _) (by omega)

set_option maxRecDepth 100000 in
set_option maxHeartbeats 4000000 in
theorem refValue_any {w : World} (s : ByteArray) (hs : s.size ≤ 1000000) :
    Calls Tryd.prog 36 #[.string s] w fun e w' => e = .returned (.int .i64 (valO s.data.toList)) ∧ w' = w := by
  obtain ⟨R, hR⟩ : ∃ R, valO s.data.toList = R := ⟨_, rfl⟩
  rw [hR]
  have hsl : s.data.toList.length = s.size := Array.length_toList
  have HDR := Lib.hid (fun (k : Nat) (hk : k < s.size) => show s.data.toList.drop k = s[k] :: s.data.toList.drop (k + 1) from by
    rw [List.drop_eq_getElem_cons (by omega), Array.getElem_toList]; rfl)
  have HEN := Lib.hid (show s.data.toList.drop s.size = [] from List.drop_eq_nil_of_le (by omega))
  have H0 : Hid (valN 0 (s.data.toList.drop 0) = R) := by rw [List.drop_zero]; exact hR
  clear hR hsl
  go_enter Tryd.func36, Tryd.ntmps36
  go_wp2
  go_loopw [3, 4] (fun v i wr => wr = w ∧ ∃ k n : Nat, i = .int .i64 (k : Int) ∧ v = .int .i64 (n : Int) ∧ k ≤ s.size ∧ n ≤ 9223372036854775807 ∧ Hid (valN n (s.data.toList.drop k) = R)) (fun _ i _ => s.size - (intOf i).toNat)
  case atStart => exact ⟨rfl, 0, 0, rfl, rfl, Nat.zero_le _, by omega, H0⟩
  case round =>
    obtain ⟨rfl, k, n, rfl, rfl, hk, hn, HV⟩ := hrel
    clear H0
    by_cases hks : k < s.size
    · have hka : (k : Int) < (s.size : Int) := by omega
      have hk0 : (0 : Int) ≤ (k : Int) := by omega
      have hv := HV.out
      rw [HDR.out k hks, valN] at hv
      obtain ⟨c, hc⟩ : ∃ c : Nat, s[k].toNat = c := ⟨_, rfl⟩
      have hc2 : c < 256 := by rw [← hc]; exact s[k].toNat_lt
      rw [hc] at hv
      have HV2 := Lib.hid hv
      clear hv HV HDR HEN
      by_cases h1 : c < 48 ∨ 57 < c ∨ 922337203685477580 < n
      · have hr := HV2.out
        rw [if_pos h1] at hr
        subst hr
        have hcc : (c : Int) < 48 ∨ (¬ (c : Int) < 48 ∧ (57 : Int) < (c : Int)) ∨ (¬ (c : Int) < 48 ∧ ¬ (57 : Int) < (c : Int) ∧ (922337203685477580 : Int) < (n : Int)) := by omega
        rcases hcc with h1 | ⟨h1, h2⟩ | ⟨h1, h2, h3⟩
        all_goals
          go_wp2
          go_ret
          exact ⟨rfl, rfl⟩
      · have h2 : ¬ (c : Int) < 48 := by omega
        have h3 : ¬ (57 : Int) < (c : Int) := by omega
        have h4 : ¬ (922337203685477580 : Int) < (n : Int) := by omega
        have hr := HV2.out
        rw [if_neg h1] at hr
        by_cases h5 : n = 922337203685477580 ∧ 7 < c - 48
        · rw [if_pos h5] at hr
          subst hr
          have h6 : (n : Int) = 922337203685477580 := by omega
          have h7 : (7 : Int) < (c : Int) - 48 := by omega
          clear h1 h5
          go_wp2
          go_ret
          exact ⟨rfl, rfl⟩
        · rw [if_neg h5] at hr
          have hcc : ¬ (n : Int) = 922337203685477580 ∨ ((n : Int) = 922337203685477580 ∧ ¬ (7 : Int) < (c : Int) - 48) := by omega
          have HR := Lib.hid hr
          have hb : 10 * n + (c - 48) ≤ 9223372036854775807 := by omega
          have he : (10 * (n : Int) + ((c : Int) - 48)) = ((10 * n + (c - 48) : Nat) : Int) := by omega
          have HE := Lib.hid he
          clear h1 h5 hr he
          rcases hcc with h6 | ⟨h6, h7⟩
          all_goals
            go_wp2
            go_roundw
            case rel => exact ⟨by first | trivial | rfl, k + 1, 10 * n + (c - 48), by go_num, congrArg (Value.int IntKind.i64) (by omega), by omega, hb, HR⟩
            case measure => simp [intOf]; omega
    · have hkk : k = s.size := by omega
      subst hkk
      have hv := HV.out
      rw [HEN.out, valN] at hv
      subst hv
      clear HDR HEN
      go_wp2
      go_ret
      exact ⟨rfl, rfl⟩
end Go.Proofs.YtgefnicpkfcghaaDoor

/-
  The document's number of a word's digits. No condition but the text's length.
-/
import Derived.Test.YtpcaeggecojaeaaDoorRfD
namespace Go.Proofs.YtpcaeggecojaeaaDoor
open Go.RowKit
set_option linter.unusedVariables false
set_option linter.unusedSimpArgs false

/-- The number of digits, behind a number n: at most 2^32 - 1, and 0 if one is none. -/
def valA (n : Nat) : List UInt8 → Nat
  | [] => n
  | c :: cs => if c.toNat < 48 ∨ 57 < c.toNat then 0 else if 4294967295 < 10 * n + (c.toNat - 48) then 4294967295 else valA (10 * n + (c.toNat - 48)) cs
def valL (l : List UInt8) : Nat := valA 0 l
theorem valA_le : ∀ (l : List UInt8) (n : Nat), n ≤ 4294967295 → valA n l ≤ 4294967295
  | [], n, h => h
  | c :: cs, n, h => by
    unfold valA
    split
    · omega
    · split
      · omega
      · exact valA_le cs _ (by omega)
theorem valL_le (l : List UInt8) : valL l ≤ 4294967295 := valA_le l 0 (by omega)
theorem valA_app : ∀ (l r : List UInt8) (n a : Nat), valA n l = a → (∀ c ∈ l, 48 ≤ c.toNat ∧ c.toNat ≤ 57) → a < 4294967295 → valA n (l ++ r) = valA a r
  | [], r, n, a, h, _, _ => by
    rw [valA] at h
    rw [h, List.nil_append]
  | c :: l, r, n, a, h, hd, ha => by
    have hc := hd c (List.mem_cons_self ..)
    rw [valA, if_neg (by omega)] at h
    rw [List.cons_append, valA, if_neg (by omega)]
    split at h
    · omega
    · rename_i h2
      rw [if_neg h2]
      exact valA_app l r _ a h (fun x hx => hd x (List.mem_cons_of_mem _ hx)) ha
theorem valL_dec : ∀ (k u : Nat), u ≤ k → u ≤ 4294967295 → valL (Lib.decDigits u) = u
  | 0, u, hk, hu => by
    obtain rfl : u = 0 := by omega
    rw [Lib.decDigits_one (by omega)]
    rfl
  | k + 1, u, hk, hu => by
    by_cases h : u < 10
    · rw [Lib.decDigits_one h]
      unfold valL valA
      rw [if_neg (by rw [nat_digit h]; omega), if_neg (by rw [nat_digit h]; omega), nat_digit h, valA]
      omega
    · have ih := valL_dec k (u / 10) (by omega) (by omega)
      have hd : u % 10 < 10 := Nat.mod_lt _ (by omega)
      rw [Lib.decDigits, dif_neg h]
      unfold valL at *
      rw [valA_app _ _ 0 _ ih (fun c hc => dec_digit hc) (by omega), valA, if_neg (by rw [nat_digit hd]; omega), if_neg (by rw [nat_digit hd]; omega), nat_digit hd, valA]
      omega

set_option maxRecDepth 100000 in
set_option maxHeartbeats 2000000 in
theorem refValue_any {w : World} (s : ByteArray) (hs : s.size ≤ 1000000) :
    Calls Tryd.prog 38 #[.string s] w fun e w' => e = .returned (.int .u64 (valL s.data.toList : Nat)) ∧ w' = w := by
  obtain ⟨R, hR⟩ : ∃ R : Nat, valL s.data.toList = R := ⟨_, rfl⟩
  rw [hR]
  have HR := Lib.hid hR
  clear hR
  go_enter Tryd.func38, Tryd.ntmps38
  go_wp2
  go_loopw [3, 4] (fun a i wr => wr = w ∧ ∃ (n k : Nat), a = .int .u64 (n : Int) ∧ i = .int .i64 (k : Int) ∧ k ≤ s.size ∧ n ≤ 4294967295 ∧ Hid (valA n (s.data.toList.drop k) = R)) (fun _ i _ => s.size - (intOf i).toNat)
  case atStart => exact ⟨rfl, 0, 0, rfl, rfl, Nat.zero_le _, by omega, HR⟩
  case round =>
    obtain ⟨rfl, n, k, rfl, rfl, hk, hn, hV⟩ := hrel
    clear HR
    have hsl : s.data.toList.length = s.size := by rw [Array.length_toList]; rfl
    by_cases hks : k < s.size
    · have hka : (k : Int) < (s.size : Int) := by omega
      have hdr : s.data.toList.drop k = s.data.toList[k]'(by omega) :: s.data.toList.drop (k + 1) := List.drop_eq_getElem_cons (by omega)
      have hcs : s.data.toList[k]'(by omega) = s[k] := by rw [Array.getElem_toList]; rfl
      have hv := hV.out
      rw [hdr, hcs, valA] at hv
      have hn0 : (0 : Int) ≤ (n : Int) := by omega
      have hn1 : (n : Int) ≤ 4294967295 := by omega
      clear hdr hcs hV hsl
      by_cases h1 : s[k].toNat < 48 ∨ 57 < s[k].toNat
      · rw [if_pos h1] at hv
        subst hv
        have h2 : (s[k].toNat : Int) < 48 ∨ (¬ (s[k].toNat : Int) < 48 ∧ 57 < (s[k].toNat : Int)) := by omega
        clear h1
        rcases h2 with h2 | ⟨h2, h3⟩
        all_goals
          go_wp2
          go_ret
          exact ⟨rfl, rfl⟩
      · rw [if_neg h1] at hv
        have h2 : ¬ (s[k].toNat : Int) < 48 := by omega
        have h3 : ¬ 57 < (s[k].toNat : Int) := by omega
        by_cases h4 : 4294967295 < 10 * n + (s[k].toNat - 48)
        · rw [if_pos h4] at hv
          subst hv
          have h5 : 4294967295 < 10 * (n : Int) + ((s[k].toNat : Int) - 48) := by omega
          clear h1 h4
          go_wp2
          go_ret
          exact ⟨rfl, rfl⟩
        · rw [if_neg h4] at hv
          have h5 : ¬ 4294967295 < 10 * (n : Int) + ((s[k].toNat : Int) - 48) := by omega
          have HV := Lib.hid hv
          have HN : Hid (10 * (n : Int) + ((s[k].toNat : Int) - 48) = ((10 * n + (s[k].toNat - 48) : Nat) : Int)) := by show _ = _; omega
          have HN2 := Lib.hid (show 10 * n + (s[k].toNat - 48) ≤ 4294967295 from by omega)
          clear h1 h4 hv
          go_wp2
          go_roundw
          case rel => exact ⟨trivial, 10 * n + (s[k].toNat - 48), k + 1, by rw [HN.out], by go_num, by omega, HN2.out, HV⟩
          case measure => simp [intOf]; omega
    · have hka : ¬ (k : Int) < (s.size : Int) := by omega
      have hv := hV.out
      rw [List.drop_eq_nil_of_le (by omega), valA] at hv
      subst hv
      go_wp2
      go_ret
      exact ⟨rfl, rfl⟩
end Go.Proofs.YtpcaeggecojaeaaDoor

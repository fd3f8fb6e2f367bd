/-
  What a line says, in the document's words: plain. No condition.
-/
import Derived.Deep.QuietTactic
import Derived.BigQuiet
import Derived.IntWalk
import Derived.Test.YtgefnicpkfcghaaDoorScPl
import Derived.Test.YtgefnicpkfcghaaDoorSfY
namespace Go.Proofs.YtgefnicpkfcghaaDoor
section
open Go.RowKit
set_option linter.unusedVariables false
set_option linter.unusedSimpArgs false
attribute [local go_sem] Oper.semAt_some

/-- The number of digits, from n on; -1: they are none, or too great. -/
def valN (n : Nat) : List UInt8 → Int
  | [] => (n : Int)
  | c :: cs => if c.toNat < 48 ∨ 57 < c.toNat ∨ 922337203685477580 < n then -1 else if n = 922337203685477580 ∧ 7 < c.toNat - 48 then -1 else valN (10 * n + (c.toNat - 48)) cs
def valO (l : List UInt8) : Int := valN 0 l
theorem valN_range : ∀ (l : List UInt8) (n : Nat), n ≤ 9223372036854775807 → -1 ≤ valN n l ∧ valN n l ≤ 9223372036854775807
  | [], n, h => by unfold valN; omega
  | c :: cs, n, h => by
    unfold valN
    split
    · omega
    · split
      · omega
      · exact valN_range cs _ (by omega)
theorem valO_range (l : List UInt8) : -1 ≤ valO l ∧ valO l ≤ 9223372036854775807 := valN_range l 0 (by omega)
theorem valN_app : ∀ (l r : List UInt8) (n a : Nat), valN n l = (a : Int) → valN n (l ++ r) = valN a r
  | [], r, n, a, h => by
    unfold valN at h
    have : n = a := by omega
    rw [this]
    rfl
  | c :: cs, r, n, a, h => by
    unfold valN at h
    rw [List.cons_append, valN]
    split at h
    · omega
    · rename_i h1
      rw [if_neg h1]
      split at h
      · omega
      · rename_i h2
        rw [if_neg h2]
        exact valN_app cs r _ a h
theorem valO_dec : ∀ (k u : Nat), u ≤ k → u ≤ 9223372036854775807 → valO (Lib.decDigits u) = (u : Int)
  | 0, u, hk, hu => by
    obtain rfl : u = 0 := by omega
    rw [Lib.decDigits_one (by decide)]
    decide
  | k + 1, u, hk, hu => by
    by_cases h : u < 10
    · rw [Lib.decDigits_one h]
      unfold valO valN
      have e : (UInt8.ofNat (48 + u)).toNat = 48 + u := by rw [UInt8.toNat_ofNat']; omega
      rw [e, if_neg (by omega), if_neg (by omega)]
      unfold valN
      omega
    · rw [Lib.decDigits, dif_neg h]
      have ih := valO_dec k (u / 10) (by omega) (by omega)
      unfold valO at ih ⊢
      rw [valN_app _ _ 0 (u / 10) ih]
      unfold valN
      have e : (UInt8.ofNat (48 + u % 10)).toNat = 48 + u % 10 := by rw [UInt8.toNat_ofNat']; omega
      rw [e, if_neg (by omega), if_neg (by omega)]
      unfold valN
      omega
theorem valO_itoa {p : Int} (h0 : 0 ≤ p) (h1 : p ≤ 9223372036854775807) : valO (Lib.itoa p) = p := by
  obtain ⟨u, rfl⟩ := Int.eq_ofNat_of_zero_le h0
  rw [show Lib.itoa ((u : Nat) : Int) = Lib.decDigits u from by unfold Lib.itoa; rw [if_neg (by omega)]; simp]
  exact valO_dec u u (Nat.le_refl _) (by omega)

set_option maxRecDepth 100000 in
set_option maxHeartbeats 4000000 in
theorem refValue_any {w : World} (s : ByteArray) (hs : s.size ≤ 1000000) :
    Calls Tryd.prog 36 #[.string s] w fun e w' => e = .returned (.int .i64 (valO s.data.toList)) ∧ w' = w := by
  obtain ⟨R, hR⟩ : ∃ R, valO s.data.toList = R := ⟨_, rfl⟩
  rw [hR]
  have hsl : s.data.toList.length = s.size := Array.length_toList
  have HDR := Lib.hid (fun (k : Nat) (hk : k < s.size) => show s.data.toList.drop k = s[k] :: s.data.toList.drop (k + 1) from by
    rw [List.drop_eq_getElem_cons (by omega), Array.getElem_toList]; rfl)
  have HEN := Lib.hid (show s.data.toList.drop s.size = [] from List.drop_eq_nil_of_le (by omega))
  have H0 : Hid (valN 0 (s.data.toList.drop 0) = R) := by rw [List.drop_zero]; exact hR
  clear hR hsl
  go_enter Tryd.func36, Tryd.ntmps36
  go_wp2
  go_loopw [3, 4] (fun v i wr => wr = w ∧ ∃ k n : Nat, i = .int .i64 (k : Int) ∧ v = .int .i64 (n : Int) ∧ k ≤ s.size ∧ n ≤ 9223372036854775807 ∧ Hid (valN n (s.data.toList.drop k) = R)) (fun _ i _ => s.size - (intOf i).toNat)
  case atStart => exact ⟨rfl, 0, 0, rfl, rfl, Nat.zero_le _, by omega, H0⟩
  case round =>
    obtain ⟨rfl, k, n, rfl, rfl, hk, hn, HV⟩ := hrel
    clear H0
    by_cases hks : k < s.size
    · have hka : (k : Int) < (s.size : Int) := by omega
      have hk0 : (0 : Int) ≤ (k : Int) := by omega
      have hv := HV.out
      rw [HDR.out k hks, valN] at hv
      obtain ⟨c, hc⟩ : ∃ c : Nat, s[k].toNat = c := ⟨_, rfl⟩
      have hc2 : c < 256 := by rw [← hc]; exact s[k].toNat_lt
      rw [hc] at hv
      have HV2 := Lib.hid hv
      clear hv HV HDR HEN
      by_cases h1 : c < 48 ∨ 57 < c ∨ 922337203685477580 < n
      · have hr := HV2.out
        rw [if_pos h1] at hr
        subst hr
        have hcc : (c : Int) < 48 ∨ (¬ (c : Int) < 48 ∧ (57 : Int) < (c : Int)) ∨ (¬ (c : Int) < 48 ∧ ¬ (57 : Int) < (c : Int) ∧ (922337203685477580 : Int) < (n : Int)) := by omega
        rcases hcc with h1 | ⟨h1, h2⟩ | ⟨h1, h2, h3⟩
        all_goals
          go_wp2
          go_ret
          exact ⟨rfl, rfl⟩
      · have h2 : ¬ (c : Int) < 48 := by omega
        have h3 : ¬ (57 : Int) < (c : Int) := by omega
        have h4 : ¬ (922337203685477580 : Int) < (n : Int) := by omega
        have hr := HV2.out
        rw [if_neg h1] at hr
        by_cases h5 : n = 922337203685477580 ∧ 7 < c - 48
        · rw [if_pos h5] at hr
          subst hr
          have h6 : (n : Int) = 922337203685477580 := by omega
          have h7 : (7 : Int) < (c : Int) - 48 := by omega
          clear h1 h5
          go_wp2
          go_ret
          exact ⟨rfl, rfl⟩
        · rw [if_neg h5] at hr
          have hcc : ¬ (n : Int) = 922337203685477580 ∨ ((n : Int) = 922337203685477580 ∧ ¬ (7 : Int) < (c : Int) - 48) := by omega
          have HR := Lib.hid hr
          have hb : 10 * n + (c - 48) ≤ 9223372036854775807 := by omega
          have he : (10 * (n : Int) + ((c : Int) - 48)) = ((10 * n + (c - 48) : Nat) : Int) := by omega
          have HE := Lib.hid he
          clear h1 h5 hr he
          rcases hcc with h6 | ⟨h6, h7⟩
          all_goals
            go_wp2
            go_roundw
            case rel => exact ⟨by first | trivial | rfl, k + 1, 10 * n + (c - 48), by go_num, congrArg (Value.int IntKind.i64) (by omega), by omega, hb, HR⟩
            case measure => simp [intOf]; omega
    · have hkk : k = s.size := by omega
      subst hkk
      have hv := HV.out
      rw [HEN.out, valN] at hv
      subst hv
      clear HDR HEN
      go_wp2
      go_ret
      exact ⟨rfl, rfl⟩
end
end Go.Proofs.YtgefnicpkfcghaaDoor
namespace Go.Proofs.YtgefnicpkfcghaaDoor
section
set_option linter.unusedVariables false
set_option linter.unusedSimpArgs false

/-- What a line of these words would say. -/
def candQ (l0 l1 l2 : List UInt8) : Option O :=
  if kAtO l0 13 = 1 then some ⟨1, valO l1, valO l2, 0, 0, 0, ⟨#[]⟩⟩ else
  if kAtO l0 13 = 2 then some ⟨2, valO l1, 0, valO l2, 0, 0, ⟨#[]⟩⟩ else
  if kAtO l0 13 = 4 then some ⟨4, valO l1, 0, 0, 0, 0, ⟨#[]⟩⟩ else
  if kAtO l0 13 = 5 then some ⟨5, 0, 0, valO l1, valO l2, 0, ⟨#[]⟩⟩ else
  if kAtO l0 13 = 6 then some ⟨6, 0, 0, valO l1, 0, 0, ⟨l2.toArray⟩⟩ else
  if kAtO l0 13 = 7 then some ⟨7, 0, 0, valO l1, 0, 0, ⟨#[]⟩⟩ else
  if kAtO l0 13 = 8 then (if 0 ≤ valO l2 ∧ valO l2 ≤ 255 then some ⟨8, 0, 0, 0, 0, valO l2, ⟨l1.toArray⟩⟩ else none) else
  if kAtO l0 13 = 9 then (if 0 ≤ valO l2 ∧ valO l2 ≤ 255 then some ⟨9, 0, 0, valO l1, 0, valO l2, ⟨#[]⟩⟩ else none) else
  some (zeroO (kAtO l0 13 : Nat))
theorem candQ_k0 {l0 l1 l2 : List UInt8} (h : kAtO l0 13 = 0) : candQ l0 l1 l2 = some ⟨0, 0, 0, 0, 0, 0, ⟨#[]⟩⟩ := by unfold candQ; rw [h]; rfl
theorem candQ_k1 {l0 l1 l2 : List UInt8} (h : kAtO l0 13 = 1) : candQ l0 l1 l2 = some ⟨1, valO l1, valO l2, 0, 0, 0, ⟨#[]⟩⟩ := by unfold candQ; rw [h]; rfl
theorem candQ_k2 {l0 l1 l2 : List UInt8} (h : kAtO l0 13 = 2) : candQ l0 l1 l2 = some ⟨2, valO l1, 0, valO l2, 0, 0, ⟨#[]⟩⟩ := by unfold candQ; rw [h]; rfl
theorem candQ_k3 {l0 l1 l2 : List UInt8} (h : kAtO l0 13 = 3) : candQ l0 l1 l2 = some ⟨3, 0, 0, 0, 0, 0, ⟨#[]⟩⟩ := by unfold candQ; rw [h]; rfl
theorem candQ_k4 {l0 l1 l2 : List UInt8} (h : kAtO l0 13 = 4) : candQ l0 l1 l2 = some ⟨4, valO l1, 0, 0, 0, 0, ⟨#[]⟩⟩ := by unfold candQ; rw [h]; rfl
theorem candQ_k5 {l0 l1 l2 : List UInt8} (h : kAtO l0 13 = 5) : candQ l0 l1 l2 = some ⟨5, 0, 0, valO l1, valO l2, 0, ⟨#[]⟩⟩ := by unfold candQ; rw [h]; rfl
theorem candQ_k6 {l0 l1 l2 : List UInt8} (h : kAtO l0 13 = 6) : candQ l0 l1 l2 = some ⟨6, 0, 0, valO l1, 0, 0, ⟨l2.toArray⟩⟩ := by unfold candQ; rw [h]; rfl
theorem candQ_k7 {l0 l1 l2 : List UInt8} (h : kAtO l0 13 = 7) : candQ l0 l1 l2 = some ⟨7, 0, 0, valO l1, 0, 0, ⟨#[]⟩⟩ := by unfold candQ; rw [h]; rfl
theorem candQ_k8 {l0 l1 l2 : List UInt8} (h : kAtO l0 13 = 8) : candQ l0 l1 l2 = if 0 ≤ valO l2 ∧ valO l2 ≤ 255 then some ⟨8, 0, 0, 0, 0, valO l2, ⟨l1.toArray⟩⟩ else none := by unfold candQ; rw [h]; rfl
theorem candQ_k9 {l0 l1 l2 : List UInt8} (h : kAtO l0 13 = 9) : candQ l0 l1 l2 = if 0 ≤ valO l2 ∧ valO l2 ≤ 255 then some ⟨9, 0, 0, valO l1, 0, valO l2, ⟨#[]⟩⟩ else none := by unfold candQ; rw [h]; rfl
theorem candQ_k10 {l0 l1 l2 : List UInt8} (h : kAtO l0 13 = 10) : candQ l0 l1 l2 = some ⟨10, 0, 0, 0, 0, 0, ⟨#[]⟩⟩ := by unfold candQ; rw [h]; rfl
theorem candQ_k11 {l0 l1 l2 : List UInt8} (h : kAtO l0 13 = 11) : candQ l0 l1 l2 = some ⟨11, 0, 0, 0, 0, 0, ⟨#[]⟩⟩ := by unfold candQ; rw [h]; rfl
theorem candQ_k12 {l0 l1 l2 : List UInt8} (h : kAtO l0 13 = 12) : candQ l0 l1 l2 = some ⟨12, 0, 0, 0, 0, 0, ⟨#[]⟩⟩ := by unfold candQ; rw [h]; rfl
def padQ (s : List UInt8) (j : Nat) : List UInt8 := (pieces s).getD j []
theorem kAtO_val (l : List UInt8) : kAtO l 13 < 13 ∧ (kAtO l 13 = 0 ∨ kindW (kAtO l 13 : Nat) = l) := by
  refine ⟨?_, ?_⟩
  · have h : ∀ n, kAtO l (n + 1) < n + 1 := fun n => by
      induction n with
      | zero => unfold kAtO; rw [if_neg (fun h => absurd h.1 (Nat.lt_irrefl 0))]; unfold kAtO; omega
      | succ n ih => unfold kAtO; split <;> omega
    exact h 12
  · have h : ∀ n, kAtO l n = 0 ∨ kindW (kAtO l n : Nat) = l := fun n => by
      induction n with
      | zero => exact .inl rfl
      | succ n ih =>
        unfold kAtO
        split
        · rename_i hh
          exact .inr hh.2
        · exact ih
    exact h 13
theorem candQ_range {l0 l1 l2 : List UInt8} {y : O} (h : candQ l0 l1 l2 = some y) : RangeO y ∧ y.w.size ≤ max l1.length l2.length := by
  have hA := valO_range l1
  have hB := valO_range l2
  have hk := (kAtO_val l0).1
  have z1 : (⟨l1.toArray⟩ : ByteArray).size = l1.length := List.size_toArray
  have z2 : (⟨l2.toArray⟩ : ByteArray).size = l2.length := List.size_toArray
  have z0 : (⟨#[]⟩ : ByteArray).size = 0 := rfl
  unfold candQ at h
  repeat' split at h
  all_goals first | (cases h; done) | (injection h with h; subst h; refine ⟨?_, ?_⟩ <;> simp only [RangeO, zeroO, z0, z1, z2] <;> omega)
set_option maxHeartbeats 4000000 in
theorem candQ_line {x : O} (hm : MayO x) (hr : RangeO x) : candQ (padQ (lineO x) 0) (padQ (lineO x) 1) (padQ (lineO x) 2) = some x := by
  unfold padQ
  rw [pieces_lineO hm]
  have hk := kind_cases hm.1
  have hm0 : 0 ≤ x.m := hr.2.2.2.2.1
  have hK := kAtO_kind hm.1
  obtain ⟨hr1, hr2, hr3, hr4, hr5⟩ := hr
  obtain ⟨k, co, n, p, s, m, w⟩ := x
  simp only at hk hm0 hr1 hr2 hr3 hr4 hr5 hK
  rcases hk with rfl | rfl | rfl | rfl | rfl | rfl | rfl | rfl | rfl | rfl | rfl | rfl
  · obtain ⟨g0, g1, g2, g3, g4, g5⟩ := (may_k1 co n p s m w hm0).1 hm
    subst g2 g3 g4 g5
    have e : lineWO ⟨1, co, n, 0, 0, 0, ⟨#[]⟩⟩ = [kindW 1, Lib.itoa co, Lib.itoa n] := rfl
    have hK2 : kAtO (kindW 1) 13 = 1 := by decide
    have v0 := valO_itoa (p := co) (by omega) (by omega)
    have v1 := valO_itoa (p := n) (by omega) (by omega)
    rw [e]
    show candQ (kindW 1) (Lib.itoa co) (Lib.itoa n) = _
    unfold candQ
    simp [hK2, v0, v1, zeroO]
  · obtain ⟨g0, g1, g2, g3, g4, g5⟩ := (may_k2 co n p s m w hm0).1 hm
    subst g2 g3 g4 g5
    have e : lineWO ⟨2, co, 0, p, 0, 0, ⟨#[]⟩⟩ = [kindW 2, Lib.itoa co, Lib.itoa p] := rfl
    have hK2 : kAtO (kindW 2) 13 = 2 := by decide
    have v0 := valO_itoa (p := co) (by omega) (by omega)
    have v1 := valO_itoa (p := p) (by omega) (by omega)
    rw [e]
    show candQ (kindW 2) (Lib.itoa co) (Lib.itoa p) = _
    unfold candQ
    simp [hK2, v0, v1, zeroO]
  · obtain ⟨g0, g1, g2, g3, g4, g5⟩ := (may_k3 co n p s m w hm0).1 hm
    subst g0 g1 g2 g3 g4 g5
    have e : lineWO ⟨3, 0, 0, 0, 0, 0, ⟨#[]⟩⟩ = [kindW 3] := rfl
    have hK2 : kAtO (kindW 3) 13 = 3 := by decide
    rw [e]
    show candQ (kindW 3) [] [] = _
    unfold candQ
    simp [hK2, zeroO]
  · obtain ⟨g0, g1, g2, g3, g4, g5⟩ := (may_k4 co n p s m w hm0).1 hm
    subst g1 g2 g3 g4 g5
    have e : lineWO ⟨4, co, 0, 0, 0, 0, ⟨#[]⟩⟩ = [kindW 4, Lib.itoa co] := rfl
    have hK2 : kAtO (kindW 4) 13 = 4 := by decide
    have v0 := valO_itoa (p := co) (by omega) (by omega)
    rw [e]
    show candQ (kindW 4) (Lib.itoa co) [] = _
    unfold candQ
    simp [hK2, v0, zeroO]
  · obtain ⟨g0, g1, g2, g3, g4, g5, g6⟩ := (may_k5 co n p s m w hm0).1 hm
    subst g3 g4 g5 g6
    have e : lineWO ⟨5, 0, 0, p, s, 0, ⟨#[]⟩⟩ = [kindW 5, Lib.itoa p, Lib.itoa s] := rfl
    have hK2 : kAtO (kindW 5) 13 = 5 := by decide
    have v0 := valO_itoa (p := p) (by omega) (by omega)
    have v1 := valO_itoa (p := s) (by omega) (by omega)
    rw [e]
    show candQ (kindW 5) (Lib.itoa p) (Lib.itoa s) = _
    unfold candQ
    simp [hK2, v0, v1, zeroO]
  · obtain ⟨g0, g1, g2, g3, g4, g5⟩ := (may_k6 co n p s m w hm0).1 hm
    subst g2 g3 g4 g5
    have e : lineWO ⟨6, 0, 0, p, 0, 0, w⟩ = [kindW 6, Lib.itoa p, w.data.toList] := rfl
    have hK2 : kAtO (kindW 6) 13 = 6 := by decide
    have v0 := valO_itoa (p := p) (by omega) (by omega)
    rw [e]
    show candQ (kindW 6) (Lib.itoa p) (w.data.toList) = _
    unfold candQ
    simp [hK2, v0, zeroO]
  · obtain ⟨g0, g1, g2, g3, g4, g5⟩ := (may_k7 co n p s m w hm0).1 hm
    subst g1 g2 g3 g4 g5
    have e : lineWO ⟨7, 0, 0, p, 0, 0, ⟨#[]⟩⟩ = [kindW 7, Lib.itoa p] := rfl
    have hK2 : kAtO (kindW 7) 13 = 7 := by decide
    have v0 := valO_itoa (p := p) (by omega) (by omega)
    rw [e]
    show candQ (kindW 7) (Lib.itoa p) [] = _
    unfold candQ
    simp [hK2, v0, zeroO]
  · obtain ⟨g0, g1, g2, g3, g4, g5⟩ := (may_k8 co n p s m w hm0).1 hm
    subst g2 g3 g4 g5
    have e : lineWO ⟨8, 0, 0, 0, 0, m, w⟩ = [kindW 8, w.data.toList, Lib.itoa m] := rfl
    have hK2 : kAtO (kindW 8) 13 = 8 := by decide
    have v1 := valO_itoa (p := m) (by omega) (by omega)
    rw [e]
    show candQ (kindW 8) (w.data.toList) (Lib.itoa m) = _
    unfold candQ
    simp [hK2, v1, zeroO]
    omega
  · obtain ⟨g0, g1, g2, g3, g4, g5⟩ := (may_k9 co n p s m w hm0).1 hm
    subst g2 g3 g4 g5
    have e : lineWO ⟨9, 0, 0, p, 0, m, ⟨#[]⟩⟩ = [kindW 9, Lib.itoa p, Lib.itoa m] := rfl
    have hK2 : kAtO (kindW 9) 13 = 9 := by decide
    have v0 := valO_itoa (p := p) (by omega) (by omega)
    have v1 := valO_itoa (p := m) (by omega) (by omega)
    rw [e]
    show candQ (kindW 9) (Lib.itoa p) (Lib.itoa m) = _
    unfold candQ
    simp [hK2, v0, v1, zeroO]
    omega
  · obtain ⟨g0, g1, g2, g3, g4, g5⟩ := (may_k10 co n p s m w hm0).1 hm
    subst g0 g1 g2 g3 g4 g5
    have e : lineWO ⟨10, 0, 0, 0, 0, 0, ⟨#[]⟩⟩ = [kindW 10] := rfl
    have hK2 : kAtO (kindW 10) 13 = 10 := by decide
    rw [e]
    show candQ (kindW 10) [] [] = _
    unfold candQ
    simp [hK2, zeroO]
  · obtain ⟨g0, g1, g2, g3, g4, g5⟩ := (may_k11 co n p s m w hm0).1 hm
    subst g0 g1 g2 g3 g4 g5
    have e : lineWO ⟨11, 0, 0, 0, 0, 0, ⟨#[]⟩⟩ = [kindW 11] := rfl
    have hK2 : kAtO (kindW 11) 13 = 11 := by decide
    rw [e]
    show candQ (kindW 11) [] [] = _
    unfold candQ
    simp [hK2, zeroO]
  · obtain ⟨g0, g1, g2, g3, g4, g5⟩ := (may_k12 co n p s m w hm0).1 hm
    subst g0 g1 g2 g3 g4 g5
    have e : lineWO ⟨12, 0, 0, 0, 0, 0, ⟨#[]⟩⟩ = [kindW 12] := rfl
    have hK2 : kAtO (kindW 12) 13 = 12 := by decide
    rw [e]
    show candQ (kindW 12) [] [] = _
    unfold candQ
    simp [hK2, zeroO]
theorem readQ_eq (s : List UInt8) : readO s = match candQ (padQ s 0) (padQ s 1) (padQ s 2) with
    | none => none
    | some y => if MayO y ∧ lineO y = s then some y else none := by
  cases hr : readO s with
  | some x =>
    obtain ⟨m1, m2, m3⟩ := read_someO hr
    have h := candQ_line m1 m3
    rw [m2] at h
    rw [h]
    simp only [m1, m2, and_self, if_true]
  | none =>
    cases hc : candQ (padQ s 0) (padQ s 1) (padQ s 2) with
    | none => rfl
    | some y =>
      simp only
      rw [if_neg]
      rintro ⟨h1, h2⟩
      have h := read_lineO h1 (candQ_range hc).1
      rw [h2, hr] at h
      cases h
end
end Go.Proofs.YtgefnicpkfcghaaDoor

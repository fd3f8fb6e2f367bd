/-
  Walks over package trace and its reference: First. No condition.
-/
import Derived.Test.YtpcaeggecojaeaaDoorTrD1
namespace Go.Proofs.YtpcaeggecojaeaaDoor
open Go.RowKit
set_option linter.unusedVariables false
set_option linter.unusedSimpArgs false

def IsFirst (a b : List S) (r : Int) : Prop := (r = -1 ∧ a = b) ∨ ∃ k : Nat, r = k ∧ (∀ j, j < k → a[j]? = b[j]?) ∧ a[k]? ≠ b[k]?
def first : List S → List S → Int
  | [], [] => -1
  | x :: xs, y :: ys => if x = y then (if first xs ys < 0 then -1 else first xs ys + 1) else 0
  | [], _ :: _ => 0
  | _ :: _, [] => 0
theorem first_is : ∀ a b, IsFirst a b (first a b)
  | [], [] => .inl ⟨rfl, rfl⟩
  | x :: xs, y :: ys => by
    rw [first]
    by_cases h : x = y
    · rw [if_pos h]
      rcases first_is xs ys with ⟨h1, h2⟩ | ⟨k, h1, h2, h3⟩
      · rw [h1, if_pos (by omega)]
        exact .inl ⟨rfl, by rw [h, h2]⟩
      · rw [h1, if_neg (by omega)]
        refine .inr ⟨k + 1, by simp, fun j hj => ?_, by simpa using h3⟩
        cases j with
        | zero => simp [h]
        | succ j => simpa using h2 j (by omega)
    · rw [if_neg h]
      exact .inr ⟨0, rfl, fun j hj => by omega, by simpa using h⟩
  | [], _ :: _ => .inr ⟨0, rfl, fun j hj => by omega, by simp⟩
  | _ :: _, [] => .inr ⟨0, rfl, fun j hj => by omega, by simp⟩
theorem first_one {a b : List S} {r r' : Int} (h : IsFirst a b r) (h' : IsFirst a b r') : r = r' := by
  rcases h with ⟨h1, h2⟩ | ⟨k, h1, h2, h3⟩ <;> rcases h' with ⟨h1', h2'⟩ | ⟨k', h1', h2', h3'⟩
  · omega
  · exact absurd (by rw [h2]) h3'
  · exact absurd (by rw [h2']) h3
  · rcases Nat.lt_trichotomy k k' with h | h | h
    · exact absurd (h2' k h) h3
    · omega
    · exact absurd (h2 k' h) h3'
theorem first_eq {a b : List S} {r : Int} (h : IsFirst a b r) : r = first a b := first_one h (first_is a b)
theorem first_self (a : List S) : first a a = -1 := by
  rcases first_is a a with ⟨h, _⟩ | ⟨k, _, _, h⟩
  · exact h
  · exact absurd rfl h
theorem isFirst_here {a b : List S} {k : Nat} (h : ∀ j, j < k → a[j]? = b[j]?) (hn : a[k]? ≠ b[k]?) : (k : Int) = first a b := first_eq (.inr ⟨k, rfl, h, hn⟩)
theorem isFirst_none {a b : List S} {k : Nat} (h : ∀ j, j < k → a[j]? = b[j]?) (ha : a.length ≤ k) (hb : b.length ≤ k) : (-1 : Int) = first a b := first_eq (.inl ⟨rfl, by
  apply List.ext_getElem?
  intro j
  rcases Nat.lt_or_ge j k with h1 | h1
  · exact h j h1
  · rw [List.getElem?_eq_none (by omega), List.getElem?_eq_none (by omega)]⟩)
theorem next_eq {a b : List S} {k : Nat} (h : ∀ j, j < k → a[j]? = b[j]?) (hk : a[k]? = b[k]?) : ∀ j, j < k + 1 → a[j]? = b[j]? := fun j hj => by
  rcases Nat.lt_or_ge j k with h1 | h1
  · exact h j h1
  · have : j = k := by omega
    subst this
    exact hk

set_option maxHeartbeats 2000000 in
theorem refFirst_any {w : World} (A B : Option Addr) (ca cb : Nat) (xs ys : List S) (hx : SeenAt w A xs) (hy : SeenAt w B ys) (hxl : xs.length ≤ 1000000) (hyl : ys.length ≤ 1000000) :
    Calls Tryd.prog 22 #[.slice A xs.length ca, .slice B ys.length cb] w fun e w' => e = .returned (.int .i64 (first xs ys)) ∧ Below w.heap.size w w' := by
  go_enter Tryd.func22, Tryd.ntmps22
  go_wp2
  go_loopw [5] (fun i wr => ∃ k : Nat, i = .int .i64 (k : Int) ∧ k ≤ 1000000 ∧ (∀ j, j < k → xs[j]? = ys[j]?) ∧ Below w.heap.size w wr) (fun i _ => xs.length - (intOf i).toNat)
  case atStart => exact ⟨0, rfl, Nat.zero_le _, fun j hj => absurd hj (Nat.not_lt_zero j), Below.refl _ _⟩
  case round =>
    obtain ⟨k, rfl, hk, hpre, hB⟩ := hrel
    have HP := Lib.hid hpre
    clear hpre
    by_cases ha : k < xs.length <;> by_cases hb : k < ys.length
    · have hxe : xs[k]? = some xs[k] := List.getElem?_eq_getElem ha
      have hye : ys[k]? = some ys[k] := List.getElem?_eq_getElem hb
      obtain ⟨b, off, rfl, hbl, c0, c1, c2, c3⟩ := seen_at (hx.below hB) hxe
      obtain ⟨b', off', rfl, hbl', d0, d1, d2, d3⟩ := seen_at (hy.below hB) hye
      have hka : (k : Int) < (xs.length : Int) := by omega
      have hkb : (k : Int) < (ys.length : Int) := by omega
      generalize hgx : xs[k] = x at *
      generalize hgy : ys[k] = y at *
      have HE := fun w => eqSeen x y w
      by_cases hxy : x = y
      · have hd : decide (x = y) = true := decide_eq_true hxy
        have HN := Lib.hid (next_eq HP.out (by rw [hxe, hye, hxy]))
        simp only [hd] at HE
        obtain ⟨p, q, r, s⟩ := x
        obtain ⟨p', q', r', s'⟩ := y
        simp only [S.cells] at HE c0 c1 c2 c3 d0 d1 d2 d3
        clear hxe hye hgx hgy hxy hd hx hy
        go_wp2_with (go_quiet (fail))
        go_roundw
        case rel => exact ⟨k + 1, by go_num, by omega, HN.out, belowN hB _⟩
        case measure => simp [intOf]; omega
      · have hd : decide (x = y) = false := decide_eq_false hxy
        have HN := Lib.hid (isFirst_here HP.out (show xs[k]? ≠ ys[k]? by rw [hxe, hye]; simpa using hxy))
        simp only [hd] at HE
        obtain ⟨p, q, r, s⟩ := x
        obtain ⟨p', q', r', s'⟩ := y
        simp only [S.cells] at HE c0 c1 c2 c3 d0 d1 d2 d3
        clear hxe hye hgx hgy hxy hd hx hy
        go_wp2_with (go_quiet (fail))
        go_ret
        exact ⟨by rw [← HN.out]; rfl, belowN hB _⟩
    · have hka : (k : Int) < (xs.length : Int) := by omega
      have hkb : ¬ (k : Int) < (ys.length : Int) := by omega
      have HN := Lib.hid (isFirst_here HP.out (show xs[k]? ≠ ys[k]? by rw [List.getElem?_eq_getElem ha, List.getElem?_eq_none (by omega)]; simp))
      clear hx hy
      go_wp2_with (go_quiet (fail))
      go_ret
      exact ⟨by rw [← HN.out]; rfl, belowN hB _⟩
    · have hka : ¬ (k : Int) < (xs.length : Int) := by omega
      have hkb : (k : Int) < (ys.length : Int) := by omega
      have HN := Lib.hid (isFirst_here HP.out (show xs[k]? ≠ ys[k]? by rw [List.getElem?_eq_getElem hb, List.getElem?_eq_none (by omega)]; simp))
      clear hx hy
      go_wp2_with (go_quiet (fail))
      go_ret
      exact ⟨by rw [← HN.out]; rfl, belowN hB _⟩
    · have hka : ¬ (k : Int) < (xs.length : Int) := by omega
      have hkb : ¬ (k : Int) < (ys.length : Int) := by omega
      have HN := Lib.hid (isFirst_none HP.out (Nat.not_lt.1 ha) (Nat.not_lt.1 hb))
      clear hx hy
      go_wp2_with (go_quiet (fail))
      go_ret
      exact ⟨by rw [← HN.out]; rfl, hB⟩

set_option maxHeartbeats 2000000 in
theorem first_any {w : World} (A B : Option Addr) (ca cb : Nat) (xs ys : List S) (hx : SeenAt w A xs) (hy : SeenAt w B ys) (hxl : xs.length ≤ 1000000) (hyl : ys.length ≤ 1000000) :
    Calls Tryd.prog 10 #[.slice A xs.length ca, .slice B ys.length cb] w fun e w' => e = .returned (.int .i64 (first xs ys)) ∧ Below w.heap.size w w' := by
  go_enter Tryd.func10, Tryd.ntmps10
  by_cases hle : xs.length ≤ ys.length
  · have hmin : min (xs.length : Int) (ys.length : Int) = (xs.length : Int) := by omega
    go_wp2
    go_loopw [13] (fun i wr => ∃ k : Nat, i = .int .i64 (k : Int) ∧ k ≤ xs.length ∧ (∀ j, j < k → xs[j]? = ys[j]?) ∧ Below w.heap.size w wr) (fun i _ => xs.length - (intOf i).toNat)
    case atStart => exact ⟨0, rfl, Nat.zero_le _, fun j hj => absurd hj (Nat.not_lt_zero j), Below.refl _ _⟩
    case round =>
      obtain ⟨k, rfl, hk, hpre, hB⟩ := hrel
      have HP := Lib.hid hpre
      clear hpre
      by_cases hkn : k < xs.length
      · have ha : k < xs.length := by omega
        have hb : k < ys.length := by omega
        have hxe : xs[k]? = some xs[k] := List.getElem?_eq_getElem ha
        have hye : ys[k]? = some ys[k] := List.getElem?_eq_getElem hb
        obtain ⟨b, off, rfl, hbl, c0, c1, c2, c3⟩ := seen_at (hx.below hB) hxe
        obtain ⟨b', off', rfl, hbl', d0, d1, d2, d3⟩ := seen_at (hy.below hB) hye
        have hka : (k : Int) < (xs.length : Int) := by omega
        have hkb : (k : Int) < (ys.length : Int) := by omega
        generalize hgx : xs[k] = x at *
        generalize hgy : ys[k] = y at *
        have HE := fun w => eqSeen x y w
        by_cases hxy : x = y
        · have hd : decide (x = y) = true := decide_eq_true hxy
          have HN := Lib.hid (next_eq HP.out (by rw [hxe, hye, hxy]))
          simp only [hd] at HE
          obtain ⟨p, q, r, s⟩ := x
          obtain ⟨p', q', r', s'⟩ := y
          simp only [S.cells] at HE c0 c1 c2 c3 d0 d1 d2 d3
          clear hxe hye hgx hgy hxy hd hx hy
          go_wp2_with (go_quiet (fail))
          go_roundw
          case rel => exact ⟨k + 1, by go_num, by omega, HN.out, belowN hB _⟩
          case measure => simp [intOf]; omega
        · have hd : decide (x = y) = false := decide_eq_false hxy
          have HN := Lib.hid (isFirst_here HP.out (show xs[k]? ≠ ys[k]? by rw [hxe, hye]; simpa using hxy))
          simp only [hd] at HE
          obtain ⟨p, q, r, s⟩ := x
          obtain ⟨p', q', r', s'⟩ := y
          simp only [S.cells] at HE c0 c1 c2 c3 d0 d1 d2 d3
          clear hxe hye hgx hgy hxy hd hx hy
          go_wp2_with (go_quiet (fail))
          go_ret
          exact ⟨by rw [← HN.out]; rfl, belowN hB _⟩
      · have hkk : k = xs.length := by omega
        subst hkk
        clear hx hy
        by_cases hlen : xs.length = ys.length
        · have hlb : ((xs.length : Int) == (ys.length : Int)) = true := by simp [hlen]
          have HN := Lib.hid (isFirst_none HP.out (by omega) (by omega))
          clear hlen
          go_wp2
          go_ret
          exact ⟨by rw [← HN.out]; rfl, hB⟩
        · have hlb : ((xs.length : Int) == (ys.length : Int)) = false := by simp; omega
          have HN := Lib.hid (isFirst_here HP.out (by rw [List.getElem?_eq_getElem (show xs.length < ys.length by omega), List.getElem?_eq_none (Nat.le_refl _)]; simp))
          clear hlen
          go_wp2
          go_ret
          exact ⟨by rw [← HN.out]; rfl, hB⟩
  · have hmin : min (xs.length : Int) (ys.length : Int) = (ys.length : Int) := by omega
    go_wp2
    go_loopw [13] (fun i wr => ∃ k : Nat, i = .int .i64 (k : Int) ∧ k ≤ ys.length ∧ (∀ j, j < k → xs[j]? = ys[j]?) ∧ Below w.heap.size w wr) (fun i _ => ys.length - (intOf i).toNat)
    case atStart => exact ⟨0, rfl, Nat.zero_le _, fun j hj => absurd hj (Nat.not_lt_zero j), Below.refl _ _⟩
    case round =>
      obtain ⟨k, rfl, hk, hpre, hB⟩ := hrel
      have HP := Lib.hid hpre
      clear hpre
      by_cases hkn : k < ys.length
      · have ha : k < xs.length := by omega
        have hb : k < ys.length := by omega
        have hxe : xs[k]? = some xs[k] := List.getElem?_eq_getElem ha
        have hye : ys[k]? = some ys[k] := List.getElem?_eq_getElem hb
        obtain ⟨b, off, rfl, hbl, c0, c1, c2, c3⟩ := seen_at (hx.below hB) hxe
        obtain ⟨b', off', rfl, hbl', d0, d1, d2, d3⟩ := seen_at (hy.below hB) hye
        have hka : (k : Int) < (xs.length : Int) := by omega
        have hkb : (k : Int) < (ys.length : Int) := by omega
        generalize hgx : xs[k] = x at *
        generalize hgy : ys[k] = y at *
        have HE := fun w => eqSeen x y w
        by_cases hxy : x = y
        · have hd : decide (x = y) = true := decide_eq_true hxy
          have HN := Lib.hid (next_eq HP.out (by rw [hxe, hye, hxy]))
          simp only [hd] at HE
          obtain ⟨p, q, r, s⟩ := x
          obtain ⟨p', q', r', s'⟩ := y
          simp only [S.cells] at HE c0 c1 c2 c3 d0 d1 d2 d3
          clear hxe hye hgx hgy hxy hd hx hy
          go_wp2_with (go_quiet (fail))
          go_roundw
          case rel => exact ⟨k + 1, by go_num, by omega, HN.out, belowN hB _⟩
          case measure => simp [intOf]; omega
        · have hd : decide (x = y) = false := decide_eq_false hxy
          have HN := Lib.hid (isFirst_here HP.out (show xs[k]? ≠ ys[k]? by rw [hxe, hye]; simpa using hxy))
          simp only [hd] at HE
          obtain ⟨p, q, r, s⟩ := x
          obtain ⟨p', q', r', s'⟩ := y
          simp only [S.cells] at HE c0 c1 c2 c3 d0 d1 d2 d3
          clear hxe hye hgx hgy hxy hd hx hy
          go_wp2_with (go_quiet (fail))
          go_ret
          exact ⟨by rw [← HN.out]; rfl, belowN hB _⟩
      · have hkk : k = ys.length := by omega
        subst hkk
        clear hx hy
        by_cases hlen : xs.length = ys.length
        · have hlb : ((xs.length : Int) == (ys.length : Int)) = true := by simp [hlen]
          have HN := Lib.hid (isFirst_none HP.out (by omega) (by omega))
          clear hlen
          go_wp2
          go_ret
          exact ⟨by rw [← HN.out]; rfl, hB⟩
        · have hlb : ((xs.length : Int) == (ys.length : Int)) = false := by simp; omega
          have HN := Lib.hid (isFirst_here HP.out (by rw [List.getElem?_eq_getElem (show ys.length < xs.length by omega), List.getElem?_eq_none (Nat.le_refl _)]; simp))
          clear hlen
          go_wp2
          go_ret
          exact ⟨by rw [← HN.out]; rfl, hB⟩
end Go.Proofs.YtpcaeggecojaeaaDoor

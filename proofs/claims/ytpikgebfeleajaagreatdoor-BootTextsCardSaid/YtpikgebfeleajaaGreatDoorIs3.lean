/-
  Walks over package isa: jumps, name. No condition.
-/
import Derived.Laws.RangeAny
import Derived.Test.YtpikgebfeleajaaGreatDoorIs2
namespace Go.Proofs.YtpikgebfeleajaaGreatDoor.I
open Go.RowKit
set_option linter.unusedVariables false
set_option linter.unusedSimpArgs false
attribute [local go_sem] Oper.semAt_some

theorem jumps_any (w : World) (n : Int) : Calls Tryz.prog 112 #[.int .i64 n] w fun e w' => e = .returned (.bool (jmpB n)) ∧ w' = w := by
  rcases (show n < 19 ∨ (19 ≤ n ∧ n ≤ 22) ∨ (19 ≤ n ∧ 22 < n) by omega) with h | ⟨h1, h2⟩ | ⟨h1, h2⟩
  · have hb : jmpB n = false := decide_eq_false (by omega)
    rw [hb]
    clear hb
    go_enter Tryz.func112, Tryz.ntmps112
    go_wp2
    go_ret
    exact ⟨rfl, rfl⟩
  · have hb : jmpB n = true := decide_eq_true ⟨h1, h2⟩
    rw [hb]
    clear hb
    go_enter Tryz.func112, Tryz.ntmps112
    go_wp2
    go_ret
    exact ⟨rfl, rfl⟩
  · have hb : jmpB n = false := decide_eq_false (by omega)
    have hd : decide (n ≤ 22) = false := decide_eq_false (by omega)
    rw [hb]
    clear hb h2
    go_enter Tryz.func112, Tryz.ntmps112
    go_wp2
    go_ret
    exact ⟨rfl, rfl⟩

theorem drop_at (s : ByteArray) {pos : Nat} (h : pos < s.size) : s.data.toList.drop pos = (s[pos]'h) :: s.data.toList.drop (pos + 1) := by
  rw [List.drop_eq_getElem_cons (by rw [Array.length_toList]; exact h)]
  rfl
theorem nmAll_step (s : ByteArray) {pos : Nat} (h : pos < s.size) : nmAll pos (s.data.toList.drop pos) = (nmC pos (s[pos]'h) && nmAll (pos + 1) (s.data.toList.drop (pos + 1))) := by
  rw [drop_at s h]
  rfl
theorem nmC_no {i : Nat} {c : UInt8} (h : c.toNat < 48 ∨ (57 < c.toNat ∧ c.toNat < 97) ∨ 122 < c.toNat ∨ (c.toNat < 97 ∧ i = 0)) : nmC i c = false := by
  rw [Bool.eq_false_iff]
  intro h2
  unfold nmC at h2
  simp only [Bool.or_eq_true, Bool.and_eq_true, decide_eq_true_eq] at h2
  omega
theorem nmC_yes {i : Nat} {c : UInt8} (h : (97 ≤ c.toNat ∧ c.toNat ≤ 122) ∨ (48 ≤ c.toNat ∧ c.toNat ≤ 57 ∧ 0 < i)) : nmC i c = true := by
  unfold nmC
  simp only [Bool.or_eq_true, Bool.and_eq_true, decide_eq_true_eq]
  omega
/-- The rune at a place, beside the byte. -/
theorem rune_at (s : ByteArray) {pos : Nat} (h : pos < s.size) : ((Utf8.decode s pos).1 = (s[pos]'h).toNat ∧ (Utf8.decode s pos).2 = 1) ∨ (122 < (Utf8.decode s pos).1 ∧ 122 < (s[pos]'h).toNat) := by
  by_cases ha : (s[pos]'h).toNat < 128
  · left
    rw [decode_ascii s pos h ha]
    exact ⟨rfl, rfl⟩
  · right
    have := (decode_high s pos h (by omega)).1
    exact ⟨by omega, by omega⟩
theorem below_iter (w : World) (s : ByteArray) (p : Nat) : Below w.heap.size w (w.iter s p) := (Below.refl _ _).alloc (Nat.le_refl _) _

set_option maxRecDepth 100000 in
set_option maxHeartbeats 4000000 in
theorem nameW_any (w : World) (s : ByteArray) : Calls Tryz.prog 83 #[.string s] w fun e w' => e = .returned (.bool (nameB s.data.toList)) ∧ Below w.heap.size w w' := by
  have HB := Lib.hid (show nameB s.data.toList = (nmAll 0 (s.data.toList.drop 0) && (decide (1 ≤ s.size) && decide (s.size ≤ 16))) from rfl)
  obtain ⟨q, hq⟩ : ∃ q, nameB s.data.toList = q := ⟨_, rfl⟩
  rw [hq] at HB ⊢
  clear hq
  go_enter Tryz.func83, Tryz.ntmps83
  go_wp2
  go_loopw [3] (fun _ w' => ∃ pos : Nat, w' = w.iter s pos ∧ pos ≤ s.size ∧ nmAll 0 (s.data.toList.drop 0) = nmAll pos (s.data.toList.drop pos)) (fun _ w' => s.size - w'.iterPos w.heap.size)
  case atStart => exact ⟨0, rfl, Nat.zero_le _, rfl⟩
  case round =>
    obtain ⟨pos, rfl, hle, hnm⟩ := hrel
    by_cases hp : pos < s.size
    · have hnx : ∀ ty, (Instr.next (.pointer (some ⟨w.heap.size, 0, none⟩)) true ty).run Tryz.prog (w.iter s pos) = _ := fun ty => run_next_any w s pos ty hp
      have hrn := rune_at s hp
      rw [nmAll_step s hp] at hnm
      have hI := World.iterPos_iter w s pos
      have HNM := Lib.hid hnm
      generalize hr : (Utf8.decode s pos).1 = r at *
      generalize hwd : (Utf8.decode s pos).2 = wd at *
      generalize hcc : s[pos] = c at *
      have hc6 : (nmC pos c = true ∧ r = c.toNat ∧ wd = 1 ∧ 97 ≤ r ∧ r ≤ 122) ∨ (nmC pos c = false ∧ r < 48) ∨ (nmC pos c = true ∧ r = c.toNat ∧ wd = 1 ∧ 48 ≤ r ∧ r ≤ 57 ∧ 0 < pos) ∨ (nmC pos c = false ∧ 48 ≤ r ∧ r ≤ 57 ∧ pos = 0) ∨ (nmC pos c = false ∧ 57 < r ∧ r < 97) ∨ (nmC pos c = false ∧ 122 < r) := by
        rcases hrn with ⟨h1, h2⟩ | ⟨h1, h2⟩
        · rcases (show (97 ≤ r ∧ r ≤ 122) ∨ r < 48 ∨ (48 ≤ r ∧ r ≤ 57 ∧ 0 < pos) ∨ (48 ≤ r ∧ r ≤ 57 ∧ pos = 0) ∨ (57 < r ∧ r < 97) ∨ 122 < r by omega) with h | h | h | h | h | h
          · exact .inl ⟨nmC_yes (.inl (by omega)), h1, h2, h.1, h.2⟩
          · exact .inr (.inl ⟨nmC_no (by omega), h⟩)
          · exact .inr (.inr (.inl ⟨nmC_yes (.inr (by omega)), h1, h2, h.1, h.2.1, h.2.2⟩))
          · exact .inr (.inr (.inr (.inl ⟨nmC_no (by omega), h.1, h.2.1, h.2.2⟩)))
          · exact .inr (.inr (.inr (.inr (.inl ⟨nmC_no (by omega), h.1, h.2⟩))))
          · exact .inr (.inr (.inr (.inr (.inr ⟨nmC_no (by omega), h⟩))))
        · exact .inr (.inr (.inr (.inr (.inr ⟨nmC_no (by omega), h1⟩))))
      clear hrn hnm
      rcases hc6 with ⟨hn, h1, rfl, h3, h4⟩ | ⟨hn, h3⟩ | ⟨hn, h1, rfl, h3, h4, h5⟩ | ⟨hn, h3, h4, rfl⟩ | ⟨hn, h3, h4⟩ | ⟨hn, h3⟩
      case inl =>
        have HN := Lib.hid hn
        have i3 : (97 : Int) ≤ (r : Int) := by omega
        have i4 : (r : Int) ≤ 122 := by omega
        clear hn h1 hr hwd hcc h3 h4
        go_wp2
        go_roundw
        case rel => exact ⟨pos + 1, rfl, by omega, by rw [HNM.out, HN.out]; rfl⟩
        case measure => simp; omega
      case inr.inr.inl =>
        have HN := Lib.hid hn
        have i3 : (48 : Int) ≤ (r : Int) := by omega
        have i4 : (r : Int) ≤ 57 := by omega
        have i5 : (r : Int) < 97 := by omega
        have i6 : (0 : Int) < (pos : Int) := by omega
        clear hn h1 hr hwd hcc h3 h4
        go_wp2
        go_roundw
        case rel => exact ⟨pos + 1, rfl, by omega, by rw [HNM.out, HN.out]; rfl⟩
        case measure => simp; omega
      all_goals
        obtain rfl : q = false := by rw [HB.out, HNM.out, hn]; rfl
        clear HB HNM hn hr hwd hcc
      case inr.inl =>
        have i3 : (r : Int) < 48 := by omega
        have i5 : (r : Int) < 97 := by omega
        clear h3
        go_wp2
        go_ret
        exact ⟨rfl, below_iter _ _ _⟩
      case inr.inr.inr.inl =>
        have i3 : (48 : Int) ≤ (r : Int) := by omega
        have i4 : (r : Int) ≤ 57 := by omega
        have i5 : (r : Int) < 97 := by omega
        clear h3 h4
        go_wp2
        go_ret
        exact ⟨rfl, below_iter _ _ _⟩
      case inr.inr.inr.inr.inl =>
        have i3 : (48 : Int) ≤ (r : Int) := by omega
        have i4 : decide ((r : Int) ≤ 57) = false := decide_eq_false (by omega)
        have i5 : (r : Int) < 97 := by omega
        clear h3 h4
        go_wp2
        go_ret
        exact ⟨rfl, below_iter _ _ _⟩
      case inr.inr.inr.inr.inr =>
        have i3 : (48 : Int) ≤ (r : Int) := by omega
        have i4 : decide ((r : Int) ≤ 57) = false := decide_eq_false (by omega)
        have i5 : (97 : Int) ≤ (r : Int) := by omega
        have i6 : decide ((r : Int) ≤ 122) = false := decide_eq_false (by omega)
        clear h3
        go_wp2
        go_ret
        exact ⟨rfl, below_iter _ _ _⟩
    · obtain rfl : pos = s.size := by omega
      have hnx : ∀ ty, (Instr.next (.pointer (some ⟨w.heap.size, 0, none⟩)) true ty).run Tryz.prog (w.iter s s.size) = _ := fun ty => run_next_end w s s.size ty hp
      have hlast : nmAll s.size (s.data.toList.drop s.size) = true := by
        rw [List.drop_eq_nil_of_le (by rw [Array.length_toList]; exact Nat.le_refl _)]
        rfl
      rw [hlast] at hnm
      have hq := HB.out
      rw [hnm, Bool.true_and] at hq
      clear HB hnm hlast hle hp
      by_cases h1 : 1 ≤ s.size
      · rw [decide_eq_true h1, Bool.true_and] at hq
        have i1 : (1 : Int) ≤ (s.size : Int) := by omega
        have i2 : decide ((s.size : Int) ≤ 16) = q := by rw [hq]; by_cases h : s.size ≤ 16 <;> simp [h] <;> omega
        clear hq h1
        go_wp2
        go_ret
        exact ⟨by first | rfl | rw [← i2]; rfl | simp [i2], below_iter _ _ _⟩
      · rw [decide_eq_false h1, Bool.false_and] at hq
        subst hq
        have i1 : (s.size : Int) < 1 := by omega
        clear h1
        go_wp2
        go_ret
        exact ⟨rfl, below_iter _ _ _⟩
end Go.Proofs.YtpikgebfeleajaaGreatDoor.I

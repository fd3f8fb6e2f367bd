/-
  Walks over package isa: Check. Condition: the table lies as the program's text lays it.
-/
import Derived.Deep.RegionHeld3
import Derived.Test.YtpikgebfeleajaaGreatDoorIsPl
namespace Go.Proofs.YtpikgebfeleajaaGreatDoor.I
open Go.RowKit
set_option linter.unusedVariables false
set_option linter.unusedSimpArgs false
attribute [local go_sem] Oper.semAt_some

def errI (x : Ins) : Int := if MayI x then 0 else 30
theorem errI_is {op a b m fa fb : Int} {q fi : Bool} (hq : isR op = q) (ha : fA (fR op) = fa) (hb : fB (fR op) = fb) (hi : fI (fR op) = fi) :
    errI ⟨op, a, b, m⟩ = if q = true ∧ (0 ≤ a ∧ a ≤ max fa 0) ∧ (0 ≤ b ∧ b ≤ max fb 0) ∧ (m = 0 ∨ (fi = true ∧ -32768 ≤ m ∧ m ≤ 32767)) then 0 else 30 := by
  unfold errI MayI
  simp only [ha, hb, hi]
  rw [← hq]
  unfold isR
  simp only [decide_eq_true_eq]

theorem run_max0 (ts : Array TypeId) (t : TypeId) (x : Int) (W : World) : (Builtin.max_ ts t #[.int .i64 x, .int .i64 0]).run Tryz.prog W = .ok (.int .i64 (max x 0)) W := by
  have h : (Builtin.max_ ts t #[.int .i64 x, .int .i64 0]).run Tryz.prog W = .ok (.int .i64 (if 0 > x then 0 else x)) W := by simp [Builtin.max_, Builtin.max2]
  rw [h]
  congr 2
  split <;> omega

set_option maxRecDepth 100000 in
set_option maxHeartbeats 4000000 in
theorem check_any {w : World} (hL : Laid w) (op a b m : Int) : Calls Tryz.prog 72 #[.agg #[.int .i64 op, .int .i64 a, .int .i64 b, .int .i64 m]] w fun e w' => e = .returned (.int .i64 (errI ⟨op, a, b, m⟩)) ∧ Below w.heap.size w w' := by
  have hb0 := (Below.refl w.heap.size w).alloc (Nat.le_refl _) (.cells #[.int .i64 op, .int .i64 a, .int .i64 b, .int .i64 m] 86)
  have hx0 := Blk.new w 86 #[.int .i64 op, .int .i64 a, .int .i64 b, .int .i64 m]
  have H := Lib.hid (of_any (hL.below hb0) op)
  unfold aggF at H
  obtain ⟨q, hq⟩ : ∃ q, isR op = q := ⟨_, rfl⟩
  obtain ⟨fa, hfa⟩ : ∃ q, fA (fR op) = q := ⟨_, rfl⟩
  obtain ⟨fb, hfb⟩ : ∃ q, fB (fR op) = q := ⟨_, rfl⟩
  obtain ⟨fi, hfi⟩ : ∃ q, fI (fR op) = q := ⟨_, rfl⟩
  have ra := fA_range op
  have rb := fB_range op
  have HE := errI_is (a := a) (b := b) (m := m) hq hfa hfb hfi
  rw [hq, hfa, hfb, hfi] at H
  rw [hfa] at ra
  rw [hfb] at rb
  obtain ⟨er, her⟩ : ∃ er, errI ⟨op, a, b, m⟩ = er := ⟨_, rfl⟩
  rw [her] at HE ⊢
  generalize fN (fR op) = s at *
  clear hL hq hfa hfb hfi her
  go_enter Tryz.func72, Tryz.ntmps72
  go_wp2_with fail
  refine H.out.mono ?_
  rintro e w1 ⟨rfl, hb1⟩
  have hx1 := hx0.below hb1 hx0.lt
  have HB1 := Lib.hid (bl_step hb0 hb1)
  obtain ⟨c0, c1, c2, c3, clt⟩ := ccells hx1
  clear hb0 hx0 hb1 hx1 H
  have hm : m = 0 ∨ (¬ m = 0 ∧ fi = false) ∨ (¬ m = 0 ∧ fi = true ∧ m < -32768) ∨ (¬ m = 0 ∧ fi = true ∧ -32768 ≤ m ∧ 32767 < m) ∨ (¬ m = 0 ∧ fi = true ∧ -32768 ≤ m ∧ m ≤ 32767) := by
    cases fi
    · by_cases h : m = 0
      · exact .inl h
      · exact .inr (.inl ⟨h, rfl⟩)
    · simp only [Bool.true_eq_false, and_false, false_or, true_and]
      omega
  obtain ⟨ma, hma⟩ : ∃ ma, ma = max fa 0 := ⟨_, rfl⟩
  obtain ⟨mb, hmb⟩ : ∃ mb, mb = max fb 0 := ⟨_, rfl⟩
  rw [← hma, ← hmb] at HE
  have HXA := fun ts t W => run_max0 ts t fa W
  have HXB := fun ts t W => run_max0 ts t fb W
  rw [← hma] at HXA
  rw [← hmb] at HXB
  clear hma hmb ra rb
  have hr : q = false ∨ (q = true ∧ a < 0) ∨ (q = true ∧ 0 ≤ a ∧ ma < a) ∨ (q = true ∧ 0 ≤ a ∧ a ≤ ma ∧ b < 0) ∨ (q = true ∧ 0 ≤ a ∧ a ≤ ma ∧ 0 ≤ b ∧ mb < b) ∨ (q = true ∧ 0 ≤ a ∧ a ≤ ma ∧ 0 ≤ b ∧ b ≤ mb) := by
    cases q
    · exact .inl rfl
    · simp only [Bool.true_eq_false, false_or, true_and]
      omega
  have HH := Lib.hid HE
  clear HE
  rcases hr with rfl | ⟨rfl, h1⟩ | ⟨rfl, h1, h2⟩ | ⟨rfl, h1, h2, h3⟩ | ⟨rfl, h1, h2, h3, h4⟩ | ⟨rfl, h1, h2, h3, h4⟩
  case inr.inr.inr.inr.inr =>
    have hm2 : (m = 0 ∧ er = 0) ∨ (¬ m = 0 ∧ fi = false ∧ er = 30) ∨ (¬ m = 0 ∧ fi = true ∧ m < -32768 ∧ er = 30) ∨ (¬ m = 0 ∧ fi = true ∧ -32768 ≤ m ∧ 32767 < m ∧ er = 30) ∨ (¬ m = 0 ∧ fi = true ∧ -32768 ≤ m ∧ m ≤ 32767 ∧ er = 0) := by
      have he := HH.out
      rcases hm with rfl | ⟨k1, rfl⟩ | ⟨k1, rfl, k2⟩ | ⟨k1, rfl, k2, k3⟩ | ⟨k1, rfl, k2, k3⟩
      · rw [if_pos ⟨rfl, ⟨h1, h2⟩, ⟨h3, h4⟩, .inl rfl⟩] at he
        exact .inl ⟨rfl, he⟩
      · rw [if_neg (fun h => by rcases h.2.2.2 with h | h; exact k1 h; cases h.1)] at he
        exact .inr (.inl ⟨k1, rfl, he⟩)
      · rw [if_neg (fun h => by rcases h.2.2.2 with h | h; exact k1 h; omega)] at he
        exact .inr (.inr (.inl ⟨k1, rfl, k2, he⟩))
      · rw [if_neg (fun h => by rcases h.2.2.2 with h | h; exact k1 h; omega)] at he
        exact .inr (.inr (.inr (.inl ⟨k1, rfl, k2, k3, he⟩)))
      · rw [if_pos ⟨rfl, ⟨h1, h2⟩, ⟨h3, h4⟩, .inr ⟨rfl, k2, k3⟩⟩] at he
        exact .inr (.inr (.inr (.inr ⟨k1, rfl, k2, k3, he⟩)))
    clear hm HH
    rcases hm2 with ⟨rfl, rfl⟩ | ⟨k1, rfl, rfl⟩ | ⟨k1, rfl, k2, rfl⟩ | ⟨k1, rfl, k2, k3, rfl⟩ | ⟨k1, rfl, k2, k3, rfl⟩
    all_goals
      try have kb : (m == 0) = false := beq_false_of_ne k1
      try
        first
          | (have d2 : decide (-32768 ≤ m) = false := decide_eq_false (by omega); clear k2)
          | (have d2 : decide (-32768 ≤ m) = true := decide_eq_true k2; first | (have d3 : decide (m ≤ 32767) = true := decide_eq_true k3; clear k2 k3) | (have d3 : decide (m ≤ 32767) = false := decide_eq_false (by omega); clear k2 k3))
      go_wp2
      go_ret
      exact ⟨rfl, bl_new HB1.out _⟩
  all_goals
    obtain rfl : er = 30 := by rw [HH.out, if_neg]; first | omega | simp
    clear HH
    rcases hm with rfl | ⟨k1, rfl⟩ | ⟨k1, rfl, k2⟩ | ⟨k1, rfl, k2, k3⟩ | ⟨k1, rfl, k2, k3⟩
    all_goals
      try
        first
          | (have d2 : decide (-32768 ≤ m) = false := decide_eq_false (by omega); clear k2)
          | (have d2 : decide (-32768 ≤ m) = true := decide_eq_true k2; first | (have d3 : decide (m ≤ 32767) = true := decide_eq_true k3; clear k2 k3) | (have d3 : decide (m ≤ 32767) = false := decide_eq_false (by omega); clear k2 k3))
      go_wp2
      go_ret
      exact ⟨rfl, bl_new HB1.out _⟩
end Go.Proofs.YtpikgebfeleajaaGreatDoor.I

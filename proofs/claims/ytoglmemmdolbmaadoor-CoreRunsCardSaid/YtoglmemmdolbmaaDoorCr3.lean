/-
  What the document says a register's instruction makes, walked. Condition: the instruction is one of them, words are words.
-/
import Derived.Test.YtoglmemmdolbmaaDoorCo5
import Derived.Test.YtoglmemmdolbmaaDoorGaw
namespace Go.Proofs.YtoglmemmdolbmaaDoor
section
open Go.RowKit
set_option linter.unusedVariables false
set_option linter.unusedSimpArgs false
attribute [local go_sem] Oper.semAt_some

/-- Bytes in a slice. -/
structure ByIn (w : World) (A : Option Addr) (B cap : Nat) (m : List Int) : Prop where
  row : RowB w A B m
  cap : m.length ≤ cap
  low : ∀ x ∈ m, 0 ≤ x ∧ x ≤ 255
  len : m.length ≤ 1000000
theorem ByIn.cell {w : World} {A : Option Addr} {B cap : Nat} {m : List Int} (h : ByIn w A B cap m) {i : Nat} {x : Int} (hx : m[i]? = some x) : A = some ⟨B, 0, none⟩ ∧ B < w.heap.size ∧ w.cell? ⟨B, i, none⟩ = some (.int .u8 x) ∧ w.frozen? ⟨B, i, none⟩ = false := by
  have hne : m ≠ [] := by rintro rfl; simp at hx
  obtain ⟨hA, cs, hb, _, hc⟩ := h.row hne
  exact ⟨hA, hb.lt, (hb.cell i).trans (hc i x hx), hb.frozen i⟩
theorem ByIn.below {w w' : World} {A : Option Addr} {B cap : Nat} {m : List Int} (h : ByIn w A B cap m) (hb : Below w.heap.size w w') : ByIn w' A B cap m :=
  ⟨fun hne => by
    obtain ⟨hA, cs, hc, rest⟩ := h.row hne
    exact ⟨hA, cs, hc.below hb hc.lt, rest⟩, h.cap, h.low, h.len⟩
theorem getD_low {m : List Int} (h : ∀ x ∈ m, 0 ≤ x ∧ x ≤ 255) (i : Nat) : 0 ≤ m.getD i 0 ∧ m.getD i 0 ≤ 255 := by
  rw [List.getD_eq_getElem?_getD]
  cases hx : m[i]? with
  | none => simp
  | some x => exact h x (List.mem_of_getElem? hx)

set_option maxRecDepth 100000 in
set_option maxHeartbeats 4000000 in
theorem refWord7_any {w : World} {A : Option Addr} {B cap : Nat} {m : List Int} (h : ByIn w A B cap m) (a : Nat) (ha : a < 4294967296) :
    Calls Tryd.prog 30 #[.slice A m.length cap, .int .u32 (a : Int)] w fun e w' => e = .returned (.tuple #[.int .u32 ((wordM m a).getD 0), .bool (wordM m a).isSome]) ∧ w' = w := by
  have hl := h.len
  have hcap := h.cap
  unfold wordM
  by_cases hf : a + 4 ≤ m.length
  · rw [if_pos hf]
    have hx : ∀ i, i < m.length → m[i]? = some (m.getD i 0) := fun i hi => by rw [List.getD_eq_getElem?_getD, List.getElem?_eq_getElem hi]; rfl
    obtain ⟨rfl, hB, d0, f0⟩ := h.cell (hx a (by omega))
    obtain ⟨_, _, d1, f1⟩ := h.cell (hx (a + 1) (by omega))
    obtain ⟨_, _, d2, f2⟩ := h.cell (hx (a + 2) (by omega))
    obtain ⟨_, _, d3, f3⟩ := h.cell (hx (a + 3) (by omega))
    obtain ⟨p0, p1⟩ := getD_low h.low a
    obtain ⟨p2, p3⟩ := getD_low h.low (a + 1)
    obtain ⟨p4, p5⟩ := getD_low h.low (a + 2)
    obtain ⟨p6, p7⟩ := getD_low h.low (a + 3)
    generalize m.getD a 0 = b0 at *
    generalize m.getD (a + 1) 0 = b1 at *
    generalize m.getD (a + 2) 0 = b2 at *
    generalize m.getD (a + 3) 0 = b3 at *
    have hfi : (a : Int) + 4 ≤ (m.length : Int) := by omega
    have HV := Lib.hid (show w4 b0 b1 b2 b3 = ((b3 * 256 + b2) * 256 + b1) * 256 + b0 from by unfold w4; omega)
    clear hx h f0 f1 f2 f3
    go_enter Tryd.func30, Tryd.ntmps30
    go_wp2
    go_loopw [6, 7] (fun v i wr => wr = w ∧ ∃ x y : Int, i = .int .i64 x ∧ v = .int .u32 y ∧ ((x = 3 ∧ y = 0) ∨ (x = 2 ∧ y = b3) ∨ (x = 1 ∧ y = b3 * 256 + b2) ∨ (x = 0 ∧ y = (b3 * 256 + b2) * 256 + b1) ∨ (x = -1 ∧ y = ((b3 * 256 + b2) * 256 + b1) * 256 + b0))) (fun _ i _ => (intOf i + 1).toNat)
    case atStart => exact ⟨rfl, 3, 0, rfl, rfl, .inl ⟨rfl, rfl⟩⟩
    case round =>
      obtain ⟨rfl, x, y, rfl, rfl, hxy⟩ := hrel
      rcases hxy with ⟨rfl, rfl⟩ | ⟨rfl, rfl⟩ | ⟨rfl, rfl⟩ | ⟨rfl, rfl⟩ | ⟨rfl, rfl⟩
      · go_wp2
        go_roundw
        case rel => exact ⟨trivial, 2, b3, rfl, by simp, .inr (.inl ⟨rfl, rfl⟩)⟩
        case measure => simp [intOf]
      · go_wp2
        go_roundw
        case rel => exact ⟨trivial, 1, _, rfl, rfl, .inr (.inr (.inl ⟨rfl, rfl⟩))⟩
        case measure => simp [intOf]
      · go_wp2
        go_roundw
        case rel => exact ⟨trivial, 0, _, rfl, rfl, .inr (.inr (.inr (.inl ⟨rfl, rfl⟩)))⟩
        case measure => simp [intOf]
      · go_wp2
        go_roundw
        case rel => exact ⟨trivial, -1, _, rfl, rfl, .inr (.inr (.inr (.inr ⟨rfl, rfl⟩)))⟩
        case measure => simp [intOf]
      · go_wp2
        go_ret2
        refine ⟨?_, rfl⟩
        show _ = Ending.returned (.tuple #[.int .u32 (w4 b0 b1 b2 b3), .bool true])
        rw [HV.out]
        rfl
  · rw [if_neg hf]
    have hfi : ¬ (a : Int) + 4 ≤ (m.length : Int) := by omega
    have hfj : (m.length : Int) < (a : Int) + 4 := by omega
    clear h
    go_enter Tryd.func30, Tryd.ntmps30
    go_wp2
    go_ret2
    exact ⟨rfl, rfl⟩

theorem refSigned_any {w : World} (v : Int) (h0 : 0 ≤ v) (h1 : v ≤ 4294967295) : Calls Tryd.prog 63 #[.int .u32 v] w fun e w' => e = .returned (.int .i64 (wrap32 v)) ∧ w' = w := by
  have e1 := wrap32_in h0 h1
  by_cases hb : 2147483648 ≤ v
  all_goals
    simp only [hb, if_true, if_false] at e1
    rw [e1]
    clear e1
    go_enter Tryd.func63, Tryd.ntmps63
    go_wp2
    go_ret
    exact ⟨rfl, rfl⟩
theorem refImm_any {w : World} (n : Int) (h0 : -32768 ≤ n) (h1 : n ≤ 32767) : Calls Tryd.prog 32 #[.int .i64 n] w fun e w' => e = .returned (.int .u32 (n % 4294967296)) ∧ w' = w := by
  have ht : (n + 4294967296).tmod 4294967296 = n % 4294967296 := by rw [Int.tmod_eq_emod_of_nonneg (by omega)]; omega
  have hq0 : 0 ≤ n % 4294967296 := by omega
  have hq1 : n % 4294967296 < 4294967296 := by omega
  go_enter Tryd.func32, Tryd.ntmps32
  go_wp2
  go_ret
  exact ⟨by first | rfl | simp | (congr 2; omega), rfl⟩
end
end Go.Proofs.YtoglmemmdolbmaaDoor
namespace Go.Proofs.YtoglmemmdolbmaaDoor
section
open Go.RowKit
set_option linter.unusedVariables false
set_option linter.unusedSimpArgs false
attribute [local go_sem] Oper.semAt_some

theorem shl_step (a : Int) (k : Nat) : (a * 2 ^ k % 4294967296) * 2 % 4294967296 = a * 2 ^ (k + 1) % 4294967296 := by
  rw [Int.pow_succ, ← Int.mul_assoc]
  generalize a * 2 ^ k = x
  omega
theorem shr_step (a : Int) (k : Nat) : (a / 2 ^ k) / 2 = a / 2 ^ (k + 1) := by
  rw [Int.pow_succ, Int.ediv_ediv_of_nonneg (Int.le_of_lt (Int.pow_pos (by decide)))]

set_option maxRecDepth 100000 in
set_option maxHeartbeats 4000000 in
theorem refShl_any {w : World} (a b : Int) (ha : 0 ≤ a ∧ a ≤ 4294967295) (hb : 0 ≤ b ∧ b ≤ 4294967295) : Calls Tryd.prog 62 #[.int .u32 a, .int .u32 b, .bool true] w fun e w' => e = .returned (.int .u32 (shlP a b)) ∧ w' = w := by
  obtain ⟨n, hn⟩ := Int.eq_ofNat_of_zero_le (show 0 ≤ b % 32 by omega)
  have hn32 : n < 32 := by omega
  have HR := Lib.hid (show shlP a b = a * 2 ^ n % 4294967296 from by unfold shlP; rw [hn, Int.toNat_natCast])
  have ht : b.tmod 32 = (n : Int) := by rw [Int.tmod_eq_emod_of_nonneg hb.1]; exact hn
  have hbm : b % 32 = (n : Int) := hn
  have h0 : a * 2 ^ 0 % 4294967296 = a := by simp; omega
  obtain ⟨hb0, hb1⟩ := hb
  obtain ⟨ha0, ha1⟩ := ha
  go_enter Tryd.func62, Tryd.ntmps62
  go_wp2
  go_loopw [0, 7] (fun v i wr => wr = w ∧ ∃ (k : Nat) (y : Int), i = .int .u32 (k : Int) ∧ v = .int .u32 y ∧ k ≤ n ∧ 0 ≤ y ∧ y ≤ 4294967295 ∧ Hid (y = a * 2 ^ k % 4294967296)) (fun _ i _ => n - (intOf i).toNat)
  case atStart => exact ⟨rfl, 0, a, rfl, rfl, Nat.zero_le _, ha0, ha1, Lib.hid h0.symm⟩
  case round =>
    obtain ⟨rfl, k, y, rfl, rfl, hk, hy0, hy1, HY⟩ := hrel
    clear h0
    by_cases hkn : k < n
    · have hki : (k : Int) < (n : Int) := by omega
      have HY2 := Lib.hid (show y * 2 % 4294967296 = a * 2 ^ (k + 1) % 4294967296 from by rw [← shl_step, ← HY.out])
      have hz0 : 0 ≤ y * 2 % 4294967296 := by omega
      have hz1 : y * 2 % 4294967296 ≤ 4294967295 := by omega
      go_wp2
      go_roundw
      case rel => exact ⟨trivial, k + 1, _, by go_num, rfl, by omega, hz0, hz1, HY2⟩
      case measure => simp [intOf]; omega
    · have hkk : k = n := by omega
      subst hkk
      have hki : ¬ (k : Int) < (k : Int) := by omega
      go_wp2
      go_ret
      exact ⟨by rw [HR.out, ← HY.out]; rfl, rfl⟩
set_option maxRecDepth 100000 in
set_option maxHeartbeats 4000000 in
theorem refShr_any {w : World} (a b : Int) (ha : 0 ≤ a ∧ a ≤ 4294967295) (hb : 0 ≤ b ∧ b ≤ 4294967295) : Calls Tryd.prog 62 #[.int .u32 a, .int .u32 b, .bool false] w fun e w' => e = .returned (.int .u32 (shrP a b)) ∧ w' = w := by
  obtain ⟨n, hn⟩ := Int.eq_ofNat_of_zero_le (show 0 ≤ b % 32 by omega)
  have hn32 : n < 32 := by omega
  have HR := Lib.hid (show shrP a b = a / 2 ^ n from by unfold shrP; rw [hn, Int.toNat_natCast])
  have ht : b.tmod 32 = (n : Int) := by rw [Int.tmod_eq_emod_of_nonneg hb.1]; exact hn
  have hbm : b % 32 = (n : Int) := hn
  have h0 : a / 2 ^ 0 = a := by simp
  obtain ⟨hb0, hb1⟩ := hb
  obtain ⟨ha0, ha1⟩ := ha
  go_enter Tryd.func62, Tryd.ntmps62
  go_wp2
  go_loopw [0, 7] (fun v i wr => wr = w ∧ ∃ (k : Nat) (y : Int), i = .int .u32 (k : Int) ∧ v = .int .u32 y ∧ k ≤ n ∧ 0 ≤ y ∧ y ≤ 4294967295 ∧ Hid (y = a / 2 ^ k)) (fun _ i _ => n - (intOf i).toNat)
  case atStart => exact ⟨rfl, 0, a, rfl, rfl, Nat.zero_le _, ha0, ha1, Lib.hid h0.symm⟩
  case round =>
    obtain ⟨rfl, k, y, rfl, rfl, hk, hy0, hy1, HY⟩ := hrel
    clear h0
    by_cases hkn : k < n
    · have hki : (k : Int) < (n : Int) := by omega
      have HY2 := Lib.hid (show y / 2 = a / 2 ^ (k + 1) from by rw [← shr_step, ← HY.out])
      have hz0 : 0 ≤ y / 2 := by omega
      have hz1 : y / 2 ≤ 4294967295 := by omega
      go_wp2
      go_roundw
      case rel => exact ⟨trivial, k + 1, _, by go_num, rfl, by omega, hz0, hz1, HY2⟩
      case measure => simp [intOf]; omega
    · have hkk : k = n := by omega
      subst hkk
      have hki : ¬ (k : Int) < (k : Int) := by omega
      go_wp2
      go_ret
      exact ⟨by rw [HR.out, ← HY.out]; rfl, rfl⟩
end
end Go.Proofs.YtoglmemmdolbmaaDoor
namespace Go.Proofs.YtoglmemmdolbmaaDoor
section
open Go.RowKit
set_option linter.unusedVariables false
set_option linter.unusedSimpArgs false
attribute [local go_sem] Oper.semAt_some

set_option maxRecDepth 100000 in
set_option maxHeartbeats 8000000 in
theorem refCount7_any {w : World} (op xa xb im a b : Int) (h0 : 1 ≤ op) (h1 : op ≤ 14) (hi : -32768 ≤ im ∧ im ≤ 32767) (ha : 0 ≤ a ∧ a ≤ 4294967295) (hb : 0 ≤ b ∧ b ≤ 4294967295) :
    Calls Tryd.prog 44 #[.agg #[.int .i64 op, .int .i64 xa, .int .i64 xb, .int .i64 im], .int .u32 a, .int .u32 b] w fun e w' => e = .returned (.int .u32 ((countP op im a b).getD 0)) ∧ Below w.heap.size w w' := by
  have hx := Blk.new w 38 #[.int .i64 op, .int .i64 xa, .int .i64 xb, .int .i64 im]
  have HB0 := Lib.hid (bl_new (Below.refl w.heap.size w) (.cells #[.int .i64 op, .int .i64 xa, .int .i64 xb, .int .i64 im] 38))
  have HI := Lib.hid (fun W => refImm_any (w := W) im hi.1 hi.2)
  have HSL := Lib.hid (fun W => refShl_any (w := W) a b ha hb)
  have HSR := Lib.hid (fun W => refShr_any (w := W) a b ha hb)
  have HSA := Lib.hid (fun W => refSigned_any (w := W) a ha.1 ha.2)
  have HSB := Lib.hid (fun W => refSigned_any (w := W) b hb.1 hb.2)
  obtain ⟨hi0, hi1⟩ := hi
  obtain ⟨ha0, ha1⟩ := ha
  obtain ⟨hb0, hb1⟩ := hb
  obtain ⟨c0, c1, c2, c3, clt⟩ := ccells hx
  clear hx
  have hop : op = 1 ∨ op = 2 ∨ op = 12 ∨ op = 10 ∨ op = 11 ∨ op = 13 ∨ op = 14 ∨ op = 3 ∨ op = 4 ∨ op = 5 ∨ op = 6 ∨ op = 7 ∨ op = 8 ∨ op = 9 := by omega
  clear h0 h1
  rcases hop with rfl | rfl | rfl | rfl | rfl | rfl | rfl | rfl | rfl | rfl | rfl | rfl | rfl | rfl
  · rw [show countP 1 im a b = some (im % 4294967296) from rfl]
    generalize im % 4294967296 = iv at *
    go_enter Tryd.func44, Tryd.ntmps44
    go_wp2_with fail
    refine (HI.out _).mono ?_
    rintro e w1 ⟨rfl, rfl⟩
    go_wp2
    go_ret
    exact ⟨rfl, HB0.out⟩
  · have HE := Lib.hid (show (im % 4294967296) % 65536 * 65536 + a % 65536 = im % 65536 * 65536 + a % 65536 from by omega)
    rw [show countP 2 im a b = some (im % 65536 * 65536 + a % 65536) from rfl]
    have hv0 : 0 ≤ im % 4294967296 := by omega
    have hv1 : im % 4294967296 < 4294967296 := by omega
    have hr0 : im % 65536 = im % 4294967296 % 65536 := by omega
    rw [hr0]
    generalize im % 4294967296 = iv at *
    have ht1 : iv.tmod 65536 = iv % 65536 := Int.tmod_eq_emod_of_nonneg hv0
    have ht2 : a.tmod 65536 = a % 65536 := Int.tmod_eq_emod_of_nonneg ha0
    clear hr0
    go_enter Tryd.func44, Tryd.ntmps44
    go_wp2_with fail
    refine (HI.out _).mono ?_
    rintro e w1 ⟨rfl, rfl⟩
    go_wp2
    go_ret
    exact ⟨by first | rfl | simp, HB0.out⟩
  · rw [show countP 12 im a b = some ((a + im % 4294967296) % 4294967296) from rfl]
    have hv0 : 0 ≤ im % 4294967296 := by omega
    have hv1 : im % 4294967296 < 4294967296 := by omega
    generalize im % 4294967296 = iv at *
    go_enter Tryd.func44, Tryd.ntmps44
    go_wp2_with fail
    refine (HI.out _).mono ?_
    rintro e w1 ⟨rfl, rfl⟩
    go_wp2
    go_ret
    exact ⟨rfl, HB0.out⟩
  · rw [show countP 10 im a b = some (shlP a b) from rfl]
    go_enter Tryd.func44, Tryd.ntmps44
    go_wp2_with fail
    refine (HSL.out _).mono ?_
    rintro e w1 ⟨rfl, rfl⟩
    go_wp2
    go_ret
    exact ⟨rfl, HB0.out⟩
  · rw [show countP 11 im a b = some (shrP a b) from rfl]
    go_enter Tryd.func44, Tryd.ntmps44
    go_wp2_with fail
    refine (HSR.out _).mono ?_
    rintro e w1 ⟨rfl, rfl⟩
    go_wp2
    go_ret
    exact ⟨rfl, HB0.out⟩
  · by_cases hlt : wrap32 a < wrap32 b
    · rw [show countP 13 im a b = some 1 from by unfold countP; simp [hlt]]
      generalize wrap32 a = sa at *
      generalize wrap32 b = sb at *
      go_enter Tryd.func44, Tryd.ntmps44
      go_wp2_with fail
      refine (HSA.out _).mono ?_
      rintro e w1 ⟨rfl, rfl⟩
      go_wp2_with fail
      refine (HSB.out _).mono ?_
      rintro e w1 ⟨rfl, rfl⟩
      go_wp2
      go_ret
      exact ⟨rfl, HB0.out⟩
    · rw [show countP 13 im a b = some 0 from by unfold countP; simp [hlt]]
      generalize wrap32 a = sa at *
      generalize wrap32 b = sb at *
      go_enter Tryd.func44, Tryd.ntmps44
      go_wp2_with fail
      refine (HSA.out _).mono ?_
      rintro e w1 ⟨rfl, rfl⟩
      go_wp2_with fail
      refine (HSB.out _).mono ?_
      rintro e w1 ⟨rfl, rfl⟩
      go_wp2
      go_ret
      exact ⟨rfl, HB0.out⟩
  · by_cases hlt : a = b
    · rw [show countP 14 im a b = some 1 from by unfold countP; simp [hlt]]
      have hbq : (a == b) = true := by simpa using hlt
      clear hlt
      go_enter Tryd.func44, Tryd.ntmps44
      go_wp2
      go_ret
      exact ⟨rfl, HB0.out⟩
    · rw [show countP 14 im a b = some 0 from by unfold countP; simp [hlt]]
      have hbq : (a == b) = false := by simpa using hlt
      clear hlt
      go_enter Tryd.func44, Tryd.ntmps44
      go_wp2
      go_ret
      exact ⟨rfl, HB0.out⟩
  all_goals
    go_enter Tryd.func44, Tryd.ntmps44
    go_wp2
    go_ret
    exact ⟨rfl, HB0.out⟩
end
end Go.Proofs.YtoglmemmdolbmaaDoor

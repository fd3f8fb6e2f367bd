/-
  May an operation be? The document's answer, walked. No condition but the name's length.
-/
import Derived.Deep.CutRange
import Derived.Test.YtgefnicpkfcghaaDoorSfY
import Derived.Test.YtgefnicpkfcghaaDoorScE
import Derived.Test.YtgefnicpkfcghaaDoorSfZ3
import Derived.Test.YtgefnicpkfcghaaDoorSfZ2
import Derived.Test.YtgefnicpkfcghaaDoorSfZ1
namespace Go.Proofs.YtgefnicpkfcghaaDoor
open Go.RowKit
set_option linter.unusedVariables false
set_option linter.unusedSimpArgs false
attribute [local go_sem] Oper.semAt_some

set_option maxRecDepth 100000 in
set_option maxHeartbeats 8000000 in
theorem refMay_w8 {W0 : World} (co n p s m : Int) (w : ByteArray) (hm0 : 0 ≤ m) (R cb pb nb nn : Bool) (HCB : Hid (cb = decide (0 ≤ co ∧ co < 8))) (HPB : Hid (pb = decide (1 ≤ p ∧ p ≤ 65535))) (HNB : Hid (nb = nameB w.data.toList)) (HNN : Hid (nn = w.toList.isEmpty))
    (HT : Hid ((nb = true ∧ m < 256 ∧ co = 0 ∧ n = 0 ∧ p = 0 ∧ s = 0) → R = true)) (HF : Hid (¬ (nb = true ∧ m < 256 ∧ co = 0 ∧ n = 0 ∧ p = 0 ∧ s = 0) → R = false)) :
    Calls Tryd.prog 30 #[.agg #[.int .i64 8, .int .i64 co, .int .i64 n, .int .i64 p, .int .i64 s, .int .u32 m, .string w]] W0 fun e w' => e = .returned (.bool R) ∧ Below W0.heap.size W0 w' := by
  have HX0 := Lib.hid (Blk.new W0 24 #[.int .i64 8, .int .i64 co, .int .i64 n, .int .i64 p, .int .i64 s, .int .u32 m, .string w])
  have HB0 := Lib.hid ((Below.refl W0.heap.size W0).alloc (Nat.le_refl _) (.cells #[.int .i64 8, .int .i64 co, .int .i64 n, .int .i64 p, .int .i64 s, .int .u32 m, .string w] 24))
  have HNM := Lib.hid (fun W => refNamed_any (w := W) w)
  go_enter Tryd.func30, Tryd.ntmps30
  go_upto_region 1 with (fail)
  generalize hWW : World.alloc W0 (.cells #[.int .i64 8, .int .i64 co, .int .i64 n, .int .i64 p, .int .i64 s, .int .u32 m, .string w] 24) = W1 at *
  generalize hbb : W0.heap.size = bx at *
  obtain ⟨x0, x1, x2, x3, x4, x5, x6⟩ := ocells HX0.out
  have hxl := HX0.out.lt
  go_cut [3] from 7 to 14 (fun a wc => a = .bool cb ∧ wc = W1)
  case first =>
    have hc : co < 0 ∨ (¬ co < 0 ∧ 7 < co) ∨ (¬ co < 0 ∧ ¬ 7 < co) := by omega
    rcases hc with hc | ⟨hc, hd⟩ | ⟨hc, hd⟩
    all_goals
      have hc2 : cb = decide (0 ≤ co ∧ co < 8) := HCB.out
      have hcx : (0 ≤ co ∧ co < 8) ∨ ¬ (0 ≤ co ∧ co < 8) := by omega
      first | (have hc0 : (0 : Int) ≤ co := by omega) | skip
      first | (have hd0 : ¬ co ≤ 7 := by omega) | skip
      first | (have hd1 : co ≤ 7 := by omega) | skip
      have HC2 := Lib.hid hc2
      clear hc2 hcx
      go_wp2_with fail
      go_meet
      case rel => exact ⟨by rw [HC2.out]; congr 1; simp; try omega, rfl⟩
  case rest =>
    obtain ⟨rfl, hwc⟩ := hcut
    have hwc := hwc.symm
    subst hwc
    go_upto_region 2 with (fail)
    go_cut [4] from 15 to 22 (fun a wc => a = .bool pb ∧ wc = W1)
    case first =>
      have hc : p < 1 ∨ (¬ p < 1 ∧ 65535 < p) ∨ (¬ p < 1 ∧ ¬ 65535 < p) := by omega
      rcases hc with hc | ⟨hc, hd⟩ | ⟨hc, hd⟩
      all_goals
        first | (have hc0 : (1 : Int) ≤ p := by omega) | (have hc0 : ¬ (1 : Int) ≤ p := by omega)
        first | (have hd0 : ¬ p ≤ 65535 := by omega) | (have hd1 : p ≤ 65535 := by omega)
        go_wp2_with fail
        go_meet
        case rel => exact ⟨by rw [HPB.out]; congr 1; simp; try omega, rfl⟩
    case rest =>
      obtain ⟨rfl, hwc⟩ := hcut
      have hwc := hwc.symm
      subst hwc
      rw [← HNB.out] at HNM
      have hnn : w.toList.isEmpty = nn := HNN.out.symm
      go_wp2_with fail
      refine (HNM.out _).mono ?_
      rintro e W2 ⟨rfl, hw2⟩
      have hw2 := hw2.symm
      subst hw2
      go_upto_region 5 with (fail)
      clear HNM HNN HNB HPB HCB
      by_cases h0 : nb = true
      case neg =>
        have h0 : nb = false := by simpa using h0
        have k0 := h0
        have hr := HF.out (fun h => by obtain ⟨g0, g1, g2, g3, g4, g5⟩ := h; first | contradiction | omega | (simp_all; done))
        subst hr
        clear HT HF
        go_wp2
        go_ret
        exact ⟨by first | rfl | (simp; done) | (simp; omega), by first | exact HB0.out | (rw [← hbb] at HB0; exact HB0.out) | (rw [hbb]; exact HB0.out)⟩
      case pos =>
        by_cases h1 : m < 256
        case neg =>
          have hr := HF.out (fun h => by obtain ⟨g0, g1, g2, g3, g4, g5⟩ := h; first | contradiction | omega | (simp_all; done))
          subst hr
          clear HT HF
          go_wp2
          go_ret
          exact ⟨by first | rfl | (simp; done) | (simp; omega), by first | exact HB0.out | (rw [← hbb] at HB0; exact HB0.out) | (rw [hbb]; exact HB0.out)⟩
        case pos =>
          by_cases h2 : co = 0
          case neg =>
            have hr := HF.out (fun h => by obtain ⟨g0, g1, g2, g3, g4, g5⟩ := h; first | contradiction | omega | (simp_all; done))
            subst hr
            clear HT HF
            go_wp2
            go_ret
            exact ⟨by first | rfl | (simp; done) | (simp; omega), by first | exact HB0.out | (rw [← hbb] at HB0; exact HB0.out) | (rw [hbb]; exact HB0.out)⟩
          case pos =>
            by_cases h3 : n = 0
            case neg =>
              have hr := HF.out (fun h => by obtain ⟨g0, g1, g2, g3, g4, g5⟩ := h; first | contradiction | omega | (simp_all; done))
              subst hr
              clear HT HF
              go_wp2
              go_ret
              exact ⟨by first | rfl | (simp; done) | (simp; omega), by first | exact HB0.out | (rw [← hbb] at HB0; exact HB0.out) | (rw [hbb]; exact HB0.out)⟩
            case pos =>
              by_cases h4 : p = 0
              case neg =>
                have hr := HF.out (fun h => by obtain ⟨g0, g1, g2, g3, g4, g5⟩ := h; first | contradiction | omega | (simp_all; done))
                subst hr
                clear HT HF
                go_wp2
                go_ret
                exact ⟨by first | rfl | (simp; done) | (simp; omega), by first | exact HB0.out | (rw [← hbb] at HB0; exact HB0.out) | (rw [hbb]; exact HB0.out)⟩
              case pos =>
                by_cases h5 : s = 0
                case neg =>
                  have hr := HF.out (fun h => by obtain ⟨g0, g1, g2, g3, g4, g5⟩ := h; first | contradiction | omega | (simp_all; done))
                  subst hr
                  clear HT HF
                  go_wp2
                  go_ret
                  exact ⟨by first | rfl | (simp; done) | (simp; omega), by first | exact HB0.out | (rw [← hbb] at HB0; exact HB0.out) | (rw [hbb]; exact HB0.out)⟩
                case pos =>
                  have hr := HT.out ⟨h0, h1, h2, h3, h4, h5⟩
                  subst hr
                  clear HT HF
                  go_wp2
                  go_ret
                  exact ⟨by first | rfl | (simp; done) | (simp; omega), by first | exact HB0.out | (rw [← hbb] at HB0; exact HB0.out) | (rw [hbb]; exact HB0.out)⟩
set_option maxRecDepth 100000 in
set_option maxHeartbeats 8000000 in
theorem refMay_w9 {W0 : World} (co n p s m : Int) (w : ByteArray) (hm0 : 0 ≤ m) (R cb pb nb nn : Bool) (HCB : Hid (cb = decide (0 ≤ co ∧ co < 8))) (HPB : Hid (pb = decide (1 ≤ p ∧ p ≤ 65535))) (HNB : Hid (nb = nameB w.data.toList)) (HNN : Hid (nn = w.toList.isEmpty))
    (HT : Hid ((pb = true ∧ m < 256 ∧ co = 0 ∧ n = 0 ∧ s = 0 ∧ nn = true) → R = true)) (HF : Hid (¬ (pb = true ∧ m < 256 ∧ co = 0 ∧ n = 0 ∧ s = 0 ∧ nn = true) → R = false)) :
    Calls Tryd.prog 30 #[.agg #[.int .i64 9, .int .i64 co, .int .i64 n, .int .i64 p, .int .i64 s, .int .u32 m, .string w]] W0 fun e w' => e = .returned (.bool R) ∧ Below W0.heap.size W0 w' := by
  have HX0 := Lib.hid (Blk.new W0 24 #[.int .i64 9, .int .i64 co, .int .i64 n, .int .i64 p, .int .i64 s, .int .u32 m, .string w])
  have HB0 := Lib.hid ((Below.refl W0.heap.size W0).alloc (Nat.le_refl _) (.cells #[.int .i64 9, .int .i64 co, .int .i64 n, .int .i64 p, .int .i64 s, .int .u32 m, .string w] 24))
  have HNM := Lib.hid (fun W => refNamed_any (w := W) w)
  go_enter Tryd.func30, Tryd.ntmps30
  go_upto_region 1 with (fail)
  generalize hWW : World.alloc W0 (.cells #[.int .i64 9, .int .i64 co, .int .i64 n, .int .i64 p, .int .i64 s, .int .u32 m, .string w] 24) = W1 at *
  generalize hbb : W0.heap.size = bx at *
  obtain ⟨x0, x1, x2, x3, x4, x5, x6⟩ := ocells HX0.out
  have hxl := HX0.out.lt
  go_cut [3] from 7 to 14 (fun a wc => a = .bool cb ∧ wc = W1)
  case first =>
    have hc : co < 0 ∨ (¬ co < 0 ∧ 7 < co) ∨ (¬ co < 0 ∧ ¬ 7 < co) := by omega
    rcases hc with hc | ⟨hc, hd⟩ | ⟨hc, hd⟩
    all_goals
      have hc2 : cb = decide (0 ≤ co ∧ co < 8) := HCB.out
      have hcx : (0 ≤ co ∧ co < 8) ∨ ¬ (0 ≤ co ∧ co < 8) := by omega
      first | (have hc0 : (0 : Int) ≤ co := by omega) | skip
      first | (have hd0 : ¬ co ≤ 7 := by omega) | skip
      first | (have hd1 : co ≤ 7 := by omega) | skip
      have HC2 := Lib.hid hc2
      clear hc2 hcx
      go_wp2_with fail
      go_meet
      case rel => exact ⟨by rw [HC2.out]; congr 1; simp; try omega, rfl⟩
  case rest =>
    obtain ⟨rfl, hwc⟩ := hcut
    have hwc := hwc.symm
    subst hwc
    go_upto_region 2 with (fail)
    go_cut [4] from 15 to 22 (fun a wc => a = .bool pb ∧ wc = W1)
    case first =>
      have hc : p < 1 ∨ (¬ p < 1 ∧ 65535 < p) ∨ (¬ p < 1 ∧ ¬ 65535 < p) := by omega
      rcases hc with hc | ⟨hc, hd⟩ | ⟨hc, hd⟩
      all_goals
        first | (have hc0 : (1 : Int) ≤ p := by omega) | (have hc0 : ¬ (1 : Int) ≤ p := by omega)
        first | (have hd0 : ¬ p ≤ 65535 := by omega) | (have hd1 : p ≤ 65535 := by omega)
        go_wp2_with fail
        go_meet
        case rel => exact ⟨by rw [HPB.out]; congr 1; simp; try omega, rfl⟩
    case rest =>
      obtain ⟨rfl, hwc⟩ := hcut
      have hwc := hwc.symm
      subst hwc
      rw [← HNB.out] at HNM
      have hnn : w.toList.isEmpty = nn := HNN.out.symm
      go_wp2_with fail
      refine (HNM.out _).mono ?_
      rintro e W2 ⟨rfl, hw2⟩
      have hw2 := hw2.symm
      subst hw2
      go_upto_region 5 with (fail)
      clear HNM HNN HNB HPB HCB
      by_cases h0 : pb = true
      case neg =>
        have h0 : pb = false := by simpa using h0
        have k0 := h0
        have hr := HF.out (fun h => by obtain ⟨g0, g1, g2, g3, g4, g5⟩ := h; first | contradiction | omega | (simp_all; done))
        subst hr
        clear HT HF
        go_wp2
        go_ret
        exact ⟨by first | rfl | (simp; done) | (simp; omega), by first | exact HB0.out | (rw [← hbb] at HB0; exact HB0.out) | (rw [hbb]; exact HB0.out)⟩
      case pos =>
        by_cases h1 : m < 256
        case neg =>
          have hr := HF.out (fun h => by obtain ⟨g0, g1, g2, g3, g4, g5⟩ := h; first | contradiction | omega | (simp_all; done))
          subst hr
          clear HT HF
          go_wp2
          go_ret
          exact ⟨by first | rfl | (simp; done) | (simp; omega), by first | exact HB0.out | (rw [← hbb] at HB0; exact HB0.out) | (rw [hbb]; exact HB0.out)⟩
        case pos =>
          by_cases h2 : co = 0
          case neg =>
            have hr := HF.out (fun h => by obtain ⟨g0, g1, g2, g3, g4, g5⟩ := h; first | contradiction | omega | (simp_all; done))
            subst hr
            clear HT HF
            go_wp2
            go_ret
            exact ⟨by first | rfl | (simp; done) | (simp; omega), by first | exact HB0.out | (rw [← hbb] at HB0; exact HB0.out) | (rw [hbb]; exact HB0.out)⟩
          case pos =>
            by_cases h3 : n = 0
            case neg =>
              have hr := HF.out (fun h => by obtain ⟨g0, g1, g2, g3, g4, g5⟩ := h; first | contradiction | omega | (simp_all; done))
              subst hr
              clear HT HF
              go_wp2
              go_ret
              exact ⟨by first | rfl | (simp; done) | (simp; omega), by first | exact HB0.out | (rw [← hbb] at HB0; exact HB0.out) | (rw [hbb]; exact HB0.out)⟩
            case pos =>
              by_cases h4 : s = 0
              case neg =>
                have hr := HF.out (fun h => by obtain ⟨g0, g1, g2, g3, g4, g5⟩ := h; first | contradiction | omega | (simp_all; done))
                subst hr
                clear HT HF
                go_wp2
                go_ret
                exact ⟨by first | rfl | (simp; done) | (simp; omega), by first | exact HB0.out | (rw [← hbb] at HB0; exact HB0.out) | (rw [hbb]; exact HB0.out)⟩
              case pos =>
                by_cases h5 : nn = true
                case neg =>
                  have h5 : nn = false := by simpa using h5
                  have k5 := h5
                  have hr := HF.out (fun h => by obtain ⟨g0, g1, g2, g3, g4, g5⟩ := h; first | contradiction | omega | (simp_all; done))
                  subst hr
                  clear HT HF
                  go_wp2
                  go_ret
                  exact ⟨by first | rfl | (simp; done) | (simp; omega), by first | exact HB0.out | (rw [← hbb] at HB0; exact HB0.out) | (rw [hbb]; exact HB0.out)⟩
                case pos =>
                  have hr := HT.out ⟨h0, h1, h2, h3, h4, h5⟩
                  subst hr
                  clear HT HF
                  go_wp2
                  go_ret
                  exact ⟨by first | rfl | (simp; done) | (simp; omega), by first | exact HB0.out | (rw [← hbb] at HB0; exact HB0.out) | (rw [hbb]; exact HB0.out)⟩
set_option maxRecDepth 100000 in
set_option maxHeartbeats 8000000 in
theorem refMay_none {W0 : World} (k co n p s m : Int) (w : ByteArray) (hm0 : 0 ≤ m) (e1 : ¬ k = 1) (e2 : ¬ k = 2) (e3 : ¬ k = 3) (e4 : ¬ k = 4) (e5 : ¬ k = 5) (e6 : ¬ k = 6) (e7 : ¬ k = 7) (e8 : ¬ k = 8) (e9 : ¬ k = 9) (e10 : ¬ k = 10) (e11 : ¬ k = 11) (e12 : ¬ k = 12) (R cb pb nb nn : Bool) (HCB : Hid (cb = decide (0 ≤ co ∧ co < 8))) (HPB : Hid (pb = decide (1 ≤ p ∧ p ≤ 65535))) (HNB : Hid (nb = nameB w.data.toList)) (HNN : Hid (nn = w.toList.isEmpty))
    (HT : Hid ((False) → R = true)) (HF : Hid (¬ (False) → R = false)) :
    Calls Tryd.prog 30 #[.agg #[.int .i64 k, .int .i64 co, .int .i64 n, .int .i64 p, .int .i64 s, .int .u32 m, .string w]] W0 fun e w' => e = .returned (.bool R) ∧ Below W0.heap.size W0 w' := by
  have HX0 := Lib.hid (Blk.new W0 24 #[.int .i64 k, .int .i64 co, .int .i64 n, .int .i64 p, .int .i64 s, .int .u32 m, .string w])
  have HB0 := Lib.hid ((Below.refl W0.heap.size W0).alloc (Nat.le_refl _) (.cells #[.int .i64 k, .int .i64 co, .int .i64 n, .int .i64 p, .int .i64 s, .int .u32 m, .string w] 24))
  have HNM := Lib.hid (fun W => refNamed_any (w := W) w)
  go_enter Tryd.func30, Tryd.ntmps30
  go_upto_region 1 with (fail)
  generalize hWW : World.alloc W0 (.cells #[.int .i64 k, .int .i64 co, .int .i64 n, .int .i64 p, .int .i64 s, .int .u32 m, .string w] 24) = W1 at *
  generalize hbb : W0.heap.size = bx at *
  obtain ⟨x0, x1, x2, x3, x4, x5, x6⟩ := ocells HX0.out
  have hxl := HX0.out.lt
  go_cut [3] from 7 to 14 (fun a wc => a = .bool cb ∧ wc = W1)
  case first =>
    have hc : co < 0 ∨ (¬ co < 0 ∧ 7 < co) ∨ (¬ co < 0 ∧ ¬ 7 < co) := by omega
    rcases hc with hc | ⟨hc, hd⟩ | ⟨hc, hd⟩
    all_goals
      have hc2 : cb = decide (0 ≤ co ∧ co < 8) := HCB.out
      have hcx : (0 ≤ co ∧ co < 8) ∨ ¬ (0 ≤ co ∧ co < 8) := by omega
      first | (have hc0 : (0 : Int) ≤ co := by omega) | skip
      first | (have hd0 : ¬ co ≤ 7 := by omega) | skip
      first | (have hd1 : co ≤ 7 := by omega) | skip
      have HC2 := Lib.hid hc2
      clear hc2 hcx
      go_wp2_with fail
      go_meet
      case rel => exact ⟨by rw [HC2.out]; congr 1; simp; try omega, rfl⟩
  case rest =>
    obtain ⟨rfl, hwc⟩ := hcut
    have hwc := hwc.symm
    subst hwc
    go_upto_region 2 with (fail)
    go_cut [4] from 15 to 22 (fun a wc => a = .bool pb ∧ wc = W1)
    case first =>
      have hc : p < 1 ∨ (¬ p < 1 ∧ 65535 < p) ∨ (¬ p < 1 ∧ ¬ 65535 < p) := by omega
      rcases hc with hc | ⟨hc, hd⟩ | ⟨hc, hd⟩
      all_goals
        first | (have hc0 : (1 : Int) ≤ p := by omega) | (have hc0 : ¬ (1 : Int) ≤ p := by omega)
        first | (have hd0 : ¬ p ≤ 65535 := by omega) | (have hd1 : p ≤ 65535 := by omega)
        go_wp2_with fail
        go_meet
        case rel => exact ⟨by rw [HPB.out]; congr 1; simp; try omega, rfl⟩
    case rest =>
      obtain ⟨rfl, hwc⟩ := hcut
      have hwc := hwc.symm
      subst hwc
      rw [← HNB.out] at HNM
      have hnn : w.toList.isEmpty = nn := HNN.out.symm
      go_wp2_with fail
      refine (HNM.out _).mono ?_
      rintro e W2 ⟨rfl, hw2⟩
      have hw2 := hw2.symm
      subst hw2
      go_upto_region 5 with (fail)
      clear HNM HNN HNB HPB HCB
      have hr := HF.out (fun h => h)
      subst hr
      clear HT HF
      go_wp2
      go_ret
      exact ⟨by first | rfl | (simp; done) | (simp; omega), by first | exact HB0.out | (rw [← hbb] at HB0; exact HB0.out) | (rw [hbb]; exact HB0.out)⟩
set_option maxHeartbeats 4000000 in
theorem refMay_any {w0 : World} (x : O) (hm : 0 ≤ x.m) : Calls Tryd.prog 30 #[.agg #[.int .i64 x.k, .int .i64 x.co, .int .i64 x.n, .int .i64 x.p, .int .i64 x.s, .int .u32 x.m, .string x.w]] w0 fun e w' => e = .returned (.bool (decide (MayO x))) ∧ Below w0.heap.size w0 w' := by
  obtain ⟨k, co, n, p, s, m, w⟩ := x
  simp only at hm ⊢
  have hemp : w.toList.isEmpty = true ↔ w = ⟨#[]⟩ := by
    rw [Lib.toList_data, List.isEmpty_iff]
    constructor
    · intro h
      refine ByteArray.ext ?_
      rw [← Array.toList_inj, h]
    · intro h
      rw [h]
  by_cases hk : k = 1 ∨ k = 2 ∨ k = 3 ∨ k = 4 ∨ k = 5 ∨ k = 6 ∨ k = 7 ∨ k = 8 ∨ k = 9 ∨ k = 10 ∨ k = 11 ∨ k = 12
  case neg =>
    refine refMay_none k co n p s m w hm (by omega) (by omega) (by omega) (by omega) (by omega) (by omega) (by omega) (by omega) (by omega) (by omega) (by omega) (by omega) _ _ _ _ _ (Lib.hid rfl) (Lib.hid rfl) (Lib.hid rfl) (Lib.hid rfl) (Lib.hid fun h => h.elim) (Lib.hid fun h => ?_)
    rw [decide_eq_false_iff_not]
    intro hmay
    have := kind_cases hmay.1
    simp only at this
    omega
  rcases hk with rfl | rfl | rfl | rfl | rfl | rfl | rfl | rfl | rfl | rfl | rfl | rfl
  · refine refMay_w1 co n p s m w hm _ _ _ _ _ (Lib.hid rfl) (Lib.hid rfl) (Lib.hid rfl) (Lib.hid rfl) (Lib.hid fun h => ?_) (Lib.hid fun h => ?_)
    · rw [decide_eq_true_eq, may_k1 co n p s m w hm]
      simpa [hemp, and_assoc] using h
    · rw [decide_eq_false_iff_not, may_k1 co n p s m w hm]
      simpa [hemp, and_assoc] using h
  · refine refMay_w2 co n p s m w hm _ _ _ _ _ (Lib.hid rfl) (Lib.hid rfl) (Lib.hid rfl) (Lib.hid rfl) (Lib.hid fun h => ?_) (Lib.hid fun h => ?_)
    · rw [decide_eq_true_eq, may_k2 co n p s m w hm]
      simpa [hemp, and_assoc] using h
    · rw [decide_eq_false_iff_not, may_k2 co n p s m w hm]
      simpa [hemp, and_assoc] using h
  · refine refMay_w3 co n p s m w hm _ _ _ _ _ (Lib.hid rfl) (Lib.hid rfl) (Lib.hid rfl) (Lib.hid rfl) (Lib.hid fun h => ?_) (Lib.hid fun h => ?_)
    · rw [decide_eq_true_eq, may_k3 co n p s m w hm]
      simpa [hemp, and_assoc] using h
    · rw [decide_eq_false_iff_not, may_k3 co n p s m w hm]
      simpa [hemp, and_assoc] using h
  · refine refMay_w4 co n p s m w hm _ _ _ _ _ (Lib.hid rfl) (Lib.hid rfl) (Lib.hid rfl) (Lib.hid rfl) (Lib.hid fun h => ?_) (Lib.hid fun h => ?_)
    · rw [decide_eq_true_eq, may_k4 co n p s m w hm]
      simpa [hemp, and_assoc] using h
    · rw [decide_eq_false_iff_not, may_k4 co n p s m w hm]
      simpa [hemp, and_assoc] using h
  · refine refMay_w5 co n p s m w hm _ _ _ _ _ (Lib.hid rfl) (Lib.hid rfl) (Lib.hid rfl) (Lib.hid rfl) (Lib.hid fun h => ?_) (Lib.hid fun h => ?_)
    · rw [decide_eq_true_eq, may_k5 co n p s m w hm]
      simpa [hemp, and_assoc] using h
    · rw [decide_eq_false_iff_not, may_k5 co n p s m w hm]
      simpa [hemp, and_assoc] using h
  · refine refMay_w6 co n p s m w hm _ _ _ _ _ (Lib.hid rfl) (Lib.hid rfl) (Lib.hid rfl) (Lib.hid rfl) (Lib.hid fun h => ?_) (Lib.hid fun h => ?_)
    · rw [decide_eq_true_eq, may_k6 co n p s m w hm]
      simpa [hemp, and_assoc] using h
    · rw [decide_eq_false_iff_not, may_k6 co n p s m w hm]
      simpa [hemp, and_assoc] using h
  · refine refMay_w7 co n p s m w hm _ _ _ _ _ (Lib.hid rfl) (Lib.hid rfl) (Lib.hid rfl) (Lib.hid rfl) (Lib.hid fun h => ?_) (Lib.hid fun h => ?_)
    · rw [decide_eq_true_eq, may_k7 co n p s m w hm]
      simpa [hemp, and_assoc] using h
    · rw [decide_eq_false_iff_not, may_k7 co n p s m w hm]
      simpa [hemp, and_assoc] using h
  · refine refMay_w8 co n p s m w hm _ _ _ _ _ (Lib.hid rfl) (Lib.hid rfl) (Lib.hid rfl) (Lib.hid rfl) (Lib.hid fun h => ?_) (Lib.hid fun h => ?_)
    · rw [decide_eq_true_eq, may_k8 co n p s m w hm]
      simpa [hemp, and_assoc] using h
    · rw [decide_eq_false_iff_not, may_k8 co n p s m w hm]
      simpa [hemp, and_assoc] using h
  · refine refMay_w9 co n p s m w hm _ _ _ _ _ (Lib.hid rfl) (Lib.hid rfl) (Lib.hid rfl) (Lib.hid rfl) (Lib.hid fun h => ?_) (Lib.hid fun h => ?_)
    · rw [decide_eq_true_eq, may_k9 co n p s m w hm]
      simpa [hemp, and_assoc] using h
    · rw [decide_eq_false_iff_not, may_k9 co n p s m w hm]
      simpa [hemp, and_assoc] using h
  · refine refMay_w10 co n p s m w hm _ _ _ _ _ (Lib.hid rfl) (Lib.hid rfl) (Lib.hid rfl) (Lib.hid rfl) (Lib.hid fun h => ?_) (Lib.hid fun h => ?_)
    · rw [decide_eq_true_eq, may_k10 co n p s m w hm]
      simpa [hemp, and_assoc] using h
    · rw [decide_eq_false_iff_not, may_k10 co n p s m w hm]
      simpa [hemp, and_assoc] using h
  · refine refMay_w11 co n p s m w hm _ _ _ _ _ (Lib.hid rfl) (Lib.hid rfl) (Lib.hid rfl) (Lib.hid rfl) (Lib.hid fun h => ?_) (Lib.hid fun h => ?_)
    · rw [decide_eq_true_eq, may_k11 co n p s m w hm]
      simpa [hemp, and_assoc] using h
    · rw [decide_eq_false_iff_not, may_k11 co n p s m w hm]
      simpa [hemp, and_assoc] using h
  · refine refMay_w12 co n p s m w hm _ _ _ _ _ (Lib.hid rfl) (Lib.hid rfl) (Lib.hid rfl) (Lib.hid rfl) (Lib.hid fun h => ?_) (Lib.hid fun h => ?_)
    · rw [decide_eq_true_eq, may_k12 co n p s m w hm]
      simpa [hemp, and_assoc] using h
    · rw [decide_eq_false_iff_not, may_k12 co n p s m w hm]
      simpa [hemp, and_assoc] using h
end Go.Proofs.YtgefnicpkfcghaaDoor

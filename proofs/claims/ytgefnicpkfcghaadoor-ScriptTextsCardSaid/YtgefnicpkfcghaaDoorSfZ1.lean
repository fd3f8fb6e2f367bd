/-
  May an operation be? The document's answer, walked. No condition but the name's length.
-/
import Derived.Deep.CutRange
import Derived.Test.YtgefnicpkfcghaaDoorSfY
import Derived.Test.YtgefnicpkfcghaaDoorScE
namespace Go.Proofs.YtgefnicpkfcghaaDoor
open Go.RowKit
set_option linter.unusedVariables false
set_option linter.unusedSimpArgs false
attribute [local go_sem] Oper.semAt_some

set_option maxRecDepth 100000 in
set_option maxHeartbeats 8000000 in
theorem refMay_w1 {W0 : World} (co n p s m : Int) (w : ByteArray) (hm0 : 0 ≤ m) (R cb pb nb nn : Bool) (HCB : Hid (cb = decide (0 ≤ co ∧ co < 8))) (HPB : Hid (pb = decide (1 ≤ p ∧ p ≤ 65535))) (HNB : Hid (nb = nameB w.data.toList)) (HNN : Hid (nn = w.toList.isEmpty))
    (HT : Hid ((cb = true ∧ 0 ≤ n ∧ p = 0 ∧ s = 0 ∧ m = 0 ∧ nn = true) → R = true)) (HF : Hid (¬ (cb = true ∧ 0 ≤ n ∧ p = 0 ∧ s = 0 ∧ m = 0 ∧ nn = true) → R = false)) :
    Calls Tryd.prog 30 #[.agg #[.int .i64 1, .int .i64 co, .int .i64 n, .int .i64 p, .int .i64 s, .int .u32 m, .string w]] W0 fun e w' => e = .returned (.bool R) ∧ Below W0.heap.size W0 w' := by
  have HX0 := Lib.hid (Blk.new W0 24 #[.int .i64 1, .int .i64 co, .int .i64 n, .int .i64 p, .int .i64 s, .int .u32 m, .string w])
  have HB0 := Lib.hid ((Below.refl W0.heap.size W0).alloc (Nat.le_refl _) (.cells #[.int .i64 1, .int .i64 co, .int .i64 n, .int .i64 p, .int .i64 s, .int .u32 m, .string w] 24))
  have HNM := Lib.hid (fun W => refNamed_any (w := W) w)
  go_enter Tryd.func30, Tryd.ntmps30
  go_upto_region 1 with (fail)
  generalize hWW : World.alloc W0 (.cells #[.int .i64 1, .int .i64 co, .int .i64 n, .int .i64 p, .int .i64 s, .int .u32 m, .string w] 24) = W1 at *
  generalize hbb : W0.heap.size = bx at *
  obtain ⟨x0, x1, x2, x3, x4, x5, x6⟩ := ocells HX0.out
  have hxl := HX0.out.lt
  go_cut [3] from 7 to 14 (fun a wc => a = .bool cb ∧ wc = W1)
  case first =>
    have hc : co < 0 ∨ (¬ co < 0 ∧ 7 < co) ∨ (¬ co < 0 ∧ ¬ 7 < co) := by omega
    rcases hc with hc | ⟨hc, hd⟩ | ⟨hc, hd⟩
    all_goals
      have hc2 : cb = decide (0 ≤ co ∧ co < 8) := HCB.out
      have hcx : (0 ≤ co ∧ co < 8) ∨ ¬ (0 ≤ co ∧ co < 8) := by omega
      first | (have hc0 : (0 : Int) ≤ co := by omega) | skip
      first | (have hd0 : ¬ co ≤ 7 := by omega) | skip
      first | (have hd1 : co ≤ 7 := by omega) | skip
      have HC2 := Lib.hid hc2
      clear hc2 hcx
      go_wp2_with fail
      go_meet
      case rel => exact ⟨by rw [HC2.out]; congr 1; simp; try omega, rfl⟩
  case rest =>
    obtain ⟨rfl, hwc⟩ := hcut
    have hwc := hwc.symm
    subst hwc
    go_upto_region 2 with (fail)
    go_cut [4] from 15 to 22 (fun a wc => a = .bool pb ∧ wc = W1)
    case first =>
      have hc : p < 1 ∨ (¬ p < 1 ∧ 65535 < p) ∨ (¬ p < 1 ∧ ¬ 65535 < p) := by omega
      rcases hc with hc | ⟨hc, hd⟩ | ⟨hc, hd⟩
      all_goals
        first | (have hc0 : (1 : Int) ≤ p := by omega) | (have hc0 : ¬ (1 : Int) ≤ p := by omega)
        first | (have hd0 : ¬ p ≤ 65535 := by omega) | (have hd1 : p ≤ 65535 := by omega)
        go_wp2_with fail
        go_meet
        case rel => exact ⟨by rw [HPB.out]; congr 1; simp; try omega, rfl⟩
    case rest =>
      obtain ⟨rfl, hwc⟩ := hcut
      have hwc := hwc.symm
      subst hwc
      rw [← HNB.out] at HNM
      have hnn : w.toList.isEmpty = nn := HNN.out.symm
      go_wp2_with fail
      refine (HNM.out _).mono ?_
      rintro e W2 ⟨rfl, hw2⟩
      have hw2 := hw2.symm
      subst hw2
      go_upto_region 5 with (fail)
      clear HNM HNN HNB HPB HCB
      by_cases h0 : cb = true
      case neg =>
        have h0 : cb = false := by simpa using h0
        have k0 := h0
        have hr := HF.out (fun h => by obtain ⟨g0, g1, g2, g3, g4, g5⟩ := h; first | contradiction | omega | (simp_all; done))
        subst hr
        clear HT HF
        go_wp2
        go_ret
        exact ⟨by first | rfl | (simp; done) | (simp; omega), by first | exact HB0.out | (rw [← hbb] at HB0; exact HB0.out) | (rw [hbb]; exact HB0.out)⟩
      case pos =>
        by_cases h1 : 0 ≤ n
        case neg =>
          have hr := HF.out (fun h => by obtain ⟨g0, g1, g2, g3, g4, g5⟩ := h; first | contradiction | omega | (simp_all; done))
          subst hr
          clear HT HF
          go_wp2
          go_ret
          exact ⟨by first | rfl | (simp; done) | (simp; omega), by first | exact HB0.out | (rw [← hbb] at HB0; exact HB0.out) | (rw [hbb]; exact HB0.out)⟩
        case pos =>
          by_cases h2 : p = 0
          case neg =>
            have hr := HF.out (fun h => by obtain ⟨g0, g1, g2, g3, g4, g5⟩ := h; first | contradiction | omega | (simp_all; done))
            subst hr
            clear HT HF
            go_wp2
            go_ret
            exact ⟨by first | rfl | (simp; done) | (simp; omega), by first | exact HB0.out | (rw [← hbb] at HB0; exact HB0.out) | (rw [hbb]; exact HB0.out)⟩
          case pos =>
            by_cases h3 : s = 0
            case neg =>
              have hr := HF.out (fun h => by obtain ⟨g0, g1, g2, g3, g4, g5⟩ := h; first | contradiction | omega | (simp_all; done))
              subst hr
              clear HT HF
              go_wp2
              go_ret
              exact ⟨by first | rfl | (simp; done) | (simp; omega), by first | exact HB0.out | (rw [← hbb] at HB0; exact HB0.out) | (rw [hbb]; exact HB0.out)⟩
            case pos =>
              by_cases h4 : m = 0
              case neg =>
                have hr := HF.out (fun h => by obtain ⟨g0, g1, g2, g3, g4, g5⟩ := h; first | contradiction | omega | (simp_all; done))
                subst hr
                clear HT HF
                go_wp2
                go_ret
                exact ⟨by first | rfl | (simp; done) | (simp; omega), by first | exact HB0.out | (rw [← hbb] at HB0; exact HB0.out) | (rw [hbb]; exact HB0.out)⟩
              case pos =>
                by_cases h5 : nn = true
                case neg =>
                  have h5 : nn = false := by simpa using h5
                  have k5 := h5
                  have hr := HF.out (fun h => by obtain ⟨g0, g1, g2, g3, g4, g5⟩ := h; first | contradiction | omega | (simp_all; done))
                  subst hr
                  clear HT HF
                  go_wp2
                  go_ret
                  exact ⟨by first | rfl | (simp; done) | (simp; omega), by first | exact HB0.out | (rw [← hbb] at HB0; exact HB0.out) | (rw [hbb]; exact HB0.out)⟩
                case pos =>
                  have hr := HT.out ⟨h0, h1, h2, h3, h4, h5⟩
                  subst hr
                  clear HT HF
                  go_wp2
                  go_ret
                  exact ⟨by first | rfl | (simp; done) | (simp; omega), by first | exact HB0.out | (rw [← hbb] at HB0; exact HB0.out) | (rw [hbb]; exact HB0.out)⟩
set_option maxRecDepth 100000 in
set_option maxHeartbeats 8000000 in
theorem refMay_w2 {W0 : World} (co n p s m : Int) (w : ByteArray) (hm0 : 0 ≤ m) (R cb pb nb nn : Bool) (HCB : Hid (cb = decide (0 ≤ co ∧ co < 8))) (HPB : Hid (pb = decide (1 ≤ p ∧ p ≤ 65535))) (HNB : Hid (nb = nameB w.data.toList)) (HNN : Hid (nn = w.toList.isEmpty))
    (HT : Hid ((cb = true ∧ pb = true ∧ n = 0 ∧ s = 0 ∧ m = 0 ∧ nn = true) → R = true)) (HF : Hid (¬ (cb = true ∧ pb = true ∧ n = 0 ∧ s = 0 ∧ m = 0 ∧ nn = true) → R = false)) :
    Calls Tryd.prog 30 #[.agg #[.int .i64 2, .int .i64 co, .int .i64 n, .int .i64 p, .int .i64 s, .int .u32 m, .string w]] W0 fun e w' => e = .returned (.bool R) ∧ Below W0.heap.size W0 w' := by
  have HX0 := Lib.hid (Blk.new W0 24 #[.int .i64 2, .int .i64 co, .int .i64 n, .int .i64 p, .int .i64 s, .int .u32 m, .string w])
  have HB0 := Lib.hid ((Below.refl W0.heap.size W0).alloc (Nat.le_refl _) (.cells #[.int .i64 2, .int .i64 co, .int .i64 n, .int .i64 p, .int .i64 s, .int .u32 m, .string w] 24))
  have HNM := Lib.hid (fun W => refNamed_any (w := W) w)
  go_enter Tryd.func30, Tryd.ntmps30
  go_upto_region 1 with (fail)
  generalize hWW : World.alloc W0 (.cells #[.int .i64 2, .int .i64 co, .int .i64 n, .int .i64 p, .int .i64 s, .int .u32 m, .string w] 24) = W1 at *
  generalize hbb : W0.heap.size = bx at *
  obtain ⟨x0, x1, x2, x3, x4, x5, x6⟩ := ocells HX0.out
  have hxl := HX0.out.lt
  go_cut [3] from 7 to 14 (fun a wc => a = .bool cb ∧ wc = W1)
  case first =>
    have hc : co < 0 ∨ (¬ co < 0 ∧ 7 < co) ∨ (¬ co < 0 ∧ ¬ 7 < co) := by omega
    rcases hc with hc | ⟨hc, hd⟩ | ⟨hc, hd⟩
    all_goals
      have hc2 : cb = decide (0 ≤ co ∧ co < 8) := HCB.out
      have hcx : (0 ≤ co ∧ co < 8) ∨ ¬ (0 ≤ co ∧ co < 8) := by omega
      first | (have hc0 : (0 : Int) ≤ co := by omega) | skip
      first | (have hd0 : ¬ co ≤ 7 := by omega) | skip
      first | (have hd1 : co ≤ 7 := by omega) | skip
      have HC2 := Lib.hid hc2
      clear hc2 hcx
      go_wp2_with fail
      go_meet
      case rel => exact ⟨by rw [HC2.out]; congr 1; simp; try omega, rfl⟩
  case rest =>
    obtain ⟨rfl, hwc⟩ := hcut
    have hwc := hwc.symm
    subst hwc
    go_upto_region 2 with (fail)
    go_cut [4] from 15 to 22 (fun a wc => a = .bool pb ∧ wc = W1)
    case first =>
      have hc : p < 1 ∨ (¬ p < 1 ∧ 65535 < p) ∨ (¬ p < 1 ∧ ¬ 65535 < p) := by omega
      rcases hc with hc | ⟨hc, hd⟩ | ⟨hc, hd⟩
      all_goals
        first | (have hc0 : (1 : Int) ≤ p := by omega) | (have hc0 : ¬ (1 : Int) ≤ p := by omega)
        first | (have hd0 : ¬ p ≤ 65535 := by omega) | (have hd1 : p ≤ 65535 := by omega)
        go_wp2_with fail
        go_meet
        case rel => exact ⟨by rw [HPB.out]; congr 1; simp; try omega, rfl⟩
    case rest =>
      obtain ⟨rfl, hwc⟩ := hcut
      have hwc := hwc.symm
      subst hwc
      rw [← HNB.out] at HNM
      have hnn : w.toList.isEmpty = nn := HNN.out.symm
      go_wp2_with fail
      refine (HNM.out _).mono ?_
      rintro e W2 ⟨rfl, hw2⟩
      have hw2 := hw2.symm
      subst hw2
      go_upto_region 5 with (fail)
      clear HNM HNN HNB HPB HCB
      by_cases h0 : cb = true
      case neg =>
        have h0 : cb = false := by simpa using h0
        have k0 := h0
        have hr := HF.out (fun h => by obtain ⟨g0, g1, g2, g3, g4, g5⟩ := h; first | contradiction | omega | (simp_all; done))
        subst hr
        clear HT HF
        go_wp2
        go_ret
        exact ⟨by first | rfl | (simp; done) | (simp; omega), by first | exact HB0.out | (rw [← hbb] at HB0; exact HB0.out) | (rw [hbb]; exact HB0.out)⟩
      case pos =>
        by_cases h1 : pb = true
        case neg =>
          have h1 : pb = false := by simpa using h1
          have k1 := h1
          have hr := HF.out (fun h => by obtain ⟨g0, g1, g2, g3, g4, g5⟩ := h; first | contradiction | omega | (simp_all; done))
          subst hr
          clear HT HF
          go_wp2
          go_ret
          exact ⟨by first | rfl | (simp; done) | (simp; omega), by first | exact HB0.out | (rw [← hbb] at HB0; exact HB0.out) | (rw [hbb]; exact HB0.out)⟩
        case pos =>
          by_cases h2 : n = 0
          case neg =>
            have hr := HF.out (fun h => by obtain ⟨g0, g1, g2, g3, g4, g5⟩ := h; first | contradiction | omega | (simp_all; done))
            subst hr
            clear HT HF
            go_wp2
            go_ret
            exact ⟨by first | rfl | (simp; done) | (simp; omega), by first | exact HB0.out | (rw [← hbb] at HB0; exact HB0.out) | (rw [hbb]; exact HB0.out)⟩
          case pos =>
            by_cases h3 : s = 0
            case neg =>
              have hr := HF.out (fun h => by obtain ⟨g0, g1, g2, g3, g4, g5⟩ := h; first | contradiction | omega | (simp_all; done))
              subst hr
              clear HT HF
              go_wp2
              go_ret
              exact ⟨by first | rfl | (simp; done) | (simp; omega), by first | exact HB0.out | (rw [← hbb] at HB0; exact HB0.out) | (rw [hbb]; exact HB0.out)⟩
            case pos =>
              by_cases h4 : m = 0
              case neg =>
                have hr := HF.out (fun h => by obtain ⟨g0, g1, g2, g3, g4, g5⟩ := h; first | contradiction | omega | (simp_all; done))
                subst hr
                clear HT HF
                go_wp2
                go_ret
                exact ⟨by first | rfl | (simp; done) | (simp; omega), by first | exact HB0.out | (rw [← hbb] at HB0; exact HB0.out) | (rw [hbb]; exact HB0.out)⟩
              case pos =>
                by_cases h5 : nn = true
                case neg =>
                  have h5 : nn = false := by simpa using h5
                  have k5 := h5
                  have hr := HF.out (fun h => by obtain ⟨g0, g1, g2, g3, g4, g5⟩ := h; first | contradiction | omega | (simp_all; done))
                  subst hr
                  clear HT HF
                  go_wp2
                  go_ret
                  exact ⟨by first | rfl | (simp; done) | (simp; omega), by first | exact HB0.out | (rw [← hbb] at HB0; exact HB0.out) | (rw [hbb]; exact HB0.out)⟩
                case pos =>
                  have hr := HT.out ⟨h0, h1, h2, h3, h4, h5⟩
                  subst hr
                  clear HT HF
                  go_wp2
                  go_ret
                  exact ⟨by first | rfl | (simp; done) | (simp; omega), by first | exact HB0.out | (rw [← hbb] at HB0; exact HB0.out) | (rw [hbb]; exact HB0.out)⟩
set_option maxRecDepth 100000 in
set_option maxHeartbeats 8000000 in
theorem refMay_w3 {W0 : World} (co n p s m : Int) (w : ByteArray) (hm0 : 0 ≤ m) (R cb pb nb nn : Bool) (HCB : Hid (cb = decide (0 ≤ co ∧ co < 8))) (HPB : Hid (pb = decide (1 ≤ p ∧ p ≤ 65535))) (HNB : Hid (nb = nameB w.data.toList)) (HNN : Hid (nn = w.toList.isEmpty))
    (HT : Hid ((co = 0 ∧ n = 0 ∧ p = 0 ∧ s = 0 ∧ m = 0 ∧ nn = true) → R = true)) (HF : Hid (¬ (co = 0 ∧ n = 0 ∧ p = 0 ∧ s = 0 ∧ m = 0 ∧ nn = true) → R = false)) :
    Calls Tryd.prog 30 #[.agg #[.int .i64 3, .int .i64 co, .int .i64 n, .int .i64 p, .int .i64 s, .int .u32 m, .string w]] W0 fun e w' => e = .returned (.bool R) ∧ Below W0.heap.size W0 w' := by
  have HX0 := Lib.hid (Blk.new W0 24 #[.int .i64 3, .int .i64 co, .int .i64 n, .int .i64 p, .int .i64 s, .int .u32 m, .string w])
  have HB0 := Lib.hid ((Below.refl W0.heap.size W0).alloc (Nat.le_refl _) (.cells #[.int .i64 3, .int .i64 co, .int .i64 n, .int .i64 p, .int .i64 s, .int .u32 m, .string w] 24))
  have HNM := Lib.hid (fun W => refNamed_any (w := W) w)
  go_enter Tryd.func30, Tryd.ntmps30
  go_upto_region 1 with (fail)
  generalize hWW : World.alloc W0 (.cells #[.int .i64 3, .int .i64 co, .int .i64 n, .int .i64 p, .int .i64 s, .int .u32 m, .string w] 24) = W1 at *
  generalize hbb : W0.heap.size = bx at *
  obtain ⟨x0, x1, x2, x3, x4, x5, x6⟩ := ocells HX0.out
  have hxl := HX0.out.lt
  go_cut [3] from 7 to 14 (fun a wc => a = .bool cb ∧ wc = W1)
  case first =>
    have hc : co < 0 ∨ (¬ co < 0 ∧ 7 < co) ∨ (¬ co < 0 ∧ ¬ 7 < co) := by omega
    rcases hc with hc | ⟨hc, hd⟩ | ⟨hc, hd⟩
    all_goals
      have hc2 : cb = decide (0 ≤ co ∧ co < 8) := HCB.out
      have hcx : (0 ≤ co ∧ co < 8) ∨ ¬ (0 ≤ co ∧ co < 8) := by omega
      first | (have hc0 : (0 : Int) ≤ co := by omega) | skip
      first | (have hd0 : ¬ co ≤ 7 := by omega) | skip
      first | (have hd1 : co ≤ 7 := by omega) | skip
      have HC2 := Lib.hid hc2
      clear hc2 hcx
      go_wp2_with fail
      go_meet
      case rel => exact ⟨by rw [HC2.out]; congr 1; simp; try omega, rfl⟩
  case rest =>
    obtain ⟨rfl, hwc⟩ := hcut
    have hwc := hwc.symm
    subst hwc
    go_upto_region 2 with (fail)
    go_cut [4] from 15 to 22 (fun a wc => a = .bool pb ∧ wc = W1)
    case first =>
      have hc : p < 1 ∨ (¬ p < 1 ∧ 65535 < p) ∨ (¬ p < 1 ∧ ¬ 65535 < p) := by omega
      rcases hc with hc | ⟨hc, hd⟩ | ⟨hc, hd⟩
      all_goals
        first | (have hc0 : (1 : Int) ≤ p := by omega) | (have hc0 : ¬ (1 : Int) ≤ p := by omega)
        first | (have hd0 : ¬ p ≤ 65535 := by omega) | (have hd1 : p ≤ 65535 := by omega)
        go_wp2_with fail
        go_meet
        case rel => exact ⟨by rw [HPB.out]; congr 1; simp; try omega, rfl⟩
    case rest =>
      obtain ⟨rfl, hwc⟩ := hcut
      have hwc := hwc.symm
      subst hwc
      rw [← HNB.out] at HNM
      have hnn : w.toList.isEmpty = nn := HNN.out.symm
      go_wp2_with fail
      refine (HNM.out _).mono ?_
      rintro e W2 ⟨rfl, hw2⟩
      have hw2 := hw2.symm
      subst hw2
      go_upto_region 5 with (fail)
      clear HNM HNN HNB HPB HCB
      by_cases h0 : co = 0
      case neg =>
        have hr := HF.out (fun h => by obtain ⟨g0, g1, g2, g3, g4, g5⟩ := h; first | contradiction | omega | (simp_all; done))
        subst hr
        clear HT HF
        go_wp2
        go_ret
        exact ⟨by first | rfl | (simp; done) | (simp; omega), by first | exact HB0.out | (rw [← hbb] at HB0; exact HB0.out) | (rw [hbb]; exact HB0.out)⟩
      case pos =>
        by_cases h1 : n = 0
        case neg =>
          have hr := HF.out (fun h => by obtain ⟨g0, g1, g2, g3, g4, g5⟩ := h; first | contradiction | omega | (simp_all; done))
          subst hr
          clear HT HF
          go_wp2
          go_ret
          exact ⟨by first | rfl | (simp; done) | (simp; omega), by first | exact HB0.out | (rw [← hbb] at HB0; exact HB0.out) | (rw [hbb]; exact HB0.out)⟩
        case pos =>
          by_cases h2 : p = 0
          case neg =>
            have hr := HF.out (fun h => by obtain ⟨g0, g1, g2, g3, g4, g5⟩ := h; first | contradiction | omega | (simp_all; done))
            subst hr
            clear HT HF
            go_wp2
            go_ret
            exact ⟨by first | rfl | (simp; done) | (simp; omega), by first | exact HB0.out | (rw [← hbb] at HB0; exact HB0.out) | (rw [hbb]; exact HB0.out)⟩
          case pos =>
            by_cases h3 : s = 0
            case neg =>
              have hr := HF.out (fun h => by obtain ⟨g0, g1, g2, g3, g4, g5⟩ := h; first | contradiction | omega | (simp_all; done))
              subst hr
              clear HT HF
              go_wp2
              go_ret
              exact ⟨by first | rfl | (simp; done) | (simp; omega), by first | exact HB0.out | (rw [← hbb] at HB0; exact HB0.out) | (rw [hbb]; exact HB0.out)⟩
            case pos =>
              by_cases h4 : m = 0
              case neg =>
                have hr := HF.out (fun h => by obtain ⟨g0, g1, g2, g3, g4, g5⟩ := h; first | contradiction | omega | (simp_all; done))
                subst hr
                clear HT HF
                go_wp2
                go_ret
                exact ⟨by first | rfl | (simp; done) | (simp; omega), by first | exact HB0.out | (rw [← hbb] at HB0; exact HB0.out) | (rw [hbb]; exact HB0.out)⟩
              case pos =>
                by_cases h5 : nn = true
                case neg =>
                  have h5 : nn = false := by simpa using h5
                  have k5 := h5
                  have hr := HF.out (fun h => by obtain ⟨g0, g1, g2, g3, g4, g5⟩ := h; first | contradiction | omega | (simp_all; done))
                  subst hr
                  clear HT HF
                  go_wp2
                  go_ret
                  exact ⟨by first | rfl | (simp; done) | (simp; omega), by first | exact HB0.out | (rw [← hbb] at HB0; exact HB0.out) | (rw [hbb]; exact HB0.out)⟩
                case pos =>
                  have hr := HT.out ⟨h0, h1, h2, h3, h4, h5⟩
                  subst hr
                  clear HT HF
                  go_wp2
                  go_ret
                  exact ⟨by first | rfl | (simp; done) | (simp; omega), by first | exact HB0.out | (rw [← hbb] at HB0; exact HB0.out) | (rw [hbb]; exact HB0.out)⟩
set_option maxRecDepth 100000 in
set_option maxHeartbeats 8000000 in
theorem refMay_w10 {W0 : World} (co n p s m : Int) (w : ByteArray) (hm0 : 0 ≤ m) (R cb pb nb nn : Bool) (HCB : Hid (cb = decide (0 ≤ co ∧ co < 8))) (HPB : Hid (pb = decide (1 ≤ p ∧ p ≤ 65535))) (HNB : Hid (nb = nameB w.data.toList)) (HNN : Hid (nn = w.toList.isEmpty))
    (HT : Hid ((co = 0 ∧ n = 0 ∧ p = 0 ∧ s = 0 ∧ m = 0 ∧ nn = true) → R = true)) (HF : Hid (¬ (co = 0 ∧ n = 0 ∧ p = 0 ∧ s = 0 ∧ m = 0 ∧ nn = true) → R = false)) :
    Calls Tryd.prog 30 #[.agg #[.int .i64 10, .int .i64 co, .int .i64 n, .int .i64 p, .int .i64 s, .int .u32 m, .string w]] W0 fun e w' => e = .returned (.bool R) ∧ Below W0.heap.size W0 w' := by
  have HX0 := Lib.hid (Blk.new W0 24 #[.int .i64 10, .int .i64 co, .int .i64 n, .int .i64 p, .int .i64 s, .int .u32 m, .string w])
  have HB0 := Lib.hid ((Below.refl W0.heap.size W0).alloc (Nat.le_refl _) (.cells #[.int .i64 10, .int .i64 co, .int .i64 n, .int .i64 p, .int .i64 s, .int .u32 m, .string w] 24))
  have HNM := Lib.hid (fun W => refNamed_any (w := W) w)
  go_enter Tryd.func30, Tryd.ntmps30
  go_upto_region 1 with (fail)
  generalize hWW : World.alloc W0 (.cells #[.int .i64 10, .int .i64 co, .int .i64 n, .int .i64 p, .int .i64 s, .int .u32 m, .string w] 24) = W1 at *
  generalize hbb : W0.heap.size = bx at *
  obtain ⟨x0, x1, x2, x3, x4, x5, x6⟩ := ocells HX0.out
  have hxl := HX0.out.lt
  go_cut [3] from 7 to 14 (fun a wc => a = .bool cb ∧ wc = W1)
  case first =>
    have hc : co < 0 ∨ (¬ co < 0 ∧ 7 < co) ∨ (¬ co < 0 ∧ ¬ 7 < co) := by omega
    rcases hc with hc | ⟨hc, hd⟩ | ⟨hc, hd⟩
    all_goals
      have hc2 : cb = decide (0 ≤ co ∧ co < 8) := HCB.out
      have hcx : (0 ≤ co ∧ co < 8) ∨ ¬ (0 ≤ co ∧ co < 8) := by omega
      first | (have hc0 : (0 : Int) ≤ co := by omega) | skip
      first | (have hd0 : ¬ co ≤ 7 := by omega) | skip
      first | (have hd1 : co ≤ 7 := by omega) | skip
      have HC2 := Lib.hid hc2
      clear hc2 hcx
      go_wp2_with fail
      go_meet
      case rel => exact ⟨by rw [HC2.out]; congr 1; simp; try omega, rfl⟩
  case rest =>
    obtain ⟨rfl, hwc⟩ := hcut
    have hwc := hwc.symm
    subst hwc
    go_upto_region 2 with (fail)
    go_cut [4] from 15 to 22 (fun a wc => a = .bool pb ∧ wc = W1)
    case first =>
      have hc : p < 1 ∨ (¬ p < 1 ∧ 65535 < p) ∨ (¬ p < 1 ∧ ¬ 65535 < p) := by omega
      rcases hc with hc | ⟨hc, hd⟩ | ⟨hc, hd⟩
      all_goals
        first | (have hc0 : (1 : Int) ≤ p := by omega) | (have hc0 : ¬ (1 : Int) ≤ p := by omega)
        first | (have hd0 : ¬ p ≤ 65535 := by omega) | (have hd1 : p ≤ 65535 := by omega)
        go_wp2_with fail
        go_meet
        case rel => exact ⟨by rw [HPB.out]; congr 1; simp; try omega, rfl⟩
    case rest =>
      obtain ⟨rfl, hwc⟩ := hcut
      have hwc := hwc.symm
      subst hwc
      rw [← HNB.out] at HNM
      have hnn : w.toList.isEmpty = nn := HNN.out.symm
      go_wp2_with fail
      refine (HNM.out _).mono ?_
      rintro e W2 ⟨rfl, hw2⟩
      have hw2 := hw2.symm
      subst hw2
      go_upto_region 5 with (fail)
      clear HNM HNN HNB HPB HCB
      by_cases h0 : co = 0
      case neg =>
        have hr := HF.out (fun h => by obtain ⟨g0, g1, g2, g3, g4, g5⟩ := h; first | contradiction | omega | (simp_all; done))
        subst hr
        clear HT HF
        go_wp2
        go_ret
        exact ⟨by first | rfl | (simp; done) | (simp; omega), by first | exact HB0.out | (rw [← hbb] at HB0; exact HB0.out) | (rw [hbb]; exact HB0.out)⟩
      case pos =>
        by_cases h1 : n = 0
        case neg =>
          have hr := HF.out (fun h => by obtain ⟨g0, g1, g2, g3, g4, g5⟩ := h; first | contradiction | omega | (simp_all; done))
          subst hr
          clear HT HF
          go_wp2
          go_ret
          exact ⟨by first | rfl | (simp; done) | (simp; omega), by first | exact HB0.out | (rw [← hbb] at HB0; exact HB0.out) | (rw [hbb]; exact HB0.out)⟩
        case pos =>
          by_cases h2 : p = 0
          case neg =>
            have hr := HF.out (fun h => by obtain ⟨g0, g1, g2, g3, g4, g5⟩ := h; first | contradiction | omega | (simp_all; done))
            subst hr
            clear HT HF
            go_wp2
            go_ret
            exact ⟨by first | rfl | (simp; done) | (simp; omega), by first | exact HB0.out | (rw [← hbb] at HB0; exact HB0.out) | (rw [hbb]; exact HB0.out)⟩
          case pos =>
            by_cases h3 : s = 0
            case neg =>
              have hr := HF.out (fun h => by obtain ⟨g0, g1, g2, g3, g4, g5⟩ := h; first | contradiction | omega | (simp_all; done))
              subst hr
              clear HT HF
              go_wp2
              go_ret
              exact ⟨by first | rfl | (simp; done) | (simp; omega), by first | exact HB0.out | (rw [← hbb] at HB0; exact HB0.out) | (rw [hbb]; exact HB0.out)⟩
            case pos =>
              by_cases h4 : m = 0
              case neg =>
                have hr := HF.out (fun h => by obtain ⟨g0, g1, g2, g3, g4, g5⟩ := h; first | contradiction | omega | (simp_all; done))
                subst hr
                clear HT HF
                go_wp2
                go_ret
                exact ⟨by first | rfl | (simp; done) | (simp; omega), by first | exact HB0.out | (rw [← hbb] at HB0; exact HB0.out) | (rw [hbb]; exact HB0.out)⟩
              case pos =>
                by_cases h5 : nn = true
                case neg =>
                  have h5 : nn = false := by simpa using h5
                  have k5 := h5
                  have hr := HF.out (fun h => by obtain ⟨g0, g1, g2, g3, g4, g5⟩ := h; first | contradiction | omega | (simp_all; done))
                  subst hr
                  clear HT HF
                  go_wp2
                  go_ret
                  exact ⟨by first | rfl | (simp; done) | (simp; omega), by first | exact HB0.out | (rw [← hbb] at HB0; exact HB0.out) | (rw [hbb]; exact HB0.out)⟩
                case pos =>
                  have hr := HT.out ⟨h0, h1, h2, h3, h4, h5⟩
                  subst hr
                  clear HT HF
                  go_wp2
                  go_ret
                  exact ⟨by first | rfl | (simp; done) | (simp; omega), by first | exact HB0.out | (rw [← hbb] at HB0; exact HB0.out) | (rw [hbb]; exact HB0.out)⟩
end Go.Proofs.YtgefnicpkfcghaaDoor

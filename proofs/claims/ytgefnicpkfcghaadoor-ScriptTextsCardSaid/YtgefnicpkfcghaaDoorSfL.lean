/-
  The document's line of an operation. No condition but the name's length.
-/
import Derived.BigQuiet
import Derived.IntWalk
import Derived.Test.YtgefnicpkfcghaaDoorSfW
import Derived.Test.YtgefnicpkfcghaaDoorSfY
import Derived.Test.YtgefnicpkfcghaaDoorSfZ
namespace Go.Proofs.YtgefnicpkfcghaaDoor
open Go.RowKit
set_option linter.unusedVariables false
set_option linter.unusedSimpArgs false
attribute [local go_sem] Oper.semAt_some

set_option maxRecDepth 100000 in
set_option maxHeartbeats 8000000 in
theorem refLine_w1 {W0 : World} (co n : Int)  (sk dco dn : ByteArray) (h_co : 0 ≤ co ∧ co < 8) (h_n : 0 ≤ n ∧ n ≤ 9223372036854775807) (z0 : sk.size ≤ 20) (z_co : dco.size ≤ 21) (z_n : dn.size ≤ 21)
    (HM : Hid (∀ W, Calls Tryd.prog 30 #[.agg #[.int .i64 1, .int .i64 co, .int .i64 n, .int .i64 0, .int .i64 0, .int .u32 0, .string ⟨#[]⟩]] W fun e w' => e = .returned (.bool true) ∧ Below W.heap.size W w'))
    (HK : Hid (∀ W, Calls Tryd.prog 16 #[.int .i64 1] W fun e w' => e = .returned (.string sk) ∧ Below W.heap.size W w'))
    (Hco : Hid (∀ W, Calls Tryd.prog 31 #[.int .i64 co] W fun e w' => e = .returned (.string dco) ∧ Below W.heap.size W w'))
    (Hn : Hid (∀ W, Calls Tryd.prog 31 #[.int .i64 n] W fun e w' => e = .returned (.string dn) ∧ Below W.heap.size W w')) :
    Calls Tryd.prog 11 #[.agg #[.int .i64 1, .int .i64 co, .int .i64 n, .int .i64 0, .int .i64 0, .int .u32 0, .string ⟨#[]⟩]] W0 fun e w' => e = .returned (.tuple #[.string (sk ++ ⟨#[32]⟩ ++ dco ++ ⟨#[32]⟩ ++ dn), .int .i64 0]) ∧ Below W0.heap.size W0 w' := by
  have HX := Lib.hid (Blk.new W0 24 #[.int .i64 1, .int .i64 co, .int .i64 n, .int .i64 0, .int .i64 0, .int .u32 0, .string ⟨#[]⟩])
  have HB := Lib.hid ((Below.refl W0.heap.size W0).alloc (Nat.le_refl _) (.cells #[.int .i64 1, .int .i64 co, .int .i64 n, .int .i64 0, .int .i64 0, .int .u32 0, .string ⟨#[]⟩] 24))
  obtain ⟨x0, x1, x2, x3, x4, x5, x6⟩ := ocells HX.out
  have xlt := HX.out.lt
  obtain ⟨a_co, b_co⟩ := h_co
  obtain ⟨a_n, b_n⟩ := h_n
  have q0 : ¬ 9223372036854775807 < sk.size + 1 := by omega
  have q1 : ¬ 9223372036854775807 < sk.size + 1 + dco.size := by omega
  have q2 : ¬ 9223372036854775807 < sk.size + 1 + dco.size + 1 := by omega
  have q3 : ¬ 9223372036854775807 < sk.size + 1 + dco.size + 1 + dn.size := by omega
  go_enter Tryd.func11, Tryd.ntmps11
  go_wp2_with fail
  refine (HM.out _).mono ?_
  rintro e W1 ⟨rfl, hb⟩
  have hx1 := HX.out.below hb HX.out.lt
  have hb1 := HB.out.trans (hb.mono HB.out.size)
  clear hb HX HB x0 x1 x2 x3 x4 x5 x6 xlt
  obtain ⟨x0, x1, x2, x3, x4, x5, x6⟩ := ocells hx1
  have xlt := hx1.lt
  have HX := Lib.hid hx1
  have HB := Lib.hid hb1
  clear hx1 hb1
  go_wp2_with fail
  refine (HK.out _).mono ?_
  rintro e W1 ⟨rfl, hb⟩
  have hx1 := HX.out.below hb HX.out.lt
  have hb1 := HB.out.trans (hb.mono HB.out.size)
  clear hb HX HB x0 x1 x2 x3 x4 x5 x6 xlt
  obtain ⟨x0, x1, x2, x3, x4, x5, x6⟩ := ocells hx1
  have xlt := hx1.lt
  have HX := Lib.hid hx1
  have HB := Lib.hid hb1
  clear hx1 hb1
  go_wp2_with fail
  refine (Hco.out _).mono ?_
  rintro e W1 ⟨rfl, hb⟩
  have hx1 := HX.out.below hb HX.out.lt
  have hb1 := HB.out.trans (hb.mono HB.out.size)
  clear hb HX HB x0 x1 x2 x3 x4 x5 x6 xlt
  obtain ⟨x0, x1, x2, x3, x4, x5, x6⟩ := ocells hx1
  have xlt := hx1.lt
  have HX := Lib.hid hx1
  have HB := Lib.hid hb1
  clear hx1 hb1
  go_wp2_with fail
  refine (Hn.out _).mono ?_
  rintro e W1 ⟨rfl, hb⟩
  have hx1 := HX.out.below hb HX.out.lt
  have hb1 := HB.out.trans (hb.mono HB.out.size)
  clear hb HX HB x0 x1 x2 x3 x4 x5 x6 xlt
  obtain ⟨x0, x1, x2, x3, x4, x5, x6⟩ := ocells hx1
  have xlt := hx1.lt
  have HX := Lib.hid hx1
  have HB := Lib.hid hb1
  clear hx1 hb1
  go_wp2
  go_ret2
  exact ⟨rfl, HB.out⟩
set_option maxRecDepth 100000 in
set_option maxHeartbeats 8000000 in
theorem refLine_w2 {W0 : World} (co p : Int)  (sk dco dp : ByteArray) (h_co : 0 ≤ co ∧ co < 8) (h_p : 1 ≤ p ∧ p ≤ 65535) (z0 : sk.size ≤ 20) (z_co : dco.size ≤ 21) (z_p : dp.size ≤ 21)
    (HM : Hid (∀ W, Calls Tryd.prog 30 #[.agg #[.int .i64 2, .int .i64 co, .int .i64 0, .int .i64 p, .int .i64 0, .int .u32 0, .string ⟨#[]⟩]] W fun e w' => e = .returned (.bool true) ∧ Below W.heap.size W w'))
    (HK : Hid (∀ W, Calls Tryd.prog 16 #[.int .i64 2] W fun e w' => e = .returned (.string sk) ∧ Below W.heap.size W w'))
    (Hco : Hid (∀ W, Calls Tryd.prog 31 #[.int .i64 co] W fun e w' => e = .returned (.string dco) ∧ Below W.heap.size W w'))
    (Hp : Hid (∀ W, Calls Tryd.prog 31 #[.int .i64 p] W fun e w' => e = .returned (.string dp) ∧ Below W.heap.size W w')) :
    Calls Tryd.prog 11 #[.agg #[.int .i64 2, .int .i64 co, .int .i64 0, .int .i64 p, .int .i64 0, .int .u32 0, .string ⟨#[]⟩]] W0 fun e w' => e = .returned (.tuple #[.string (sk ++ ⟨#[32]⟩ ++ dco ++ ⟨#[32]⟩ ++ dp), .int .i64 0]) ∧ Below W0.heap.size W0 w' := by
  have HX := Lib.hid (Blk.new W0 24 #[.int .i64 2, .int .i64 co, .int .i64 0, .int .i64 p, .int .i64 0, .int .u32 0, .string ⟨#[]⟩])
  have HB := Lib.hid ((Below.refl W0.heap.size W0).alloc (Nat.le_refl _) (.cells #[.int .i64 2, .int .i64 co, .int .i64 0, .int .i64 p, .int .i64 0, .int .u32 0, .string ⟨#[]⟩] 24))
  obtain ⟨x0, x1, x2, x3, x4, x5, x6⟩ := ocells HX.out
  have xlt := HX.out.lt
  obtain ⟨a_co, b_co⟩ := h_co
  obtain ⟨a_p, b_p⟩ := h_p
  have hp0 : (0 : Int) < p := by omega
  have q0 : ¬ 9223372036854775807 < sk.size + 1 := by omega
  have q1 : ¬ 9223372036854775807 < sk.size + 1 + dco.size := by omega
  have q2 : ¬ 9223372036854775807 < sk.size + 1 + dco.size + 1 := by omega
  have q3 : ¬ 9223372036854775807 < sk.size + 1 + dco.size + 1 + dp.size := by omega
  go_enter Tryd.func11, Tryd.ntmps11
  go_wp2_with fail
  refine (HM.out _).mono ?_
  rintro e W1 ⟨rfl, hb⟩
  have hx1 := HX.out.below hb HX.out.lt
  have hb1 := HB.out.trans (hb.mono HB.out.size)
  clear hb HX HB x0 x1 x2 x3 x4 x5 x6 xlt
  obtain ⟨x0, x1, x2, x3, x4, x5, x6⟩ := ocells hx1
  have xlt := hx1.lt
  have HX := Lib.hid hx1
  have HB := Lib.hid hb1
  clear hx1 hb1
  go_wp2_with fail
  refine (HK.out _).mono ?_
  rintro e W1 ⟨rfl, hb⟩
  have hx1 := HX.out.below hb HX.out.lt
  have hb1 := HB.out.trans (hb.mono HB.out.size)
  clear hb HX HB x0 x1 x2 x3 x4 x5 x6 xlt
  obtain ⟨x0, x1, x2, x3, x4, x5, x6⟩ := ocells hx1
  have xlt := hx1.lt
  have HX := Lib.hid hx1
  have HB := Lib.hid hb1
  clear hx1 hb1
  go_wp2_with fail
  refine (Hco.out _).mono ?_
  rintro e W1 ⟨rfl, hb⟩
  have hx1 := HX.out.below hb HX.out.lt
  have hb1 := HB.out.trans (hb.mono HB.out.size)
  clear hb HX HB x0 x1 x2 x3 x4 x5 x6 xlt
  obtain ⟨x0, x1, x2, x3, x4, x5, x6⟩ := ocells hx1
  have xlt := hx1.lt
  have HX := Lib.hid hx1
  have HB := Lib.hid hb1
  clear hx1 hb1
  go_wp2_with fail
  refine (Hp.out _).mono ?_
  rintro e W1 ⟨rfl, hb⟩
  have hx1 := HX.out.below hb HX.out.lt
  have hb1 := HB.out.trans (hb.mono HB.out.size)
  clear hb HX HB x0 x1 x2 x3 x4 x5 x6 xlt
  obtain ⟨x0, x1, x2, x3, x4, x5, x6⟩ := ocells hx1
  have xlt := hx1.lt
  have HX := Lib.hid hx1
  have HB := Lib.hid hb1
  clear hx1 hb1
  go_wp2
  go_ret2
  exact ⟨rfl, HB.out⟩
set_option maxRecDepth 100000 in
set_option maxHeartbeats 8000000 in
theorem refLine_w3 {W0 : World}   (sk  : ByteArray)  (z0 : sk.size ≤ 20) 
    (HM : Hid (∀ W, Calls Tryd.prog 30 #[.agg #[.int .i64 3, .int .i64 0, .int .i64 0, .int .i64 0, .int .i64 0, .int .u32 0, .string ⟨#[]⟩]] W fun e w' => e = .returned (.bool true) ∧ Below W.heap.size W w'))
    (HK : Hid (∀ W, Calls Tryd.prog 16 #[.int .i64 3] W fun e w' => e = .returned (.string sk) ∧ Below W.heap.size W w'))
 :
    Calls Tryd.prog 11 #[.agg #[.int .i64 3, .int .i64 0, .int .i64 0, .int .i64 0, .int .i64 0, .int .u32 0, .string ⟨#[]⟩]] W0 fun e w' => e = .returned (.tuple #[.string (sk), .int .i64 0]) ∧ Below W0.heap.size W0 w' := by
  have HX := Lib.hid (Blk.new W0 24 #[.int .i64 3, .int .i64 0, .int .i64 0, .int .i64 0, .int .i64 0, .int .u32 0, .string ⟨#[]⟩])
  have HB := Lib.hid ((Below.refl W0.heap.size W0).alloc (Nat.le_refl _) (.cells #[.int .i64 3, .int .i64 0, .int .i64 0, .int .i64 0, .int .i64 0, .int .u32 0, .string ⟨#[]⟩] 24))
  obtain ⟨x0, x1, x2, x3, x4, x5, x6⟩ := ocells HX.out
  have xlt := HX.out.lt
  go_enter Tryd.func11, Tryd.ntmps11
  go_wp2_with fail
  refine (HM.out _).mono ?_
  rintro e W1 ⟨rfl, hb⟩
  have hx1 := HX.out.below hb HX.out.lt
  have hb1 := HB.out.trans (hb.mono HB.out.size)
  clear hb HX HB x0 x1 x2 x3 x4 x5 x6 xlt
  obtain ⟨x0, x1, x2, x3, x4, x5, x6⟩ := ocells hx1
  have xlt := hx1.lt
  have HX := Lib.hid hx1
  have HB := Lib.hid hb1
  clear hx1 hb1
  go_wp2_with fail
  refine (HK.out _).mono ?_
  rintro e W1 ⟨rfl, hb⟩
  have hx1 := HX.out.below hb HX.out.lt
  have hb1 := HB.out.trans (hb.mono HB.out.size)
  clear hb HX HB x0 x1 x2 x3 x4 x5 x6 xlt
  obtain ⟨x0, x1, x2, x3, x4, x5, x6⟩ := ocells hx1
  have xlt := hx1.lt
  have HX := Lib.hid hx1
  have HB := Lib.hid hb1
  clear hx1 hb1
  go_wp2
  go_ret2
  exact ⟨rfl, HB.out⟩
set_option maxRecDepth 100000 in
set_option maxHeartbeats 8000000 in
theorem refLine_w4 {W0 : World} (co : Int)  (sk dco : ByteArray) (h_co : 0 ≤ co ∧ co < 8) (z0 : sk.size ≤ 20) (z_co : dco.size ≤ 21)
    (HM : Hid (∀ W, Calls Tryd.prog 30 #[.agg #[.int .i64 4, .int .i64 co, .int .i64 0, .int .i64 0, .int .i64 0, .int .u32 0, .string ⟨#[]⟩]] W fun e w' => e = .returned (.bool true) ∧ Below W.heap.size W w'))
    (HK : Hid (∀ W, Calls Tryd.prog 16 #[.int .i64 4] W fun e w' => e = .returned (.string sk) ∧ Below W.heap.size W w'))
    (Hco : Hid (∀ W, Calls Tryd.prog 31 #[.int .i64 co] W fun e w' => e = .returned (.string dco) ∧ Below W.heap.size W w')) :
    Calls Tryd.prog 11 #[.agg #[.int .i64 4, .int .i64 co, .int .i64 0, .int .i64 0, .int .i64 0, .int .u32 0, .string ⟨#[]⟩]] W0 fun e w' => e = .returned (.tuple #[.string (sk ++ ⟨#[32]⟩ ++ dco), .int .i64 0]) ∧ Below W0.heap.size W0 w' := by
  have HX := Lib.hid (Blk.new W0 24 #[.int .i64 4, .int .i64 co, .int .i64 0, .int .i64 0, .int .i64 0, .int .u32 0, .string ⟨#[]⟩])
  have HB := Lib.hid ((Below.refl W0.heap.size W0).alloc (Nat.le_refl _) (.cells #[.int .i64 4, .int .i64 co, .int .i64 0, .int .i64 0, .int .i64 0, .int .u32 0, .string ⟨#[]⟩] 24))
  obtain ⟨x0, x1, x2, x3, x4, x5, x6⟩ := ocells HX.out
  have xlt := HX.out.lt
  obtain ⟨a_co, b_co⟩ := h_co
  have q0 : ¬ 9223372036854775807 < sk.size + 1 := by omega
  have q1 : ¬ 9223372036854775807 < sk.size + 1 + dco.size := by omega
  go_enter Tryd.func11, Tryd.ntmps11
  go_wp2_with fail
  refine (HM.out _).mono ?_
  rintro e W1 ⟨rfl, hb⟩
  have hx1 := HX.out.below hb HX.out.lt
  have hb1 := HB.out.trans (hb.mono HB.out.size)
  clear hb HX HB x0 x1 x2 x3 x4 x5 x6 xlt
  obtain ⟨x0, x1, x2, x3, x4, x5, x6⟩ := ocells hx1
  have xlt := hx1.lt
  have HX := Lib.hid hx1
  have HB := Lib.hid hb1
  clear hx1 hb1
  go_wp2_with fail
  refine (HK.out _).mono ?_
  rintro e W1 ⟨rfl, hb⟩
  have hx1 := HX.out.below hb HX.out.lt
  have hb1 := HB.out.trans (hb.mono HB.out.size)
  clear hb HX HB x0 x1 x2 x3 x4 x5 x6 xlt
  obtain ⟨x0, x1, x2, x3, x4, x5, x6⟩ := ocells hx1
  have xlt := hx1.lt
  have HX := Lib.hid hx1
  have HB := Lib.hid hb1
  clear hx1 hb1
  go_wp2_with fail
  refine (Hco.out _).mono ?_
  rintro e W1 ⟨rfl, hb⟩
  have hx1 := HX.out.below hb HX.out.lt
  have hb1 := HB.out.trans (hb.mono HB.out.size)
  clear hb HX HB x0 x1 x2 x3 x4 x5 x6 xlt
  obtain ⟨x0, x1, x2, x3, x4, x5, x6⟩ := ocells hx1
  have xlt := hx1.lt
  have HX := Lib.hid hx1
  have HB := Lib.hid hb1
  clear hx1 hb1
  go_wp2
  go_ret2
  exact ⟨rfl, HB.out⟩
set_option maxRecDepth 100000 in
set_option maxHeartbeats 8000000 in
theorem refLine_w5 {W0 : World} (p s : Int)  (sk dp ds : ByteArray) (h_p : 1 ≤ p ∧ p ≤ 65535) (h_s : 1 ≤ s ∧ s ≤ 15) (z0 : sk.size ≤ 20) (z_p : dp.size ≤ 21) (z_s : ds.size ≤ 21)
    (HM : Hid (∀ W, Calls Tryd.prog 30 #[.agg #[.int .i64 5, .int .i64 0, .int .i64 0, .int .i64 p, .int .i64 s, .int .u32 0, .string ⟨#[]⟩]] W fun e w' => e = .returned (.bool true) ∧ Below W.heap.size W w'))
    (HK : Hid (∀ W, Calls Tryd.prog 16 #[.int .i64 5] W fun e w' => e = .returned (.string sk) ∧ Below W.heap.size W w'))
    (Hp : Hid (∀ W, Calls Tryd.prog 31 #[.int .i64 p] W fun e w' => e = .returned (.string dp) ∧ Below W.heap.size W w'))
    (Hs : Hid (∀ W, Calls Tryd.prog 31 #[.int .i64 s] W fun e w' => e = .returned (.string ds) ∧ Below W.heap.size W w')) :
    Calls Tryd.prog 11 #[.agg #[.int .i64 5, .int .i64 0, .int .i64 0, .int .i64 p, .int .i64 s, .int .u32 0, .string ⟨#[]⟩]] W0 fun e w' => e = .returned (.tuple #[.string (sk ++ ⟨#[32]⟩ ++ dp ++ ⟨#[32]⟩ ++ ds), .int .i64 0]) ∧ Below W0.heap.size W0 w' := by
  have HX := Lib.hid (Blk.new W0 24 #[.int .i64 5, .int .i64 0, .int .i64 0, .int .i64 p, .int .i64 s, .int .u32 0, .string ⟨#[]⟩])
  have HB := Lib.hid ((Below.refl W0.heap.size W0).alloc (Nat.le_refl _) (.cells #[.int .i64 5, .int .i64 0, .int .i64 0, .int .i64 p, .int .i64 s, .int .u32 0, .string ⟨#[]⟩] 24))
  obtain ⟨x0, x1, x2, x3, x4, x5, x6⟩ := ocells HX.out
  have xlt := HX.out.lt
  obtain ⟨a_p, b_p⟩ := h_p
  obtain ⟨a_s, b_s⟩ := h_s
  have hp0 : (0 : Int) < p := by omega
  have q0 : ¬ 9223372036854775807 < sk.size + 1 := by omega
  have q1 : ¬ 9223372036854775807 < sk.size + 1 + dp.size := by omega
  have q2 : ¬ 9223372036854775807 < sk.size + 1 + dp.size + 1 := by omega
  have q3 : ¬ 9223372036854775807 < sk.size + 1 + dp.size + 1 + ds.size := by omega
  go_enter Tryd.func11, Tryd.ntmps11
  go_wp2_with fail
  refine (HM.out _).mono ?_
  rintro e W1 ⟨rfl, hb⟩
  have hx1 := HX.out.below hb HX.out.lt
  have hb1 := HB.out.trans (hb.mono HB.out.size)
  clear hb HX HB x0 x1 x2 x3 x4 x5 x6 xlt
  obtain ⟨x0, x1, x2, x3, x4, x5, x6⟩ := ocells hx1
  have xlt := hx1.lt
  have HX := Lib.hid hx1
  have HB := Lib.hid hb1
  clear hx1 hb1
  go_wp2_with fail
  refine (HK.out _).mono ?_
  rintro e W1 ⟨rfl, hb⟩
  have hx1 := HX.out.below hb HX.out.lt
  have hb1 := HB.out.trans (hb.mono HB.out.size)
  clear hb HX HB x0 x1 x2 x3 x4 x5 x6 xlt
  obtain ⟨x0, x1, x2, x3, x4, x5, x6⟩ := ocells hx1
  have xlt := hx1.lt
  have HX := Lib.hid hx1
  have HB := Lib.hid hb1
  clear hx1 hb1
  go_wp2_with fail
  refine (Hp.out _).mono ?_
  rintro e W1 ⟨rfl, hb⟩
  have hx1 := HX.out.below hb HX.out.lt
  have hb1 := HB.out.trans (hb.mono HB.out.size)
  clear hb HX HB x0 x1 x2 x3 x4 x5 x6 xlt
  obtain ⟨x0, x1, x2, x3, x4, x5, x6⟩ := ocells hx1
  have xlt := hx1.lt
  have HX := Lib.hid hx1
  have HB := Lib.hid hb1
  clear hx1 hb1
  go_wp2_with fail
  refine (Hs.out _).mono ?_
  rintro e W1 ⟨rfl, hb⟩
  have hx1 := HX.out.below hb HX.out.lt
  have hb1 := HB.out.trans (hb.mono HB.out.size)
  clear hb HX HB x0 x1 x2 x3 x4 x5 x6 xlt
  obtain ⟨x0, x1, x2, x3, x4, x5, x6⟩ := ocells hx1
  have xlt := hx1.lt
  have HX := Lib.hid hx1
  have HB := Lib.hid hb1
  clear hx1 hb1
  go_wp2
  go_ret2
  exact ⟨rfl, HB.out⟩
set_option maxRecDepth 100000 in
set_option maxHeartbeats 8000000 in
theorem refLine_w6 {W0 : World} (p : Int) (w : ByteArray) (sk dp : ByteArray) (h_p : 1 ≤ p ∧ p ≤ 65535) (h_w : 1 ≤ w.size ∧ w.size ≤ 16) (z0 : sk.size ≤ 20) (z_p : dp.size ≤ 21)
    (HM : Hid (∀ W, Calls Tryd.prog 30 #[.agg #[.int .i64 6, .int .i64 0, .int .i64 0, .int .i64 p, .int .i64 0, .int .u32 0, .string w]] W fun e w' => e = .returned (.bool true) ∧ Below W.heap.size W w'))
    (HK : Hid (∀ W, Calls Tryd.prog 16 #[.int .i64 6] W fun e w' => e = .returned (.string sk) ∧ Below W.heap.size W w'))
    (Hp : Hid (∀ W, Calls Tryd.prog 31 #[.int .i64 p] W fun e w' => e = .returned (.string dp) ∧ Below W.heap.size W w')) :
    Calls Tryd.prog 11 #[.agg #[.int .i64 6, .int .i64 0, .int .i64 0, .int .i64 p, .int .i64 0, .int .u32 0, .string w]] W0 fun e w' => e = .returned (.tuple #[.string (sk ++ ⟨#[32]⟩ ++ dp ++ ⟨#[32]⟩ ++ w), .int .i64 0]) ∧ Below W0.heap.size W0 w' := by
  have HX := Lib.hid (Blk.new W0 24 #[.int .i64 6, .int .i64 0, .int .i64 0, .int .i64 p, .int .i64 0, .int .u32 0, .string w])
  have HB := Lib.hid ((Below.refl W0.heap.size W0).alloc (Nat.le_refl _) (.cells #[.int .i64 6, .int .i64 0, .int .i64 0, .int .i64 p, .int .i64 0, .int .u32 0, .string w] 24))
  obtain ⟨x0, x1, x2, x3, x4, x5, x6⟩ := ocells HX.out
  have xlt := HX.out.lt
  obtain ⟨a_p, b_p⟩ := h_p
  have hp0 : (0 : Int) < p := by omega
  have hwe : w.toList.isEmpty = false := by
    rw [Lib.toList_data]
    have e : w.size = w.data.toList.length := (Array.length_toList).symm
    cases hq : w.data.toList with
    | nil => rw [hq] at e; have e2 : w.size = 0 := e; omega
    | cons a b => rfl
  have q0 : ¬ 9223372036854775807 < sk.size + 1 := by omega
  have q1 : ¬ 9223372036854775807 < sk.size + 1 + dp.size := by omega
  have q2 : ¬ 9223372036854775807 < sk.size + 1 + dp.size + 1 := by omega
  have q3 : ¬ 9223372036854775807 < sk.size + 1 + dp.size + 1 + w.size := by omega
  clear h_w
  go_enter Tryd.func11, Tryd.ntmps11
  go_wp2_with fail
  refine (HM.out _).mono ?_
  rintro e W1 ⟨rfl, hb⟩
  have hx1 := HX.out.below hb HX.out.lt
  have hb1 := HB.out.trans (hb.mono HB.out.size)
  clear hb HX HB x0 x1 x2 x3 x4 x5 x6 xlt
  obtain ⟨x0, x1, x2, x3, x4, x5, x6⟩ := ocells hx1
  have xlt := hx1.lt
  have HX := Lib.hid hx1
  have HB := Lib.hid hb1
  clear hx1 hb1
  go_wp2_with fail
  refine (HK.out _).mono ?_
  rintro e W1 ⟨rfl, hb⟩
  have hx1 := HX.out.below hb HX.out.lt
  have hb1 := HB.out.trans (hb.mono HB.out.size)
  clear hb HX HB x0 x1 x2 x3 x4 x5 x6 xlt
  obtain ⟨x0, x1, x2, x3, x4, x5, x6⟩ := ocells hx1
  have xlt := hx1.lt
  have HX := Lib.hid hx1
  have HB := Lib.hid hb1
  clear hx1 hb1
  go_wp2_with fail
  refine (Hp.out _).mono ?_
  rintro e W1 ⟨rfl, hb⟩
  have hx1 := HX.out.below hb HX.out.lt
  have hb1 := HB.out.trans (hb.mono HB.out.size)
  clear hb HX HB x0 x1 x2 x3 x4 x5 x6 xlt
  obtain ⟨x0, x1, x2, x3, x4, x5, x6⟩ := ocells hx1
  have xlt := hx1.lt
  have HX := Lib.hid hx1
  have HB := Lib.hid hb1
  clear hx1 hb1
  go_wp2
  go_ret2
  exact ⟨rfl, HB.out⟩
set_option maxRecDepth 100000 in
set_option maxHeartbeats 8000000 in
theorem refLine_w7 {W0 : World} (p : Int)  (sk dp : ByteArray) (h_p : 1 ≤ p ∧ p ≤ 65535) (z0 : sk.size ≤ 20) (z_p : dp.size ≤ 21)
    (HM : Hid (∀ W, Calls Tryd.prog 30 #[.agg #[.int .i64 7, .int .i64 0, .int .i64 0, .int .i64 p, .int .i64 0, .int .u32 0, .string ⟨#[]⟩]] W fun e w' => e = .returned (.bool true) ∧ Below W.heap.size W w'))
    (HK : Hid (∀ W, Calls Tryd.prog 16 #[.int .i64 7] W fun e w' => e = .returned (.string sk) ∧ Below W.heap.size W w'))
    (Hp : Hid (∀ W, Calls Tryd.prog 31 #[.int .i64 p] W fun e w' => e = .returned (.string dp) ∧ Below W.heap.size W w')) :
    Calls Tryd.prog 11 #[.agg #[.int .i64 7, .int .i64 0, .int .i64 0, .int .i64 p, .int .i64 0, .int .u32 0, .string ⟨#[]⟩]] W0 fun e w' => e = .returned (.tuple #[.string (sk ++ ⟨#[32]⟩ ++ dp), .int .i64 0]) ∧ Below W0.heap.size W0 w' := by
  have HX := Lib.hid (Blk.new W0 24 #[.int .i64 7, .int .i64 0, .int .i64 0, .int .i64 p, .int .i64 0, .int .u32 0, .string ⟨#[]⟩])
  have HB := Lib.hid ((Below.refl W0.heap.size W0).alloc (Nat.le_refl _) (.cells #[.int .i64 7, .int .i64 0, .int .i64 0, .int .i64 p, .int .i64 0, .int .u32 0, .string ⟨#[]⟩] 24))
  obtain ⟨x0, x1, x2, x3, x4, x5, x6⟩ := ocells HX.out
  have xlt := HX.out.lt
  obtain ⟨a_p, b_p⟩ := h_p
  have hp0 : (0 : Int) < p := by omega
  have q0 : ¬ 9223372036854775807 < sk.size + 1 := by omega
  have q1 : ¬ 9223372036854775807 < sk.size + 1 + dp.size := by omega
  go_enter Tryd.func11, Tryd.ntmps11
  go_wp2_with fail
  refine (HM.out _).mono ?_
  rintro e W1 ⟨rfl, hb⟩
  have hx1 := HX.out.below hb HX.out.lt
  have hb1 := HB.out.trans (hb.mono HB.out.size)
  clear hb HX HB x0 x1 x2 x3 x4 x5 x6 xlt
  obtain ⟨x0, x1, x2, x3, x4, x5, x6⟩ := ocells hx1
  have xlt := hx1.lt
  have HX := Lib.hid hx1
  have HB := Lib.hid hb1
  clear hx1 hb1
  go_wp2_with fail
  refine (HK.out _).mono ?_
  rintro e W1 ⟨rfl, hb⟩
  have hx1 := HX.out.below hb HX.out.lt
  have hb1 := HB.out.trans (hb.mono HB.out.size)
  clear hb HX HB x0 x1 x2 x3 x4 x5 x6 xlt
  obtain ⟨x0, x1, x2, x3, x4, x5, x6⟩ := ocells hx1
  have xlt := hx1.lt
  have HX := Lib.hid hx1
  have HB := Lib.hid hb1
  clear hx1 hb1
  go_wp2_with fail
  refine (Hp.out _).mono ?_
  rintro e W1 ⟨rfl, hb⟩
  have hx1 := HX.out.below hb HX.out.lt
  have hb1 := HB.out.trans (hb.mono HB.out.size)
  clear hb HX HB x0 x1 x2 x3 x4 x5 x6 xlt
  obtain ⟨x0, x1, x2, x3, x4, x5, x6⟩ := ocells hx1
  have xlt := hx1.lt
  have HX := Lib.hid hx1
  have HB := Lib.hid hb1
  clear hx1 hb1
  go_wp2
  go_ret2
  exact ⟨rfl, HB.out⟩
set_option maxRecDepth 100000 in
set_option maxHeartbeats 8000000 in
theorem refLine_w8 {W0 : World} (m : Int) (w : ByteArray) (sk dm : ByteArray) (h_w : 1 ≤ w.size ∧ w.size ≤ 16) (h_m : 0 ≤ m ∧ m < 256) (z0 : sk.size ≤ 20) (z_m : dm.size ≤ 21)
    (HM : Hid (∀ W, Calls Tryd.prog 30 #[.agg #[.int .i64 8, .int .i64 0, .int .i64 0, .int .i64 0, .int .i64 0, .int .u32 m, .string w]] W fun e w' => e = .returned (.bool true) ∧ Below W.heap.size W w'))
    (HK : Hid (∀ W, Calls Tryd.prog 16 #[.int .i64 8] W fun e w' => e = .returned (.string sk) ∧ Below W.heap.size W w'))
    (Hm : Hid (∀ W, Calls Tryd.prog 31 #[.int .i64 m] W fun e w' => e = .returned (.string dm) ∧ Below W.heap.size W w')) :
    Calls Tryd.prog 11 #[.agg #[.int .i64 8, .int .i64 0, .int .i64 0, .int .i64 0, .int .i64 0, .int .u32 m, .string w]] W0 fun e w' => e = .returned (.tuple #[.string (sk ++ ⟨#[32]⟩ ++ w ++ ⟨#[32]⟩ ++ dm), .int .i64 0]) ∧ Below W0.heap.size W0 w' := by
  have HX := Lib.hid (Blk.new W0 24 #[.int .i64 8, .int .i64 0, .int .i64 0, .int .i64 0, .int .i64 0, .int .u32 m, .string w])
  have HB := Lib.hid ((Below.refl W0.heap.size W0).alloc (Nat.le_refl _) (.cells #[.int .i64 8, .int .i64 0, .int .i64 0, .int .i64 0, .int .i64 0, .int .u32 m, .string w] 24))
  obtain ⟨x0, x1, x2, x3, x4, x5, x6⟩ := ocells HX.out
  have xlt := HX.out.lt
  obtain ⟨a_m, b_m⟩ := h_m
  have hm9 : m ≤ 4294967295 := by omega
  have hwm : IntKind.i64.wrap m = m := IntWalk.i64_in _ (by omega)
  have hwe : w.toList.isEmpty = false := by
    rw [Lib.toList_data]
    have e : w.size = w.data.toList.length := (Array.length_toList).symm
    cases hq : w.data.toList with
    | nil => rw [hq] at e; have e2 : w.size = 0 := e; omega
    | cons a b => rfl
  have q0 : ¬ 9223372036854775807 < sk.size + 1 := by omega
  have q1 : ¬ 9223372036854775807 < sk.size + 1 + w.size := by omega
  have q2 : ¬ 9223372036854775807 < sk.size + 1 + w.size + 1 := by omega
  have q3 : ¬ 9223372036854775807 < sk.size + 1 + w.size + 1 + dm.size := by omega
  clear h_w
  go_enter Tryd.func11, Tryd.ntmps11
  go_wp2_with fail
  refine (HM.out _).mono ?_
  rintro e W1 ⟨rfl, hb⟩
  have hx1 := HX.out.below hb HX.out.lt
  have hb1 := HB.out.trans (hb.mono HB.out.size)
  clear hb HX HB x0 x1 x2 x3 x4 x5 x6 xlt
  obtain ⟨x0, x1, x2, x3, x4, x5, x6⟩ := ocells hx1
  have xlt := hx1.lt
  have HX := Lib.hid hx1
  have HB := Lib.hid hb1
  clear hx1 hb1
  go_wp2_with fail
  refine (HK.out _).mono ?_
  rintro e W1 ⟨rfl, hb⟩
  have hx1 := HX.out.below hb HX.out.lt
  have hb1 := HB.out.trans (hb.mono HB.out.size)
  clear hb HX HB x0 x1 x2 x3 x4 x5 x6 xlt
  obtain ⟨x0, x1, x2, x3, x4, x5, x6⟩ := ocells hx1
  have xlt := hx1.lt
  have HX := Lib.hid hx1
  have HB := Lib.hid hb1
  clear hx1 hb1
  go_wp2_with fail
  refine (Hm.out _).mono ?_
  rintro e W1 ⟨rfl, hb⟩
  have hx1 := HX.out.below hb HX.out.lt
  have hb1 := HB.out.trans (hb.mono HB.out.size)
  clear hb HX HB x0 x1 x2 x3 x4 x5 x6 xlt
  obtain ⟨x0, x1, x2, x3, x4, x5, x6⟩ := ocells hx1
  have xlt := hx1.lt
  have HX := Lib.hid hx1
  have HB := Lib.hid hb1
  clear hx1 hb1
  go_wp2
  go_ret2
  exact ⟨rfl, HB.out⟩
set_option maxRecDepth 100000 in
set_option maxHeartbeats 8000000 in
theorem refLine_w9 {W0 : World} (p m : Int)  (sk dp dm : ByteArray) (h_p : 1 ≤ p ∧ p ≤ 65535) (h_m : 0 ≤ m ∧ m < 256) (z0 : sk.size ≤ 20) (z_p : dp.size ≤ 21) (z_m : dm.size ≤ 21)
    (HM : Hid (∀ W, Calls Tryd.prog 30 #[.agg #[.int .i64 9, .int .i64 0, .int .i64 0, .int .i64 p, .int .i64 0, .int .u32 m, .string ⟨#[]⟩]] W fun e w' => e = .returned (.bool true) ∧ Below W.heap.size W w'))
    (HK : Hid (∀ W, Calls Tryd.prog 16 #[.int .i64 9] W fun e w' => e = .returned (.string sk) ∧ Below W.heap.size W w'))
    (Hp : Hid (∀ W, Calls Tryd.prog 31 #[.int .i64 p] W fun e w' => e = .returned (.string dp) ∧ Below W.heap.size W w'))
    (Hm : Hid (∀ W, Calls Tryd.prog 31 #[.int .i64 m] W fun e w' => e = .returned (.string dm) ∧ Below W.heap.size W w')) :
    Calls Tryd.prog 11 #[.agg #[.int .i64 9, .int .i64 0, .int .i64 0, .int .i64 p, .int .i64 0, .int .u32 m, .string ⟨#[]⟩]] W0 fun e w' => e = .returned (.tuple #[.string (sk ++ ⟨#[32]⟩ ++ dp ++ ⟨#[32]⟩ ++ dm), .int .i64 0]) ∧ Below W0.heap.size W0 w' := by
  have HX := Lib.hid (Blk.new W0 24 #[.int .i64 9, .int .i64 0, .int .i64 0, .int .i64 p, .int .i64 0, .int .u32 m, .string ⟨#[]⟩])
  have HB := Lib.hid ((Below.refl W0.heap.size W0).alloc (Nat.le_refl _) (.cells #[.int .i64 9, .int .i64 0, .int .i64 0, .int .i64 p, .int .i64 0, .int .u32 m, .string ⟨#[]⟩] 24))
  obtain ⟨x0, x1, x2, x3, x4, x5, x6⟩ := ocells HX.out
  have xlt := HX.out.lt
  obtain ⟨a_p, b_p⟩ := h_p
  obtain ⟨a_m, b_m⟩ := h_m
  have hp0 : (0 : Int) < p := by omega
  have hm9 : m ≤ 4294967295 := by omega
  have hwm : IntKind.i64.wrap m = m := IntWalk.i64_in _ (by omega)
  have q0 : ¬ 9223372036854775807 < sk.size + 1 := by omega
  have q1 : ¬ 9223372036854775807 < sk.size + 1 + dp.size := by omega
  have q2 : ¬ 9223372036854775807 < sk.size + 1 + dp.size + 1 := by omega
  have q3 : ¬ 9223372036854775807 < sk.size + 1 + dp.size + 1 + dm.size := by omega
  go_enter Tryd.func11, Tryd.ntmps11
  go_wp2_with fail
  refine (HM.out _).mono ?_
  rintro e W1 ⟨rfl, hb⟩
  have hx1 := HX.out.below hb HX.out.lt
  have hb1 := HB.out.trans (hb.mono HB.out.size)
  clear hb HX HB x0 x1 x2 x3 x4 x5 x6 xlt
  obtain ⟨x0, x1, x2, x3, x4, x5, x6⟩ := ocells hx1
  have xlt := hx1.lt
  have HX := Lib.hid hx1
  have HB := Lib.hid hb1
  clear hx1 hb1
  go_wp2_with fail
  refine (HK.out _).mono ?_
  rintro e W1 ⟨rfl, hb⟩
  have hx1 := HX.out.below hb HX.out.lt
  have hb1 := HB.out.trans (hb.mono HB.out.size)
  clear hb HX HB x0 x1 x2 x3 x4 x5 x6 xlt
  obtain ⟨x0, x1, x2, x3, x4, x5, x6⟩ := ocells hx1
  have xlt := hx1.lt
  have HX := Lib.hid hx1
  have HB := Lib.hid hb1
  clear hx1 hb1
  go_wp2_with fail
  refine (Hp.out _).mono ?_
  rintro e W1 ⟨rfl, hb⟩
  have hx1 := HX.out.below hb HX.out.lt
  have hb1 := HB.out.trans (hb.mono HB.out.size)
  clear hb HX HB x0 x1 x2 x3 x4 x5 x6 xlt
  obtain ⟨x0, x1, x2, x3, x4, x5, x6⟩ := ocells hx1
  have xlt := hx1.lt
  have HX := Lib.hid hx1
  have HB := Lib.hid hb1
  clear hx1 hb1
  go_wp2_with fail
  refine (Hm.out _).mono ?_
  rintro e W1 ⟨rfl, hb⟩
  have hx1 := HX.out.below hb HX.out.lt
  have hb1 := HB.out.trans (hb.mono HB.out.size)
  clear hb HX HB x0 x1 x2 x3 x4 x5 x6 xlt
  obtain ⟨x0, x1, x2, x3, x4, x5, x6⟩ := ocells hx1
  have xlt := hx1.lt
  have HX := Lib.hid hx1
  have HB := Lib.hid hb1
  clear hx1 hb1
  go_wp2
  go_ret2
  exact ⟨rfl, HB.out⟩
set_option maxRecDepth 100000 in
set_option maxHeartbeats 8000000 in
theorem refLine_w10 {W0 : World}   (sk  : ByteArray)  (z0 : sk.size ≤ 20) 
    (HM : Hid (∀ W, Calls Tryd.prog 30 #[.agg #[.int .i64 10, .int .i64 0, .int .i64 0, .int .i64 0, .int .i64 0, .int .u32 0, .string ⟨#[]⟩]] W fun e w' => e = .returned (.bool true) ∧ Below W.heap.size W w'))
    (HK : Hid (∀ W, Calls Tryd.prog 16 #[.int .i64 10] W fun e w' => e = .returned (.string sk) ∧ Below W.heap.size W w'))
 :
    Calls Tryd.prog 11 #[.agg #[.int .i64 10, .int .i64 0, .int .i64 0, .int .i64 0, .int .i64 0, .int .u32 0, .string ⟨#[]⟩]] W0 fun e w' => e = .returned (.tuple #[.string (sk), .int .i64 0]) ∧ Below W0.heap.size W0 w' := by
  have HX := Lib.hid (Blk.new W0 24 #[.int .i64 10, .int .i64 0, .int .i64 0, .int .i64 0, .int .i64 0, .int .u32 0, .string ⟨#[]⟩])
  have HB := Lib.hid ((Below.refl W0.heap.size W0).alloc (Nat.le_refl _) (.cells #[.int .i64 10, .int .i64 0, .int .i64 0, .int .i64 0, .int .i64 0, .int .u32 0, .string ⟨#[]⟩] 24))
  obtain ⟨x0, x1, x2, x3, x4, x5, x6⟩ := ocells HX.out
  have xlt := HX.out.lt
  go_enter Tryd.func11, Tryd.ntmps11
  go_wp2_with fail
  refine (HM.out _).mono ?_
  rintro e W1 ⟨rfl, hb⟩
  have hx1 := HX.out.below hb HX.out.lt
  have hb1 := HB.out.trans (hb.mono HB.out.size)
  clear hb HX HB x0 x1 x2 x3 x4 x5 x6 xlt
  obtain ⟨x0, x1, x2, x3, x4, x5, x6⟩ := ocells hx1
  have xlt := hx1.lt
  have HX := Lib.hid hx1
  have HB := Lib.hid hb1
  clear hx1 hb1
  go_wp2_with fail
  refine (HK.out _).mono ?_
  rintro e W1 ⟨rfl, hb⟩
  have hx1 := HX.out.below hb HX.out.lt
  have hb1 := HB.out.trans (hb.mono HB.out.size)
  clear hb HX HB x0 x1 x2 x3 x4 x5 x6 xlt
  obtain ⟨x0, x1, x2, x3, x4, x5, x6⟩ := ocells hx1
  have xlt := hx1.lt
  have HX := Lib.hid hx1
  have HB := Lib.hid hb1
  clear hx1 hb1
  go_wp2
  go_ret2
  exact ⟨rfl, HB.out⟩
set_option maxRecDepth 100000 in
set_option maxHeartbeats 8000000 in
theorem refLine_w11 {W0 : World}   (sk  : ByteArray)  (z0 : sk.size ≤ 20) 
    (HM : Hid (∀ W, Calls Tryd.prog 30 #[.agg #[.int .i64 11, .int .i64 0, .int .i64 0, .int .i64 0, .int .i64 0, .int .u32 0, .string ⟨#[]⟩]] W fun e w' => e = .returned (.bool true) ∧ Below W.heap.size W w'))
    (HK : Hid (∀ W, Calls Tryd.prog 16 #[.int .i64 11] W fun e w' => e = .returned (.string sk) ∧ Below W.heap.size W w'))
 :
    Calls Tryd.prog 11 #[.agg #[.int .i64 11, .int .i64 0, .int .i64 0, .int .i64 0, .int .i64 0, .int .u32 0, .string ⟨#[]⟩]] W0 fun e w' => e = .returned (.tuple #[.string (sk), .int .i64 0]) ∧ Below W0.heap.size W0 w' := by
  have HX := Lib.hid (Blk.new W0 24 #[.int .i64 11, .int .i64 0, .int .i64 0, .int .i64 0, .int .i64 0, .int .u32 0, .string ⟨#[]⟩])
  have HB := Lib.hid ((Below.refl W0.heap.size W0).alloc (Nat.le_refl _) (.cells #[.int .i64 11, .int .i64 0, .int .i64 0, .int .i64 0, .int .i64 0, .int .u32 0, .string ⟨#[]⟩] 24))
  obtain ⟨x0, x1, x2, x3, x4, x5, x6⟩ := ocells HX.out
  have xlt := HX.out.lt
  go_enter Tryd.func11, Tryd.ntmps11
  go_wp2_with fail
  refine (HM.out _).mono ?_
  rintro e W1 ⟨rfl, hb⟩
  have hx1 := HX.out.below hb HX.out.lt
  have hb1 := HB.out.trans (hb.mono HB.out.size)
  clear hb HX HB x0 x1 x2 x3 x4 x5 x6 xlt
  obtain ⟨x0, x1, x2, x3, x4, x5, x6⟩ := ocells hx1
  have xlt := hx1.lt
  have HX := Lib.hid hx1
  have HB := Lib.hid hb1
  clear hx1 hb1
  go_wp2_with fail
  refine (HK.out _).mono ?_
  rintro e W1 ⟨rfl, hb⟩
  have hx1 := HX.out.below hb HX.out.lt
  have hb1 := HB.out.trans (hb.mono HB.out.size)
  clear hb HX HB x0 x1 x2 x3 x4 x5 x6 xlt
  obtain ⟨x0, x1, x2, x3, x4, x5, x6⟩ := ocells hx1
  have xlt := hx1.lt
  have HX := Lib.hid hx1
  have HB := Lib.hid hb1
  clear hx1 hb1
  go_wp2
  go_ret2
  exact ⟨rfl, HB.out⟩
set_option maxRecDepth 100000 in
set_option maxHeartbeats 8000000 in
theorem refLine_w12 {W0 : World}   (sk  : ByteArray)  (z0 : sk.size ≤ 20) 
    (HM : Hid (∀ W, Calls Tryd.prog 30 #[.agg #[.int .i64 12, .int .i64 0, .int .i64 0, .int .i64 0, .int .i64 0, .int .u32 0, .string ⟨#[]⟩]] W fun e w' => e = .returned (.bool true) ∧ Below W.heap.size W w'))
    (HK : Hid (∀ W, Calls Tryd.prog 16 #[.int .i64 12] W fun e w' => e = .returned (.string sk) ∧ Below W.heap.size W w'))
 :
    Calls Tryd.prog 11 #[.agg #[.int .i64 12, .int .i64 0, .int .i64 0, .int .i64 0, .int .i64 0, .int .u32 0, .string ⟨#[]⟩]] W0 fun e w' => e = .returned (.tuple #[.string (sk), .int .i64 0]) ∧ Below W0.heap.size W0 w' := by
  have HX := Lib.hid (Blk.new W0 24 #[.int .i64 12, .int .i64 0, .int .i64 0, .int .i64 0, .int .i64 0, .int .u32 0, .string ⟨#[]⟩])
  have HB := Lib.hid ((Below.refl W0.heap.size W0).alloc (Nat.le_refl _) (.cells #[.int .i64 12, .int .i64 0, .int .i64 0, .int .i64 0, .int .i64 0, .int .u32 0, .string ⟨#[]⟩] 24))
  obtain ⟨x0, x1, x2, x3, x4, x5, x6⟩ := ocells HX.out
  have xlt := HX.out.lt
  go_enter Tryd.func11, Tryd.ntmps11
  go_wp2_with fail
  refine (HM.out _).mono ?_
  rintro e W1 ⟨rfl, hb⟩
  have hx1 := HX.out.below hb HX.out.lt
  have hb1 := HB.out.trans (hb.mono HB.out.size)
  clear hb HX HB x0 x1 x2 x3 x4 x5 x6 xlt
  obtain ⟨x0, x1, x2, x3, x4, x5, x6⟩ := ocells hx1
  have xlt := hx1.lt
  have HX := Lib.hid hx1
  have HB := Lib.hid hb1
  clear hx1 hb1
  go_wp2_with fail
  refine (HK.out _).mono ?_
  rintro e W1 ⟨rfl, hb⟩
  have hx1 := HX.out.below hb HX.out.lt
  have hb1 := HB.out.trans (hb.mono HB.out.size)
  clear hb HX HB x0 x1 x2 x3 x4 x5 x6 xlt
  obtain ⟨x0, x1, x2, x3, x4, x5, x6⟩ := ocells hx1
  have xlt := hx1.lt
  have HX := Lib.hid hx1
  have HB := Lib.hid hb1
  clear hx1 hb1
  go_wp2
  go_ret2
  exact ⟨rfl, HB.out⟩
def lineBy (x : O) : ByteArray := if MayO x then ⟨(lineO x).toArray⟩ else ⟨#[]⟩
def lineEr (x : O) : Int := if MayO x then 0 else 200
set_option maxRecDepth 100000 in
set_option maxHeartbeats 4000000 in
theorem refLine_no {W0 : World} (x : O) (hm : 0 ≤ x.m) (hn : ¬ MayO x) : Calls Tryd.prog 11 #[.agg #[.int .i64 x.k, .int .i64 x.co, .int .i64 x.n, .int .i64 x.p, .int .i64 x.s, .int .u32 x.m, .string x.w]] W0 fun e w' => e = .returned (.tuple #[.string ⟨#[]⟩, .int .i64 200]) ∧ Below W0.heap.size W0 w' := by
  have HM := Lib.hid (fun W => refMay_any (w0 := W) x hm)
  rw [decide_eq_false hn] at HM
  obtain ⟨k, co, n, p, s, m, w⟩ := x
  simp only at HM ⊢
  have HX := Lib.hid (Blk.new W0 24 #[.int .i64 k, .int .i64 co, .int .i64 n, .int .i64 p, .int .i64 s, .int .u32 m, .string w])
  have HB := Lib.hid ((Below.refl W0.heap.size W0).alloc (Nat.le_refl _) (.cells #[.int .i64 k, .int .i64 co, .int .i64 n, .int .i64 p, .int .i64 s, .int .u32 m, .string w] 24))
  obtain ⟨x0, x1, x2, x3, x4, x5, x6⟩ := ocells HX.out
  have xlt := HX.out.lt
  clear hn hm
  go_enter Tryd.func11, Tryd.ntmps11
  go_wp2_with fail
  refine (HM.out _).mono ?_
  rintro e W1 ⟨rfl, hb⟩
  have HB1 := Lib.hid (HB.out.trans (hb.mono HB.out.size))
  clear hb HX HB x0 x1 x2 x3 x4 x5 x6 xlt
  go_wp2
  go_ret2
  exact ⟨rfl, HB1.out⟩
theorem refDigI {W : World} (v : Int) (h0 : 0 ≤ v) (h1 : v ≤ 9223372036854775807) : Calls Tryd.prog 31 #[.int .i64 v] W fun e w' => e = .returned (.string ⟨(Lib.itoa v).toArray⟩) ∧ Below W.heap.size W w' := by
  obtain ⟨u, rfl⟩ := Int.eq_ofNat_of_zero_le h0
  rw [show Lib.itoa ((u : Nat) : Int) = Lib.decDigits u from by unfold Lib.itoa; rw [if_neg (by omega)]; simp]
  exact refDigits_any u (by omega)
theorem digI_size (v : Int) (h0 : 0 ≤ v) (h1 : v ≤ 9223372036854775807) : (⟨(Lib.itoa v).toArray⟩ : ByteArray).size ≤ 21 := by
  show (Lib.itoa v).toArray.size ≤ 21
  rw [List.size_toArray]
  exact itoa_len v (by omega) h1
theorem kind_size (k : Int) : (⟨(kindW k).toArray⟩ : ByteArray).size ≤ 20 := by
  show (kindW k).toArray.size ≤ 20
  rw [List.size_toArray]
  by_cases h : kindW k = []
  · rw [h]; exact Nat.zero_le _
  · rcases kind_cases h with e | e | e | e | e | e | e | e | e | e | e | e <;> rw [e] <;> decide
theorem name_size {w : ByteArray} (h : nameB w.data.toList = true) : 1 ≤ w.size ∧ w.size ≤ 16 := by
  unfold nameB at h
  simp only [Bool.and_eq_true, decide_eq_true_eq] at h
  have e : w.data.toList.length = w.size := Array.length_toList
  omega
set_option maxRecDepth 100000 in
set_option maxHeartbeats 8000000 in
theorem refLine_yes {W0 : World} (x : O) (hr : RangeO x) (hmay : MayO x) : Calls Tryd.prog 11 #[.agg #[.int .i64 x.k, .int .i64 x.co, .int .i64 x.n, .int .i64 x.p, .int .i64 x.s, .int .u32 x.m, .string x.w]] W0 fun e w' => e = .returned (.tuple #[.string ⟨(lineO x).toArray⟩, .int .i64 0]) ∧ Below W0.heap.size W0 w' := by
  have hk := kind_cases hmay.1
  have hm : 0 ≤ x.m := hr.2.2.2.2.1
  obtain ⟨k, co, n, p, s, m, w⟩ := x
  have hn9 : n ≤ 9223372036854775807 := hr.2.1.2
  simp only at hk hm ⊢
  rcases hk with rfl | rfl | rfl | rfl | rfl | rfl | rfl | rfl | rfl | rfl | rfl | rfl
  · obtain ⟨g0, g1, g2, g3, g4, g5⟩ := (may_k1 co n p s m w hm).1 hmay
    subst g2 g3 g4 g5
    have HM := Lib.hid (fun W => refMay_any (w0 := W) ⟨1, co, n, 0, 0, 0, ⟨#[]⟩⟩ hm)
    rw [decide_eq_true hmay] at HM
    have h := refLine_w1 (W0 := W0) co n ⟨(kindW 1).toArray⟩ ⟨(Lib.itoa co).toArray⟩ ⟨(Lib.itoa n).toArray⟩ g0 ⟨g1, hr.2.1.2⟩ (kind_size _) (digI_size co (by omega) (by omega)) (digI_size n (by omega) (by omega)) HM (Lib.hid fun W => refKind_any (w := W) 1) (Lib.hid fun W => refDigI co (by omega) (by omega)) (Lib.hid fun W => refDigI n (by omega) (by omega))
    refine h.mono fun e w' h => ⟨h.1.trans ?_, h.2⟩
    refine congrArg Ending.returned (congrArg Value.tuple ?_)
    refine congrArg (fun t => #[Value.string t, Value.int IntKind.i64 0]) ?_
    refine ByteArray.ext (Array.toList_inj.1 ?_)
    simp [ByteArray.data_append, lineO, lineWO, glue, wordO, getO, show partsL 1 = [99, 110] from by decide]
  · obtain ⟨g0, g1, g2, g3, g4, g5⟩ := (may_k2 co n p s m w hm).1 hmay
    subst g2 g3 g4 g5
    have HM := Lib.hid (fun W => refMay_any (w0 := W) ⟨2, co, 0, p, 0, 0, ⟨#[]⟩⟩ hm)
    rw [decide_eq_true hmay] at HM
    have h := refLine_w2 (W0 := W0) co p ⟨(kindW 2).toArray⟩ ⟨(Lib.itoa co).toArray⟩ ⟨(Lib.itoa p).toArray⟩ g0 g1 (kind_size _) (digI_size co (by omega) (by omega)) (digI_size p (by omega) (by omega)) HM (Lib.hid fun W => refKind_any (w := W) 2) (Lib.hid fun W => refDigI co (by omega) (by omega)) (Lib.hid fun W => refDigI p (by omega) (by omega))
    refine h.mono fun e w' h => ⟨h.1.trans ?_, h.2⟩
    refine congrArg Ending.returned (congrArg Value.tuple ?_)
    refine congrArg (fun t => #[Value.string t, Value.int IntKind.i64 0]) ?_
    refine ByteArray.ext (Array.toList_inj.1 ?_)
    simp [ByteArray.data_append, lineO, lineWO, glue, wordO, getO, show partsL 2 = [99, 112] from by decide]
  · obtain ⟨g0, g1, g2, g3, g4, g5⟩ := (may_k3 co n p s m w hm).1 hmay
    subst g0 g1 g2 g3 g4 g5
    have HM := Lib.hid (fun W => refMay_any (w0 := W) ⟨3, 0, 0, 0, 0, 0, ⟨#[]⟩⟩ hm)
    rw [decide_eq_true hmay] at HM
    have h := refLine_w3 (W0 := W0)  ⟨(kindW 3).toArray⟩   (kind_size _)  HM (Lib.hid fun W => refKind_any (w := W) 3) 
    refine h.mono fun e w' h => ⟨h.1.trans ?_, h.2⟩
    refine congrArg Ending.returned (congrArg Value.tuple ?_)
    refine congrArg (fun t => #[Value.string t, Value.int IntKind.i64 0]) ?_
    refine ByteArray.ext (Array.toList_inj.1 ?_)
    simp [ByteArray.data_append, lineO, lineWO, glue, wordO, getO, show partsL 3 = [] from by decide]
  · obtain ⟨g0, g1, g2, g3, g4, g5⟩ := (may_k4 co n p s m w hm).1 hmay
    subst g1 g2 g3 g4 g5
    have HM := Lib.hid (fun W => refMay_any (w0 := W) ⟨4, co, 0, 0, 0, 0, ⟨#[]⟩⟩ hm)
    rw [decide_eq_true hmay] at HM
    have h := refLine_w4 (W0 := W0) co ⟨(kindW 4).toArray⟩ ⟨(Lib.itoa co).toArray⟩ g0 (kind_size _) (digI_size co (by omega) (by omega)) HM (Lib.hid fun W => refKind_any (w := W) 4) (Lib.hid fun W => refDigI co (by omega) (by omega))
    refine h.mono fun e w' h => ⟨h.1.trans ?_, h.2⟩
    refine congrArg Ending.returned (congrArg Value.tuple ?_)
    refine congrArg (fun t => #[Value.string t, Value.int IntKind.i64 0]) ?_
    refine ByteArray.ext (Array.toList_inj.1 ?_)
    simp [ByteArray.data_append, lineO, lineWO, glue, wordO, getO, show partsL 4 = [99] from by decide]
  · obtain ⟨g0, g1, g2, g3, g4, g5, g6⟩ := (may_k5 co n p s m w hm).1 hmay
    subst g3 g4 g5 g6
    have HM := Lib.hid (fun W => refMay_any (w0 := W) ⟨5, 0, 0, p, s, 0, ⟨#[]⟩⟩ hm)
    rw [decide_eq_true hmay] at HM
    have h := refLine_w5 (W0 := W0) p s ⟨(kindW 5).toArray⟩ ⟨(Lib.itoa p).toArray⟩ ⟨(Lib.itoa s).toArray⟩ g0 ⟨g1, g2⟩ (kind_size _) (digI_size p (by omega) (by omega)) (digI_size s (by omega) (by omega)) HM (Lib.hid fun W => refKind_any (w := W) 5) (Lib.hid fun W => refDigI p (by omega) (by omega)) (Lib.hid fun W => refDigI s (by omega) (by omega))
    refine h.mono fun e w' h => ⟨h.1.trans ?_, h.2⟩
    refine congrArg Ending.returned (congrArg Value.tuple ?_)
    refine congrArg (fun t => #[Value.string t, Value.int IntKind.i64 0]) ?_
    refine ByteArray.ext (Array.toList_inj.1 ?_)
    simp [ByteArray.data_append, lineO, lineWO, glue, wordO, getO, show partsL 5 = [112, 115] from by decide]
  · obtain ⟨g0, g1, g2, g3, g4, g5⟩ := (may_k6 co n p s m w hm).1 hmay
    subst g2 g3 g4 g5
    have HM := Lib.hid (fun W => refMay_any (w0 := W) ⟨6, 0, 0, p, 0, 0, w⟩ hm)
    rw [decide_eq_true hmay] at HM
    have h := refLine_w6 (W0 := W0) p w ⟨(kindW 6).toArray⟩ ⟨(Lib.itoa p).toArray⟩ g0 (name_size g1) (kind_size _) (digI_size p (by omega) (by omega)) HM (Lib.hid fun W => refKind_any (w := W) 6) (Lib.hid fun W => refDigI p (by omega) (by omega))
    refine h.mono fun e w' h => ⟨h.1.trans ?_, h.2⟩
    refine congrArg Ending.returned (congrArg Value.tuple ?_)
    refine congrArg (fun t => #[Value.string t, Value.int IntKind.i64 0]) ?_
    refine ByteArray.ext (Array.toList_inj.1 ?_)
    simp [ByteArray.data_append, lineO, lineWO, glue, wordO, getO, show partsL 6 = [112, 119] from by decide]
  · obtain ⟨g0, g1, g2, g3, g4, g5⟩ := (may_k7 co n p s m w hm).1 hmay
    subst g1 g2 g3 g4 g5
    have HM := Lib.hid (fun W => refMay_any (w0 := W) ⟨7, 0, 0, p, 0, 0, ⟨#[]⟩⟩ hm)
    rw [decide_eq_true hmay] at HM
    have h := refLine_w7 (W0 := W0) p ⟨(kindW 7).toArray⟩ ⟨(Lib.itoa p).toArray⟩ g0 (kind_size _) (digI_size p (by omega) (by omega)) HM (Lib.hid fun W => refKind_any (w := W) 7) (Lib.hid fun W => refDigI p (by omega) (by omega))
    refine h.mono fun e w' h => ⟨h.1.trans ?_, h.2⟩
    refine congrArg Ending.returned (congrArg Value.tuple ?_)
    refine congrArg (fun t => #[Value.string t, Value.int IntKind.i64 0]) ?_
    refine ByteArray.ext (Array.toList_inj.1 ?_)
    simp [ByteArray.data_append, lineO, lineWO, glue, wordO, getO, show partsL 7 = [112] from by decide]
  · obtain ⟨g0, g1, g2, g3, g4, g5⟩ := (may_k8 co n p s m w hm).1 hmay
    subst g2 g3 g4 g5
    have HM := Lib.hid (fun W => refMay_any (w0 := W) ⟨8, 0, 0, 0, 0, m, w⟩ hm)
    rw [decide_eq_true hmay] at HM
    have h := refLine_w8 (W0 := W0) m w ⟨(kindW 8).toArray⟩ ⟨(Lib.itoa m).toArray⟩ (name_size g0) ⟨hm, g1⟩ (kind_size _) (digI_size m (by omega) (by omega)) HM (Lib.hid fun W => refKind_any (w := W) 8) (Lib.hid fun W => refDigI m (by omega) (by omega))
    refine h.mono fun e w' h => ⟨h.1.trans ?_, h.2⟩
    refine congrArg Ending.returned (congrArg Value.tuple ?_)
    refine congrArg (fun t => #[Value.string t, Value.int IntKind.i64 0]) ?_
    refine ByteArray.ext (Array.toList_inj.1 ?_)
    simp [ByteArray.data_append, lineO, lineWO, glue, wordO, getO, show partsL 8 = [119, 109] from by decide]
  · obtain ⟨g0, g1, g2, g3, g4, g5⟩ := (may_k9 co n p s m w hm).1 hmay
    subst g2 g3 g4 g5
    have HM := Lib.hid (fun W => refMay_any (w0 := W) ⟨9, 0, 0, p, 0, m, ⟨#[]⟩⟩ hm)
    rw [decide_eq_true hmay] at HM
    have h := refLine_w9 (W0 := W0) p m ⟨(kindW 9).toArray⟩ ⟨(Lib.itoa p).toArray⟩ ⟨(Lib.itoa m).toArray⟩ g0 ⟨hm, g1⟩ (kind_size _) (digI_size p (by omega) (by omega)) (digI_size m (by omega) (by omega)) HM (Lib.hid fun W => refKind_any (w := W) 9) (Lib.hid fun W => refDigI p (by omega) (by omega)) (Lib.hid fun W => refDigI m (by omega) (by omega))
    refine h.mono fun e w' h => ⟨h.1.trans ?_, h.2⟩
    refine congrArg Ending.returned (congrArg Value.tuple ?_)
    refine congrArg (fun t => #[Value.string t, Value.int IntKind.i64 0]) ?_
    refine ByteArray.ext (Array.toList_inj.1 ?_)
    simp [ByteArray.data_append, lineO, lineWO, glue, wordO, getO, show partsL 9 = [112, 109] from by decide]
  · obtain ⟨g0, g1, g2, g3, g4, g5⟩ := (may_k10 co n p s m w hm).1 hmay
    subst g0 g1 g2 g3 g4 g5
    have HM := Lib.hid (fun W => refMay_any (w0 := W) ⟨10, 0, 0, 0, 0, 0, ⟨#[]⟩⟩ hm)
    rw [decide_eq_true hmay] at HM
    have h := refLine_w10 (W0 := W0)  ⟨(kindW 10).toArray⟩   (kind_size _)  HM (Lib.hid fun W => refKind_any (w := W) 10) 
    refine h.mono fun e w' h => ⟨h.1.trans ?_, h.2⟩
    refine congrArg Ending.returned (congrArg Value.tuple ?_)
    refine congrArg (fun t => #[Value.string t, Value.int IntKind.i64 0]) ?_
    refine ByteArray.ext (Array.toList_inj.1 ?_)
    simp [ByteArray.data_append, lineO, lineWO, glue, wordO, getO, show partsL 10 = [] from by decide]
  · obtain ⟨g0, g1, g2, g3, g4, g5⟩ := (may_k11 co n p s m w hm).1 hmay
    subst g0 g1 g2 g3 g4 g5
    have HM := Lib.hid (fun W => refMay_any (w0 := W) ⟨11, 0, 0, 0, 0, 0, ⟨#[]⟩⟩ hm)
    rw [decide_eq_true hmay] at HM
    have h := refLine_w11 (W0 := W0)  ⟨(kindW 11).toArray⟩   (kind_size _)  HM (Lib.hid fun W => refKind_any (w := W) 11) 
    refine h.mono fun e w' h => ⟨h.1.trans ?_, h.2⟩
    refine congrArg Ending.returned (congrArg Value.tuple ?_)
    refine congrArg (fun t => #[Value.string t, Value.int IntKind.i64 0]) ?_
    refine ByteArray.ext (Array.toList_inj.1 ?_)
    simp [ByteArray.data_append, lineO, lineWO, glue, wordO, getO, show partsL 11 = [] from by decide]
  · obtain ⟨g0, g1, g2, g3, g4, g5⟩ := (may_k12 co n p s m w hm).1 hmay
    subst g0 g1 g2 g3 g4 g5
    have HM := Lib.hid (fun W => refMay_any (w0 := W) ⟨12, 0, 0, 0, 0, 0, ⟨#[]⟩⟩ hm)
    rw [decide_eq_true hmay] at HM
    have h := refLine_w12 (W0 := W0)  ⟨(kindW 12).toArray⟩   (kind_size _)  HM (Lib.hid fun W => refKind_any (w := W) 12) 
    refine h.mono fun e w' h => ⟨h.1.trans ?_, h.2⟩
    refine congrArg Ending.returned (congrArg Value.tuple ?_)
    refine congrArg (fun t => #[Value.string t, Value.int IntKind.i64 0]) ?_
    refine ByteArray.ext (Array.toList_inj.1 ?_)
    simp [ByteArray.data_append, lineO, lineWO, glue, wordO, getO, show partsL 12 = [] from by decide]
theorem refLine_any {W0 : World} (x : O) (hr : RangeO x) : Calls Tryd.prog 11 #[.agg #[.int .i64 x.k, .int .i64 x.co, .int .i64 x.n, .int .i64 x.p, .int .i64 x.s, .int .u32 x.m, .string x.w]] W0 fun e w' => e = .returned (.tuple #[.string (lineBy x), .int .i64 (lineEr x)]) ∧ Below W0.heap.size W0 w' := by
  unfold lineBy lineEr
  by_cases h : MayO x
  · rw [if_pos h, if_pos h]
    exact refLine_yes x hr h
  · rw [if_neg h, if_neg h]
    exact refLine_no x hr.2.2.2.2.1 h
end Go.Proofs.YtgefnicpkfcghaaDoor

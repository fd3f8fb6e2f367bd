/-
  Steps up to the first trap. Plain. No condition.
-/
import Derived.Test.YtoglmemmdolbmaaDoorCo8
namespace Go.Proofs.YtoglmemmdolbmaaDoor
section
open Go.RowKit
set_option linter.unusedVariables false
set_option linter.unusedSimpArgs false
attribute [local go_sem] Oper.semAt_some
attribute [local irreducible] floatOfInt wz

/-- What an instruction reads, or writes. -/
def touchX (c : Cp) (op : Int) (b : Nat) (im : Int) : Nat × Int × Bool :=
  if 15 ≤ op ∧ op ≤ 18 then (atP c b im, if 17 ≤ op then 1 else 4, decide (op = 16 ∨ op = 18)) else (0, 0, false)
theorem fetch_x0 {c : Cp} {m : List Int} (h : (fetchP c m).2 ≠ 0) : 0 ≤ (fetchP c m).1.b := by
  unfold fetchP at h ⊢
  by_cases h4 : c.pc % 4 = 0
  · rw [if_pos h4] at h ⊢
    cases hw : wordM m c.pc.toNat with
    | none => exact Int.le_refl _
    | some v =>
      rw [hw] at h
      dsimp only at h ⊢
      by_cases hm : I.MayI (I.decI v)
      · rw [if_pos hm] at h; exact absurd rfl h
      · rw [if_neg hm]; exact Int.le_refl _
  · rw [if_neg h4]
    exact Int.le_refl _
def touchP (c : Cp) (m : List Int) : Nat × Int × Bool :=
  if (fetchP c m).2 = 0 then touchX c (fetchP c m).1.op (fetchP c m).1.b.toNat (fetchP c m).1.imm else (0, 0, false)

set_option maxRecDepth 100000 in
set_option maxHeartbeats 8000000 in
theorem touch_trap {w : World} (hL : I.Laid w) {g : Nat} {A : Option Addr} {B cap : Nat} {c : Cp} {m : List Int} (hM : RamAt w g A B cap m) (hc : c.Ok) (op xa : Int) (b : Nat) (im : Int) (t : Int) (hf : fetchP c m = (⟨op, xa, (b : Int), im⟩, t)) (ht : t ≠ 0) :
    Calls Tryd.prog 13 #[.agg c.arr, .iface 31 (.pointer (some ⟨g, 0, none⟩))] w fun e w' => e = .returned (.tuple #[.int .u32 ((((0, 0, false) : Nat × Int × Bool)).1 : Nat), .int .i64 (((0, 0, false) : Nat × Int × Bool)).2.1, .bool (((0, 0, false) : Nat × Int × Bool)).2.2]) ∧ Below w.heap.size w w' := by
  have htb : (t != 0) = true := by simpa using ht
  have HF := Lib.hid (fun W (hW : Below w.heap.size w W) => show Calls Tryd.prog 29 #[.agg c.arr, .iface 31 (.pointer (some ⟨g, 0, none⟩))] W fun e w' => e = .returned (.tuple #[.agg #[.int .i64 op, .int .i64 xa, .int .i64 (b : Int), .int .i64 im], .int .i64 t]) ∧ Below W.heap.size W w' from by
    have h := fetch_any (hL.below hW) (hM.below hW) c hc
    rw [hf] at h
    exact h)
  have hb0 := bl_new (Below.refl w.heap.size w) (.cells c.arr 28)
  have hX := Blk.new w 28 c.arr
  have HC := Lib.hid hc
  have HB0 := Lib.hid hb0
  have HX0 := Lib.hid hX
  obtain ⟨x0, x1, x2, x3, x4, x5, x6, x7, x8, x9, x10, xlt⟩ := cp_all hX
  clear hb0 hX hL hM hc hf
  go_enter Tryd.func13, Tryd.ntmps13
  go_wp2_with fail
  refine (HF.out _ HB0.out).mono ?_
  rintro e W1 ⟨rfl, hb1⟩
  have HX1 := Lib.hid (HX0.out.below hb1 HX0.out.lt)
  have HB1 := Lib.hid (bl_step HB0.out hb1)
  clear x0 x1 x2 x3 x4 x5 x6 x7 x8 x9 x10 xlt hb1 HX0 HB0 HF
  go_wp2_with (go_quiet (fail))
  refine bodyPost_ret (results_tmp3 rfl _ _ _) rfl ⟨rfl, ?_⟩
  first | exact bl_new HB1.out _ | exact below_drewN (bl_new HB1.out _) _ | exact (bl_new HB1.out _).drew

set_option maxRecDepth 100000 in
set_option maxHeartbeats 8000000 in
theorem touch_low {w : World} (hL : I.Laid w) {g : Nat} {A : Option Addr} {B cap : Nat} {c : Cp} {m : List Int} (hM : RamAt w g A B cap m) (hc : c.Ok) (op xa : Int) (b : Nat) (im : Int) (hf : fetchP c m = (⟨op, xa, (b : Int), im⟩, 0)) (ho : op < 15) :
    Calls Tryd.prog 13 #[.agg c.arr, .iface 31 (.pointer (some ⟨g, 0, none⟩))] w fun e w' => e = .returned (.tuple #[.int .u32 ((((0, 0, false) : Nat × Int × Bool)).1 : Nat), .int .i64 (((0, 0, false) : Nat × Int × Bool)).2.1, .bool (((0, 0, false) : Nat × Int × Bool)).2.2]) ∧ Below w.heap.size w w' := by
  have HF := Lib.hid (fun W (hW : Below w.heap.size w W) => show Calls Tryd.prog 29 #[.agg c.arr, .iface 31 (.pointer (some ⟨g, 0, none⟩))] W fun e w' => e = .returned (.tuple #[.agg #[.int .i64 op, .int .i64 xa, .int .i64 (b : Int), .int .i64 im], .int .i64 0]) ∧ Below W.heap.size W w' from by
    have h := fetch_any (hL.below hW) (hM.below hW) c hc
    rw [hf] at h
    exact h)
  have hb0 := bl_new (Below.refl w.heap.size w) (.cells c.arr 28)
  have hX := Blk.new w 28 c.arr
  have HC := Lib.hid hc
  have HB0 := Lib.hid hb0
  have HX0 := Lib.hid hX
  obtain ⟨x0, x1, x2, x3, x4, x5, x6, x7, x8, x9, x10, xlt⟩ := cp_all hX
  clear hb0 hX hL hM hc hf
  go_enter Tryd.func13, Tryd.ntmps13
  go_wp2_with fail
  refine (HF.out _ HB0.out).mono ?_
  rintro e W1 ⟨rfl, hb1⟩
  have HX1 := Lib.hid (HX0.out.below hb1 HX0.out.lt)
  have HB1 := Lib.hid (bl_step HB0.out hb1)
  clear x0 x1 x2 x3 x4 x5 x6 x7 x8 x9 x10 xlt hb1 HX0 HB0 HF
  go_wp2_with (go_quiet (fail))
  refine bodyPost_ret (results_tmp3 rfl _ _ _) rfl ⟨rfl, ?_⟩
  first | exact bl_new HB1.out _ | exact below_drewN (bl_new HB1.out _) _ | exact (bl_new HB1.out _).drew

set_option maxRecDepth 100000 in
set_option maxHeartbeats 8000000 in
theorem touch_high {w : World} (hL : I.Laid w) {g : Nat} {A : Option Addr} {B cap : Nat} {c : Cp} {m : List Int} (hM : RamAt w g A B cap m) (hc : c.Ok) (op xa : Int) (b : Nat) (im : Int) (hf : fetchP c m = (⟨op, xa, (b : Int), im⟩, 0)) (ho : 18 < op) :
    Calls Tryd.prog 13 #[.agg c.arr, .iface 31 (.pointer (some ⟨g, 0, none⟩))] w fun e w' => e = .returned (.tuple #[.int .u32 ((((0, 0, false) : Nat × Int × Bool)).1 : Nat), .int .i64 (((0, 0, false) : Nat × Int × Bool)).2.1, .bool (((0, 0, false) : Nat × Int × Bool)).2.2]) ∧ Below w.heap.size w w' := by
  have ho2 : ¬ op < 15 := by omega
  have HF := Lib.hid (fun W (hW : Below w.heap.size w W) => show Calls Tryd.prog 29 #[.agg c.arr, .iface 31 (.pointer (some ⟨g, 0, none⟩))] W fun e w' => e = .returned (.tuple #[.agg #[.int .i64 op, .int .i64 xa, .int .i64 (b : Int), .int .i64 im], .int .i64 0]) ∧ Below W.heap.size W w' from by
    have h := fetch_any (hL.below hW) (hM.below hW) c hc
    rw [hf] at h
    exact h)
  have hb0 := bl_new (Below.refl w.heap.size w) (.cells c.arr 28)
  have hX := Blk.new w 28 c.arr
  have HC := Lib.hid hc
  have HB0 := Lib.hid hb0
  have HX0 := Lib.hid hX
  obtain ⟨x0, x1, x2, x3, x4, x5, x6, x7, x8, x9, x10, xlt⟩ := cp_all hX
  clear hb0 hX hL hM hc hf
  go_enter Tryd.func13, Tryd.ntmps13
  go_wp2_with fail
  refine (HF.out _ HB0.out).mono ?_
  rintro e W1 ⟨rfl, hb1⟩
  have HX1 := Lib.hid (HX0.out.below hb1 HX0.out.lt)
  have HB1 := Lib.hid (bl_step HB0.out hb1)
  clear x0 x1 x2 x3 x4 x5 x6 x7 x8 x9 x10 xlt hb1 HX0 HB0 HF
  go_wp2_with (go_quiet (fail))
  refine bodyPost_ret (results_tmp3 rfl _ _ _) rfl ⟨rfl, ?_⟩
  first | exact bl_new HB1.out _ | exact below_drewN (bl_new HB1.out _) _ | exact (bl_new HB1.out _).drew

set_option maxRecDepth 100000 in
set_option maxHeartbeats 8000000 in
theorem touch_15 {w : World} (hL : I.Laid w) {g : Nat} {A : Option Addr} {B cap : Nat} {c : Cp} {m : List Int} (hM : RamAt w g A B cap m) (hc : c.Ok) (xa : Int) (b : Nat) (im : Int) (hb : b < 8) (hi : -32768 ≤ im ∧ im ≤ 32767) (hf : fetchP c m = (⟨15, xa, (b : Int), im⟩, 0)) :
    Calls Tryd.prog 13 #[.agg c.arr, .iface 31 (.pointer (some ⟨g, 0, none⟩))] w fun e w' => e = .returned (.tuple #[.int .u32 ((((atP c b im, 4, false) : Nat × Int × Bool)).1 : Nat), .int .i64 (((atP c b im, 4, false) : Nat × Int × Bool)).2.1, .bool (((atP c b im, 4, false) : Nat × Int × Bool)).2.2]) ∧ Below w.heap.size w w' := by
  have HF := Lib.hid (fun W (hW : Below w.heap.size w W) => show Calls Tryd.prog 29 #[.agg c.arr, .iface 31 (.pointer (some ⟨g, 0, none⟩))] W fun e w' => e = .returned (.tuple #[.agg #[.int .i64 15, .int .i64 xa, .int .i64 (b : Int), .int .i64 im], .int .i64 0]) ∧ Below W.heap.size W w' from by
    have h := fetch_any (hL.below hW) (hM.below hW) c hc
    rw [hf] at h
    exact h)
  have hb0 := bl_new (Below.refl w.heap.size w) (.cells c.arr 28)
  have hX := Blk.new w 28 c.arr
  have HC := Lib.hid hc
  have HB0 := Lib.hid hb0
  have HX0 := Lib.hid hX
  obtain ⟨x0, x1, x2, x3, x4, x5, x6, x7, x8, x9, x10, xlt⟩ := cp_all hX
  clear hb0 hX hL hM hc hf
  go_enter Tryd.func13, Tryd.ntmps13
  go_wp2_with fail
  refine (HF.out _ HB0.out).mono ?_
  rintro e W1 ⟨rfl, hb1⟩
  have HX1 := Lib.hid (HX0.out.below hb1 HX0.out.lt)
  have HB1 := Lib.hid (bl_step HB0.out hb1)
  clear x0 x1 x2 x3 x4 x5 x6 x7 x8 x9 x10 xlt hb1 HX0 HB0 HF
  have hbb : (b : Int) < 8 := by omega
  have hrb := cp_reg HX1.out hb
  have hlt := HX1.out.lt
  have hat := at_eq c b im
  have hal := at_lt c b im
  have hrr := HC.out.r b
  obtain ⟨rb, hrv⟩ : ∃ rb, c.r b = rb := ⟨_, rfl⟩
  rw [hrv] at hat hrb hrr
  obtain ⟨hr0, hr1⟩ := hrr
  obtain ⟨hi0, hi1⟩ := hi
  have HAT := Lib.hid hat
  clear hrv
  go_wp2_with (go_quiet (fail))
  refine bodyPost_ret (results_tmp3 rfl _ _ _) rfl ⟨?_, ?_⟩
  · show _ = Ending.returned (.tuple #[.int .u32 (atP c b im : Int), .int .i64 4, .bool false])
    rw [← HAT.out]
    rfl
  first | exact bl_new HB1.out _ | exact below_drewN (bl_new HB1.out _) _ | exact (bl_new HB1.out _).drew

set_option maxRecDepth 100000 in
set_option maxHeartbeats 8000000 in
theorem touch_16 {w : World} (hL : I.Laid w) {g : Nat} {A : Option Addr} {B cap : Nat} {c : Cp} {m : List Int} (hM : RamAt w g A B cap m) (hc : c.Ok) (xa : Int) (b : Nat) (im : Int) (hb : b < 8) (hi : -32768 ≤ im ∧ im ≤ 32767) (hf : fetchP c m = (⟨16, xa, (b : Int), im⟩, 0)) :
    Calls Tryd.prog 13 #[.agg c.arr, .iface 31 (.pointer (some ⟨g, 0, none⟩))] w fun e w' => e = .returned (.tuple #[.int .u32 ((((atP c b im, 4, true) : Nat × Int × Bool)).1 : Nat), .int .i64 (((atP c b im, 4, true) : Nat × Int × Bool)).2.1, .bool (((atP c b im, 4, true) : Nat × Int × Bool)).2.2]) ∧ Below w.heap.size w w' := by
  have HF := Lib.hid (fun W (hW : Below w.heap.size w W) => show Calls Tryd.prog 29 #[.agg c.arr, .iface 31 (.pointer (some ⟨g, 0, none⟩))] W fun e w' => e = .returned (.tuple #[.agg #[.int .i64 16, .int .i64 xa, .int .i64 (b : Int), .int .i64 im], .int .i64 0]) ∧ Below W.heap.size W w' from by
    have h := fetch_any (hL.below hW) (hM.below hW) c hc
    rw [hf] at h
    exact h)
  have hb0 := bl_new (Below.refl w.heap.size w) (.cells c.arr 28)
  have hX := Blk.new w 28 c.arr
  have HC := Lib.hid hc
  have HB0 := Lib.hid hb0
  have HX0 := Lib.hid hX
  obtain ⟨x0, x1, x2, x3, x4, x5, x6, x7, x8, x9, x10, xlt⟩ := cp_all hX
  clear hb0 hX hL hM hc hf
  go_enter Tryd.func13, Tryd.ntmps13
  go_wp2_with fail
  refine (HF.out _ HB0.out).mono ?_
  rintro e W1 ⟨rfl, hb1⟩
  have HX1 := Lib.hid (HX0.out.below hb1 HX0.out.lt)
  have HB1 := Lib.hid (bl_step HB0.out hb1)
  clear x0 x1 x2 x3 x4 x5 x6 x7 x8 x9 x10 xlt hb1 HX0 HB0 HF
  have hbb : (b : Int) < 8 := by omega
  have hrb := cp_reg HX1.out hb
  have hlt := HX1.out.lt
  have hat := at_eq c b im
  have hal := at_lt c b im
  have hrr := HC.out.r b
  obtain ⟨rb, hrv⟩ : ∃ rb, c.r b = rb := ⟨_, rfl⟩
  rw [hrv] at hat hrb hrr
  obtain ⟨hr0, hr1⟩ := hrr
  obtain ⟨hi0, hi1⟩ := hi
  have HAT := Lib.hid hat
  clear hrv
  go_wp2_with (go_quiet (fail))
  refine bodyPost_ret (results_tmp3 rfl _ _ _) rfl ⟨?_, ?_⟩
  · show _ = Ending.returned (.tuple #[.int .u32 (atP c b im : Int), .int .i64 4, .bool true])
    rw [← HAT.out]
    rfl
  first | exact bl_new HB1.out _ | exact below_drewN (bl_new HB1.out _) _ | exact (bl_new HB1.out _).drew

set_option maxRecDepth 100000 in
set_option maxHeartbeats 8000000 in
theorem touch_17 {w : World} (hL : I.Laid w) {g : Nat} {A : Option Addr} {B cap : Nat} {c : Cp} {m : List Int} (hM : RamAt w g A B cap m) (hc : c.Ok) (xa : Int) (b : Nat) (im : Int) (hb : b < 8) (hi : -32768 ≤ im ∧ im ≤ 32767) (hf : fetchP c m = (⟨17, xa, (b : Int), im⟩, 0)) :
    Calls Tryd.prog 13 #[.agg c.arr, .iface 31 (.pointer (some ⟨g, 0, none⟩))] w fun e w' => e = .returned (.tuple #[.int .u32 ((((atP c b im, 1, false) : Nat × Int × Bool)).1 : Nat), .int .i64 (((atP c b im, 1, false) : Nat × Int × Bool)).2.1, .bool (((atP c b im, 1, false) : Nat × Int × Bool)).2.2]) ∧ Below w.heap.size w w' := by
  have HF := Lib.hid (fun W (hW : Below w.heap.size w W) => show Calls Tryd.prog 29 #[.agg c.arr, .iface 31 (.pointer (some ⟨g, 0, none⟩))] W fun e w' => e = .returned (.tuple #[.agg #[.int .i64 17, .int .i64 xa, .int .i64 (b : Int), .int .i64 im], .int .i64 0]) ∧ Below W.heap.size W w' from by
    have h := fetch_any (hL.below hW) (hM.below hW) c hc
    rw [hf] at h
    exact h)
  have hb0 := bl_new (Below.refl w.heap.size w) (.cells c.arr 28)
  have hX := Blk.new w 28 c.arr
  have HC := Lib.hid hc
  have HB0 := Lib.hid hb0
  have HX0 := Lib.hid hX
  obtain ⟨x0, x1, x2, x3, x4, x5, x6, x7, x8, x9, x10, xlt⟩ := cp_all hX
  clear hb0 hX hL hM hc hf
  go_enter Tryd.func13, Tryd.ntmps13
  go_wp2_with fail
  refine (HF.out _ HB0.out).mono ?_
  rintro e W1 ⟨rfl, hb1⟩
  have HX1 := Lib.hid (HX0.out.below hb1 HX0.out.lt)
  have HB1 := Lib.hid (bl_step HB0.out hb1)
  clear x0 x1 x2 x3 x4 x5 x6 x7 x8 x9 x10 xlt hb1 HX0 HB0 HF
  have hbb : (b : Int) < 8 := by omega
  have hrb := cp_reg HX1.out hb
  have hlt := HX1.out.lt
  have hat := at_eq c b im
  have hal := at_lt c b im
  have hrr := HC.out.r b
  obtain ⟨rb, hrv⟩ : ∃ rb, c.r b = rb := ⟨_, rfl⟩
  rw [hrv] at hat hrb hrr
  obtain ⟨hr0, hr1⟩ := hrr
  obtain ⟨hi0, hi1⟩ := hi
  have HAT := Lib.hid hat
  clear hrv
  go_wp2_with (go_quiet (fail))
  refine bodyPost_ret (results_tmp3 rfl _ _ _) rfl ⟨?_, ?_⟩
  · show _ = Ending.returned (.tuple #[.int .u32 (atP c b im : Int), .int .i64 1, .bool false])
    rw [← HAT.out]
    rfl
  first | exact bl_new HB1.out _ | exact below_drewN (bl_new HB1.out _) _ | exact (bl_new HB1.out _).drew

set_option maxRecDepth 100000 in
set_option maxHeartbeats 8000000 in
theorem touch_18 {w : World} (hL : I.Laid w) {g : Nat} {A : Option Addr} {B cap : Nat} {c : Cp} {m : List Int} (hM : RamAt w g A B cap m) (hc : c.Ok) (xa : Int) (b : Nat) (im : Int) (hb : b < 8) (hi : -32768 ≤ im ∧ im ≤ 32767) (hf : fetchP c m = (⟨18, xa, (b : Int), im⟩, 0)) :
    Calls Tryd.prog 13 #[.agg c.arr, .iface 31 (.pointer (some ⟨g, 0, none⟩))] w fun e w' => e = .returned (.tuple #[.int .u32 ((((atP c b im, 1, true) : Nat × Int × Bool)).1 : Nat), .int .i64 (((atP c b im, 1, true) : Nat × Int × Bool)).2.1, .bool (((atP c b im, 1, true) : Nat × Int × Bool)).2.2]) ∧ Below w.heap.size w w' := by
  have HF := Lib.hid (fun W (hW : Below w.heap.size w W) => show Calls Tryd.prog 29 #[.agg c.arr, .iface 31 (.pointer (some ⟨g, 0, none⟩))] W fun e w' => e = .returned (.tuple #[.agg #[.int .i64 18, .int .i64 xa, .int .i64 (b : Int), .int .i64 im], .int .i64 0]) ∧ Below W.heap.size W w' from by
    have h := fetch_any (hL.below hW) (hM.below hW) c hc
    rw [hf] at h
    exact h)
  have hb0 := bl_new (Below.refl w.heap.size w) (.cells c.arr 28)
  have hX := Blk.new w 28 c.arr
  have HC := Lib.hid hc
  have HB0 := Lib.hid hb0
  have HX0 := Lib.hid hX
  obtain ⟨x0, x1, x2, x3, x4, x5, x6, x7, x8, x9, x10, xlt⟩ := cp_all hX
  clear hb0 hX hL hM hc hf
  go_enter Tryd.func13, Tryd.ntmps13
  go_wp2_with fail
  refine (HF.out _ HB0.out).mono ?_
  rintro e W1 ⟨rfl, hb1⟩
  have HX1 := Lib.hid (HX0.out.below hb1 HX0.out.lt)
  have HB1 := Lib.hid (bl_step HB0.out hb1)
  clear x0 x1 x2 x3 x4 x5 x6 x7 x8 x9 x10 xlt hb1 HX0 HB0 HF
  have hbb : (b : Int) < 8 := by omega
  have hrb := cp_reg HX1.out hb
  have hlt := HX1.out.lt
  have hat := at_eq c b im
  have hal := at_lt c b im
  have hrr := HC.out.r b
  obtain ⟨rb, hrv⟩ : ∃ rb, c.r b = rb := ⟨_, rfl⟩
  rw [hrv] at hat hrb hrr
  obtain ⟨hr0, hr1⟩ := hrr
  obtain ⟨hi0, hi1⟩ := hi
  have HAT := Lib.hid hat
  clear hrv
  go_wp2_with (go_quiet (fail))
  refine bodyPost_ret (results_tmp3 rfl _ _ _) rfl ⟨?_, ?_⟩
  · show _ = Ending.returned (.tuple #[.int .u32 (atP c b im : Int), .int .i64 1, .bool true])
    rw [← HAT.out]
    rfl
  first | exact bl_new HB1.out _ | exact below_drewN (bl_new HB1.out _) _ | exact (bl_new HB1.out _).drew

theorem touch_any {w : World} (hL : I.Laid w) {g : Nat} {A : Option Addr} {B cap : Nat} {c : Cp} {m : List Int} (hM : RamAt w g A B cap m) (hc : c.Ok) :
    Calls Tryd.prog 13 #[.agg c.arr, .iface 31 (.pointer (some ⟨g, 0, none⟩))] w fun e w' => e = .returned (.tuple #[.int .u32 ((touchP c m).1 : Nat), .int .i64 (touchP c m).2.1, .bool (touchP c m).2.2]) ∧ Below w.heap.size w w' := by
  unfold touchP
  obtain ⟨x, hx⟩ : ∃ x, (fetchP c m).1 = x := ⟨_, rfl⟩
  obtain ⟨t, ht⟩ : ∃ t, (fetchP c m).2 = t := ⟨_, rfl⟩
  have hf : fetchP c m = (x, t) := by rw [← hx, ← ht]
  rw [hx, ht]
  by_cases h0 : t = 0
  · rw [if_pos h0]
    have hm := fetch_may (ht.trans h0)
    rw [hx] at hm
    have hs := I.may_small hm
    obtain ⟨op, a, b, im⟩ := x
    dsimp only at hs ⊢
    obtain ⟨⟨s1, s2⟩, ⟨s3, s4⟩, ⟨s5, s6⟩, s7, s8⟩ := hs
    obtain ⟨b, rfl⟩ := Int.eq_ofNat_of_zero_le s5
    rw [Int.toNat_natCast]
    subst h0
    have hb : b < 8 := by omega
    unfold touchX
    by_cases ho : 15 ≤ op ∧ op ≤ 18
    · rw [if_pos ho]
      rcases (show op = 15 ∨ op = 16 ∨ op = 17 ∨ op = 18 by omega) with rfl | rfl | rfl | rfl
      · exact touch_15 hL hM hc a b im hb ⟨s7, s8⟩ hf
      · exact touch_16 hL hM hc a b im hb ⟨s7, s8⟩ hf
      · exact touch_17 hL hM hc a b im hb ⟨s7, s8⟩ hf
      · exact touch_18 hL hM hc a b im hb ⟨s7, s8⟩ hf
    · rw [if_neg ho]
      by_cases hl : op < 15
      · exact touch_low hL hM hc op a b im hf hl
      · exact touch_high hL hM hc op a b im hf (by omega)
  · rw [if_neg h0]
    obtain ⟨op, a, b, im⟩ := x
    by_cases hb : 0 ≤ b
    · obtain ⟨b, rfl⟩ := Int.eq_ofNat_of_zero_le hb
      exact touch_trap hL hM hc op a b im t hf h0
    · exfalso
      have h9 := fetch_x0 (c := c) (m := m) (by rw [ht]; exact h0)
      rw [hf] at h9
      exact hb h9
end
end Go.Proofs.YtoglmemmdolbmaaDoor
namespace Go.Proofs.YtoglmemmdolbmaaDoor
section
open Go.RowKit
set_option linter.unusedVariables false

theorem bits_u32 (op : BinOp) (a b : Int) : 0 ≤ bits op .u32 a b ∧ bits op .u32 a b ≤ 4294967295 := by
  unfold bits
  rw [IntKind.wrap_u32]
  omega
theorem count_ok {op im a b v : Int} (ha : 0 ≤ a ∧ a ≤ 4294967295) (hb : 0 ≤ b ∧ b ≤ 4294967295) (h : countP op im a b = some v) : 0 ≤ v ∧ v ≤ 4294967295 := by
  have hshr : 0 ≤ shrP a b ∧ shrP a b ≤ 4294967295 := by
    unfold shrP
    have hp : (0 : Int) < 2 ^ (b % 32).toNat := Int.pow_pos (by decide)
    exact ⟨Int.ediv_nonneg ha.1 (by omega), Int.le_trans (Int.ediv_le_self _ ha.1) ha.2⟩
  have hshl : 0 ≤ shlP a b ∧ shlP a b ≤ 4294967295 := by unfold shlP; omega
  unfold countP at h
  by_cases h1 : op = 1
  · rw [if_pos h1] at h
    have e := Option.some.inj h
    omega
  rw [if_neg h1] at h
  by_cases h2 : op = 2
  · rw [if_pos h2] at h
    have e := Option.some.inj h
    omega
  rw [if_neg h2] at h
  by_cases h3 : op = 3
  · rw [if_pos h3] at h
    have e := Option.some.inj h
    omega
  rw [if_neg h3] at h
  by_cases h4 : op = 4
  · rw [if_pos h4] at h
    have e := Option.some.inj h
    omega
  rw [if_neg h4] at h
  by_cases h5 : op = 5
  · rw [if_pos h5] at h
    have e := Option.some.inj h
    omega
  rw [if_neg h5] at h
  by_cases h6 : op = 6
  · rw [if_pos h6] at h
    have e := Option.some.inj h
    omega
  rw [if_neg h6] at h
  by_cases h7 : op = 7
  · rw [if_pos h7] at h
    have e := Option.some.inj h
    rw [← e]; exact bits_u32 _ _ _
  rw [if_neg h7] at h
  by_cases h8 : op = 8
  · rw [if_pos h8] at h
    have e := Option.some.inj h
    rw [← e]; exact bits_u32 _ _ _
  rw [if_neg h8] at h
  by_cases h9 : op = 9
  · rw [if_pos h9] at h
    have e := Option.some.inj h
    rw [← e]; exact bits_u32 _ _ _
  rw [if_neg h9] at h
  by_cases h10 : op = 10
  · rw [if_pos h10] at h
    have e := Option.some.inj h
    rw [← e]; exact hshl
  rw [if_neg h10] at h
  by_cases h11 : op = 11
  · rw [if_pos h11] at h
    have e := Option.some.inj h
    rw [← e]; exact hshr
  rw [if_neg h11] at h
  by_cases h12 : op = 12
  · rw [if_pos h12] at h
    have e := Option.some.inj h
    omega
  rw [if_neg h12] at h
  by_cases h13 : op = 13
  · rw [if_pos h13] at h
    have e := Option.some.inj h
    rw [← e]; split <;> decide
  rw [if_neg h13] at h
  by_cases h14 : op = 14
  · rw [if_pos h14] at h
    have e := Option.some.inj h
    rw [← e]; split <;> decide
  rw [if_neg h14] at h
  exact absurd h (by simp)
theorem whole_Ok {c : Cp} (h : c.Ok) (op : Int) (a b : Nat) : (wholeP c op a b).Ok := by
  unfold wholeP
  repeat' split
  · exact h.setZ _ _
  · exact (h.setR _ (by omega)).setR _ (by omega)
  · exact h.setZ _ _
  · exact h.setZ _ _
  · exact h.setZ _ _
theorem jump_Ok {c : Cp} (h : c.Ok) (op : Int) (a : Nat) (im : Int) : (jumpP c op a im).2.Ok ∧ 0 ≤ (jumpP c op a im).1 ∧ (jumpP c op a im).1 ≤ 4294967295 := by
  unfold jumpP
  repeat' split
  · exact ⟨h, h.r a⟩
  · exact ⟨h.setR _ (next_range c), far_range c im⟩
  · exact ⟨h, far_range c im⟩
  · exact ⟨h, next_range c⟩
theorem getD_low32 {m : List Int} (h : ∀ x ∈ m, 0 ≤ x ∧ x ≤ 255) (i : Nat) : 0 ≤ m.getD i 0 ∧ m.getD i 0 ≤ 4294967295 := by
  rw [List.getD_eq_getElem?_getD]
  cases hx : m[i]? with
  | none => exact ⟨Int.le_refl 0, by decide⟩
  | some x =>
    have := h x (List.mem_of_getElem? hx)
    show 0 ≤ x ∧ x ≤ 4294967295
    omega
theorem exec_ok {c : Cp} (h : c.Ok) {m : List Int} (hm : ∀ x ∈ m, 0 ≤ x ∧ x ≤ 255) (op : Int) (a b : Nat) (im : Int) : (execP c m op a b im).1.Ok := by
  unfold execP
  split
  · exact h
  split
  · split
    · cases hw : wordM m (atP c b im) with
      | none => exact h
      | some v =>
        have := wordM_range hm hw
        exact (h.setR a (by omega)).setPc (next_range c)
    · exact h
  split
  · split
    · exact h.setPc (next_range c)
    · exact h
  split
  · split
    · exact (h.setR a (getD_low32 hm _)).setPc (next_range c)
    · exact h
  split
  · split
    · exact h.setPc (next_range c)
    · exact h
  split
  · exact (jump_Ok h op a im).1.setPc (jump_Ok h op a im).2
  split
  · exact (whole_Ok h op a b).setPc (next_range c)
  cases hv : countP op im (c.r a) (c.r b) with
  | none => exact h.setPc (next_range c)
  | some v => exact (h.setR a (count_ok (h.r a) (h.r b) hv)).setPc (next_range c)
theorem step_ok {c : Cp} (h : c.Ok) {m : List Int} (hm : ∀ x ∈ m, 0 ≤ x ∧ x ≤ 255) : (stepP c m).1.Ok := by
  unfold stepP
  split
  · exact h
  · exact exec_ok h hm _ _ _ _
end
end Go.Proofs.YtoglmemmdolbmaaDoor
namespace Go.Proofs.YtoglmemmdolbmaaDoor
section
open Go.RowKit
set_option linter.unusedVariables false

theorem exec_len (c : Cp) (m : List Int) (op : Int) (a b : Nat) (im : Int) : (execP c m op a b im).2.2.length = m.length := by
  unfold execP
  repeat' split
  all_goals first | rfl | exact set4_len _ _ _ | exact List.length_set
theorem step_len (c : Cp) (m : List Int) : (stepP c m).2.2.length = m.length := by
  unfold stepP
  split
  · rfl
  · exact exec_len _ _ _ _ _ _
/-- Behind a trap the Cpu is what it was, and so is memory. -/
theorem exec_traps {c : Cp} {m : List Int} {op : Int} {a b : Nat} {im : Int} (h : (execP c m op a b im).2.1 ≠ 0) : (execP c m op a b im).1 = c ∧ (execP c m op a b im).2.2 = m := by
  unfold execP at h ⊢
  split
  · exact ⟨rfl, rfl⟩
  rename_i h24
  rw [if_neg h24] at h
  split
  · rename_i h15
    rw [if_pos h15] at h
    split
    · rename_i h4
      rw [if_pos h4] at h
      cases hw : wordM m (atP c b im) with
      | none => exact ⟨rfl, rfl⟩
      | some v => rw [hw] at h; exact absurd rfl h
    · exact ⟨rfl, rfl⟩
  rename_i h15
  rw [if_neg h15] at h
  split
  · rename_i h16
    rw [if_pos h16] at h
    split
    · rename_i h4
      rw [if_pos h4] at h
      exact absurd rfl h
    · exact ⟨rfl, rfl⟩
  rename_i h16
  rw [if_neg h16] at h
  split
  · rename_i h17
    rw [if_pos h17] at h
    split
    · rename_i h4
      rw [if_pos h4] at h
      exact absurd rfl h
    · exact ⟨rfl, rfl⟩
  rename_i h17
  rw [if_neg h17] at h
  split
  · rename_i h18
    rw [if_pos h18] at h
    split
    · rename_i h4
      rw [if_pos h4] at h
      exact absurd rfl h
    · exact ⟨rfl, rfl⟩
  rename_i h18
  rw [if_neg h18] at h
  exfalso
  split at h
  · exact h rfl
  split at h
  · exact h rfl
  split at h <;> exact h rfl
theorem step_traps {c : Cp} {m : List Int} (h : (stepP c m).2.1 ≠ 0) : (stepP c m).1 = c ∧ (stepP c m).2.2 = m := by
  unfold stepP at h ⊢
  split
  · exact ⟨rfl, rfl⟩
  · rename_i hf
    rw [if_neg hf] at h
    exact exec_traps h
theorem getD_set_ne (m : List Int) {a i : Nat} (v : Int) (h : a ≠ i) : (m.set a v).getD i 0 = m.getD i 0 := by
  rw [List.getD_eq_getElem?_getD, List.getD_eq_getElem?_getD, List.getElem?_set_ne h]
/-- A step turns no byte but those that are told. -/
theorem exec_turns {c : Cp} {m : List Int} {op : Int} {a b : Nat} {im : Int} {i : Nat} (h : (execP c m op a b im).2.2.getD i 0 ≠ m.getD i 0) :
    (touchX c op b im).2.2 = true ∧ (touchX c op b im).1 ≤ i ∧ (i : Int) < (touchX c op b im).1 + (touchX c op b im).2.1 := by
  by_cases h16 : op = 16
  · subst h16
    have hx : execP c m 16 a b im = (if atP c b im % 4 = 0 ∧ atP c b im + 4 ≤ m.length then (c.setPc (nextP c), 0, set4 m (atP c b im) (c.r a)) else (c, 2, m)) := rfl
    rw [hx] at h
    split at h
    · have ht : touchX c 16 b im = (atP c b im, 4, true) := rfl
      rw [ht]
      refine ⟨rfl, ?_⟩
      dsimp only at h ⊢
      generalize atP c b im = q at *
      by_cases hq : q ≤ i ∧ (i : Int) < q + 4
      · exact hq
      · exfalso
        apply h
        unfold set4
        rw [getD_set_ne _ _ (by omega), getD_set_ne _ _ (by omega), getD_set_ne _ _ (by omega), getD_set_ne _ _ (by omega)]
    · exact absurd rfl h
  by_cases h18 : op = 18
  · subst h18
    have hx : execP c m 18 a b im = (if atP c b im < m.length then (c.setPc (nextP c), 0, m.set (atP c b im) (c.r a % 256)) else (c, 2, m)) := rfl
    rw [hx] at h
    split at h
    · have ht : touchX c 18 b im = (atP c b im, 1, true) := rfl
      rw [ht]
      refine ⟨rfl, ?_⟩
      dsimp only at h ⊢
      generalize atP c b im = q at *
      by_cases hq : q = i
      · omega
      · exact absurd (getD_set_ne _ _ hq) h
    · exact absurd rfl h
  exfalso
  unfold execP at h
  rw [if_neg h16, if_neg h18] at h
  split at h
  · exact h rfl
  split at h
  · split at h
    · cases hw : wordM m (atP c b im) with
      | none => rw [hw] at h; exact h rfl
      | some v => rw [hw] at h; exact h rfl
    · exact h rfl
  split at h
  · split at h <;> exact h rfl
  split at h
  · exact h rfl
  split at h
  · exact h rfl
  split at h <;> exact h rfl
theorem step_turns {c : Cp} {m : List Int} {i : Nat} (h : (stepP c m).2.2.getD i 0 ≠ m.getD i 0) : (touchP c m).2.2 = true ∧ (touchP c m).1 ≤ i ∧ (i : Int) < (touchP c m).1 + (touchP c m).2.1 := by
  unfold stepP at h
  unfold touchP
  by_cases hf : (fetchP c m).2 = 0
  · rw [if_neg (fun hn => hn hf)] at h
    rw [if_pos hf]
    exact exec_turns h
  · rw [if_pos hf] at h
    exact absurd rfl h
theorem word_same {m o : List Int} (hl : o.length = m.length) {a : Nat} (h : ∀ i : Nat, a ≤ i → i < a + 4 → i < m.length → o.getD i 0 = m.getD i 0) : wordM o a = wordM m a := by
  unfold wordM
  rw [hl]
  by_cases hf : a + 4 ≤ m.length
  · rw [if_pos hf, if_pos hf, h a (by omega) (by omega) (by omega), h (a + 1) (by omega) (by omega) (by omega), h (a + 2) (by omega) (by omega) (by omega), h (a + 3) (by omega) (by omega) (by omega)]
  · rw [if_neg hf, if_neg hf]
/-- It hangs on no byte but those of its word, and those that it reads. -/
theorem exec_hangs {c : Cp} {m o : List Int} {op : Int} {a b : Nat} {im : Int} (hl : o.length = m.length) (h : 0 < (touchX c op b im).2.1 → ∀ i : Nat, (touchX c op b im).1 ≤ i → (i : Int) < (touchX c op b im).1 + (touchX c op b im).2.1 → i < m.length → o.getD i 0 = m.getD i 0) :
    (execP c o op a b im).1 = (execP c m op a b im).1 ∧ (execP c o op a b im).2.1 = (execP c m op a b im).2.1 := by
  by_cases h15 : op = 15
  · subst h15
    have ht : touchX c 15 b im = (atP c b im, 4, false) := rfl
    rw [ht] at h
    dsimp only at h
    have hw := word_same hl (a := atP c b im) (fun i h1 h2 h3 => h (by decide) i h1 (by omega) h3)
    unfold execP
    simp only [Int.reduceEq, ↓reduceIte]
    rw [hw]
    split
    · cases wordM m (atP c b im) with
      | none => exact ⟨rfl, rfl⟩
      | some v => exact ⟨rfl, rfl⟩
    · exact ⟨rfl, rfl⟩
  by_cases h17 : op = 17
  · subst h17
    have ht : touchX c 17 b im = (atP c b im, 1, false) := rfl
    rw [ht] at h
    dsimp only at h
    have hx : ∀ m, execP c m 17 a b im = (if atP c b im < m.length then ((c.setR a (m.getD (atP c b im) 0)).setPc (nextP c), 0, m) else (c, 2, m)) := fun _ => rfl
    rw [hx o, hx m, hl]
    by_cases hf : atP c b im < m.length
    · rw [if_pos hf, if_pos hf, h (by decide) (atP c b im) (Nat.le_refl _) (by omega) hf]
      exact ⟨rfl, rfl⟩
    · rw [if_neg hf, if_neg hf]
      exact ⟨rfl, rfl⟩
  unfold execP
  rw [if_neg h15, if_neg h15, if_neg h17, if_neg h17, hl]
  split
  · exact ⟨rfl, rfl⟩
  split
  · split <;> exact ⟨rfl, rfl⟩
  split
  · split <;> exact ⟨rfl, rfl⟩
  split
  · exact ⟨rfl, rfl⟩
  split
  · exact ⟨rfl, rfl⟩
  split <;> exact ⟨rfl, rfl⟩
theorem step_hangs {c : Cp} {m o : List Int} (hl : o.length = m.length) (hp : ∀ i : Nat, c.pc.toNat ≤ i → i < c.pc.toNat + 4 → i < m.length → o.getD i 0 = m.getD i 0)
    (h : 0 < (touchP c m).2.1 → ∀ i : Nat, (touchP c m).1 ≤ i → (i : Int) < (touchP c m).1 + (touchP c m).2.1 → i < m.length → o.getD i 0 = m.getD i 0) :
    (stepP c o).1 = (stepP c m).1 ∧ (stepP c o).2.1 = (stepP c m).2.1 := by
  have hf : fetchP c o = fetchP c m := by
    unfold fetchP
    rw [word_same hl hp]
  unfold stepP
  rw [hf]
  unfold touchP at h
  by_cases h0 : (fetchP c m).2 = 0
  · rw [if_pos h0] at h
    rw [if_neg (fun hn => hn h0), if_neg (fun hn => hn h0)]
    exact exec_hangs hl h
  · rw [if_pos h0, if_pos h0]
    exact ⟨rfl, rfl⟩

/-- Step after step: the Cpu, with what the last one ended, memory. -/
noncomputable def stN (c : Cp) (m : List Int) : Nat → Cp × Int × List Int
  | 0 => (c, 0, m)
  | i + 1 => stepP (stN c m i).1 (stN c m i).2.2
theorem stN_len (c : Cp) (m : List Int) : ∀ i, (stN c m i).2.2.length = m.length
  | 0 => rfl
  | i + 1 => (step_len _ _).trans (stN_len c m i)
theorem set_low {m : List Int} (h : ∀ x ∈ m, 0 ≤ x ∧ x ≤ 255) (a : Nat) {v : Int} (hv : 0 ≤ v ∧ v ≤ 255) : ∀ x ∈ m.set a v, 0 ≤ x ∧ x ≤ 255 := fun x hx => by
  rcases List.mem_or_eq_of_mem_set hx with hx | rfl
  · exact h x hx
  · exact hv
theorem exec_low {c : Cp} (hc : c.Ok) {m : List Int} (h : ∀ x ∈ m, 0 ≤ x ∧ x ≤ 255) (op : Int) (a b : Nat) (im : Int) : ∀ x ∈ (execP c m op a b im).2.2, 0 ≤ x ∧ x ≤ 255 := by
  have hr := hc.r a
  unfold execP
  repeat' split
  all_goals first | exact h | exact set_low h _ (by omega) | exact set_low (set_low (set_low (set_low h _ (by omega)) _ (by omega)) _ (by omega)) _ (by omega)
theorem step_low {c : Cp} (hc : c.Ok) {m : List Int} (h : ∀ x ∈ m, 0 ≤ x ∧ x ≤ 255) : ∀ x ∈ (stepP c m).2.2, 0 ≤ x ∧ x ≤ 255 := by
  unfold stepP
  split
  · exact h
  · exact exec_low hc h _ _ _ _
theorem stN_ok {c : Cp} (hc : c.Ok) {m : List Int} (h : ∀ x ∈ m, 0 ≤ x ∧ x ≤ 255) : ∀ i, (stN c m i).1.Ok ∧ ∀ x ∈ (stN c m i).2.2, 0 ≤ x ∧ x ≤ 255
  | 0 => ⟨hc, h⟩
  | i + 1 => ⟨step_ok (stN_ok hc h i).1 (stN_ok hc h i).2, step_low (stN_ok hc h i).1 (stN_ok hc h i).2⟩
end
end Go.Proofs.YtoglmemmdolbmaaDoor
namespace Go.Proofs.YtoglmemmdolbmaaDoor
section
open Go.RowKit
set_option linter.unusedVariables false

/-- At most so many steps, up to the first trap: the Cpu, how many, the trap, memory. -/
noncomputable def runP (c : Cp) (m : List Int) : Nat → Cp × Nat × Int × List Int
  | 0 => (c, 0, 0, m)
  | k + 1 => if (stepP c m).2.1 ≠ 0 then ((stepP c m).1, 0, (stepP c m).2.1, (stepP c m).2.2)
    else ((runP (stepP c m).1 (stepP c m).2.2 k).1, (runP (stepP c m).1 (stepP c m).2.2 k).2.1 + 1, (runP (stepP c m).1 (stepP c m).2.2 k).2.2.1, (runP (stepP c m).1 (stepP c m).2.2 k).2.2.2)
theorem run_trap {c : Cp} {m : List Int} {k : Nat} (h : (stepP c m).2.1 ≠ 0) : runP c m (k + 1) = ((stepP c m).1, 0, (stepP c m).2.1, (stepP c m).2.2) := by
  unfold runP
  rw [if_pos h]
theorem run_more {c : Cp} {m : List Int} {k : Nat} (h : (stepP c m).2.1 = 0) : runP c m (k + 1) = ((runP (stepP c m).1 (stepP c m).2.2 k).1, (runP (stepP c m).1 (stepP c m).2.2 k).2.1 + 1, (runP (stepP c m).1 (stepP c m).2.2 k).2.2.1, (runP (stepP c m).1 (stepP c m).2.2 k).2.2.2) := by
  rw [runP, if_neg (fun hn => hn h)]
theorem stN_succ (c : Cp) (m : List Int) : ∀ i, stN c m (i + 1) = if i = 0 then stepP c m else stN (stepP c m).1 (stepP c m).2.2 i
  | 0 => rfl
  | i + 1 => by
    rw [if_neg (by omega), stN, stN_succ c m i]
    by_cases h : i = 0
    · subst h; rfl
    · rw [if_neg h]
      obtain ⟨k, rfl⟩ : ∃ k, i = k + 1 := ⟨i - 1, by omega⟩
      rfl
theorem stN_fst (c : Cp) (m : List Int) (i : Nat) : (stN c m (i + 1)).1 = (stN (stepP c m).1 (stepP c m).2.2 i).1 ∧ (stN c m (i + 1)).2.2 = (stN (stepP c m).1 (stepP c m).2.2 i).2.2 := by
  rw [stN_succ]
  by_cases h : i = 0
  · subst h; exact ⟨rfl, rfl⟩
  · rw [if_neg h]; exact ⟨rfl, rfl⟩
theorem run_stN : ∀ (j k : Nat) (c : Cp) (m : List Int), (∀ i, i < j → (stN c m (i + 1)).2.1 = 0) →
    runP c m (j + k) = ((runP (stN c m j).1 (stN c m j).2.2 k).1, (runP (stN c m j).1 (stN c m j).2.2 k).2.1 + j, (runP (stN c m j).1 (stN c m j).2.2 k).2.2.1, (runP (stN c m j).1 (stN c m j).2.2 k).2.2.2)
  | 0, k, c, m, _ => by rw [Nat.zero_add]; rfl
  | j + 1, k, c, m, h => by
    have h0 : (stepP c m).2.1 = 0 := h 0 (by omega)
    rw [show j + 1 + k = (j + k) + 1 by omega, run_more h0, run_stN j k (stepP c m).1 (stepP c m).2.2 (fun i hi => by
      have := h (i + 1) (by omega)
      rw [stN_succ, if_neg (by omega)] at this
      exact this)]
    have e := stN_fst c m j
    rw [e.1, e.2]
    rfl
/-- Behind j steps, all without a trap, one with one. -/
theorem run_ends_trap {c : Cp} {m : List Int} {j most : Nat} (h : ∀ i, i < j → (stN c m (i + 1)).2.1 = 0) (ht : (stN c m (j + 1)).2.1 ≠ 0) (hm : j < most) :
    runP c m most = ((stN c m (j + 1)).1, j, (stN c m (j + 1)).2.1, (stN c m (j + 1)).2.2) := by
  obtain ⟨k, rfl⟩ : ∃ k, most = j + (k + 1) := ⟨most - j - 1, by omega⟩
  rw [run_stN j (k + 1) c m h, run_trap ht]
  simp only [Nat.zero_add]
  rfl
theorem run_ends_most {c : Cp} {m : List Int} {most : Nat} (h : ∀ i, i < most → (stN c m (i + 1)).2.1 = 0) : runP c m most = ((stN c m most).1, most, 0, (stN c m most).2.2) := by
  have e := run_stN most 0 c m h
  rw [Nat.add_zero] at e
  rw [e]
  simp only [runP, Nat.zero_add]
theorem stN_still {c : Cp} {m : List Int} {j : Nat} (h : (stN c m (j + 1)).2.1 ≠ 0) : (stN c m (j + 1)).1 = (stN c m j).1 ∧ (stN c m (j + 1)).2.2 = (stN c m j).2.2 := step_traps h

/-- The instruction at an address of bytes. -/
def fetchAt (pc : Int) (m : List Int) : I.Ins × Int :=
  if pc % 4 = 0 then match wordM m pc.toNat with
    | none => (I.x0, 2)
    | some v => if I.MayI (I.decI v) then (I.decI v, 0) else (I.x0, 3)
  else (I.x0, 2)
theorem step_lit {c : Cp} {m : List Int} {pc op a b im : Int} (hpc : c.pc = pc) (hf : fetchAt pc m = (⟨op, a, b, im⟩, 0)) : stepP c m = execP c m op a.toNat b.toNat im := by
  have h : fetchP c m = (⟨op, a, b, im⟩, 0) := by rw [← hf, ← hpc]; rfl
  unfold stepP
  rw [h]
  rfl
theorem step_fail {c : Cp} {m : List Int} {pc t : Int} {x : I.Ins} (hpc : c.pc = pc) (hf : fetchAt pc m = (x, t)) (ht : t ≠ 0) : stepP c m = (c, t, m) := by
  have h : fetchP c m = (x, t) := by rw [← hf, ← hpc]; rfl
  unfold stepP
  rw [h]
  exact if_pos ht
end
end Go.Proofs.YtoglmemmdolbmaaDoor

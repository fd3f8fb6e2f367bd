/-
  What the document says an instruction touches is touchP. Condition: the bytes lie in a block, registers are words.
-/
import Derived.Test.YtoglmemmdolbmaaDoorCoQ
import Derived.Test.YtoglmemmdolbmaaDoorCr3
import Derived.Test.YtoglmemmdolbmaaDoorRi3
namespace Go.Proofs.YtoglmemmdolbmaaDoor
section
open Go.RowKit
set_option linter.unusedVariables false
set_option linter.unusedSimpArgs false
attribute [local go_sem] Oper.semAt_some
attribute [local irreducible] floatOfInt wz


set_option maxRecDepth 100000 in
set_option maxHeartbeats 8000000 in
theorem rt_pc {w : World} {A : Option Addr} {B cap : Nat} {c : Cp} {m : List Int} (hM : ByIn w A B cap m) (hc : c.Ok) (vv : Int) (q : Bool) (er : Int) (op xa : Int) (b : Nat) (im : Int) (hwv : (wordM m c.pc.toNat).getD 0 = vv) (hwi : (wordM m c.pc.toNat).isSome = q) (hv : I.RangeW vv) (hx : I.decO vv = ⟨op, xa, (b : Int), im⟩) (he : I.errI (I.decI vv) = er) (hz : ¬ c.pc % 4 = 0) :
    Calls Tryd.prog 14 #[.agg c.arr, .slice A m.length cap] w fun e w' => e = .returned (.tuple #[.int .u32 ((((0, 0, false) : Nat × Int × Bool)).1 : Nat), .int .i64 (((0, 0, false) : Nat × Int × Bool)).2.1, .bool (((0, 0, false) : Nat × Int × Bool)).2.2]) ∧ Below w.heap.size w w' := by
  have hb0 := bl_new (Below.refl w.heap.size w) (.cells c.arr 28)
  have hX := Blk.new w 28 c.arr
  obtain ⟨pn, hpn⟩ := Int.eq_ofNat_of_zero_le hc.p0
  have hp1 := hc.p1
  rw [hpn, Int.toNat_natCast] at hwv hwi
  have HW := Lib.hid (fun W (hW : Below w.heap.size w W) => show Calls Tryd.prog 30 #[.slice A m.length cap, .int .u32 (pn : Int)] W fun e w' => e = .returned (.tuple #[.int .u32 vv, .bool q]) ∧ w' = W from by
    have h := refWord7_any (hM.below hW) pn (by omega)
    rw [hwv, hwi] at h
    exact h)
  have HD := Lib.hid (fun W => show Calls Tryd.prog 31 #[.int .u32 vv] W fun e w' => e = .returned (.tuple #[.agg #[.int .i64 op, .int .i64 xa, .int .i64 (b : Int), .int .i64 im], .int .i64 er]) ∧ Below W.heap.size W w' from by
    have h := I.refDecode_any (w := W) I.mayC vv hv
    rw [hx, he] at h
    exact h)
  have HC := Lib.hid hc
  have HB0 := Lib.hid hb0
  have HX0 := Lib.hid hX
  have hpc := cp_pc hX
  have hlt0 := hX.lt
  rw [hpn] at hpc
  have HPN := Lib.hid hpn
  have hzm : (pn : Int).tmod 4 = (pn : Int) % 4 := Int.tmod_eq_emod_of_nonneg (by omega)
  have hpz : ¬ (pn : Int) % 4 = 0 := by rw [← hpn]; exact hz
  have hzb : ((pn : Int) % 4 != 0) = true := by simpa using hpz
  clear hz hpz
  clear hb0 hX hM hc hwv hwi hv hx he hpn
  go_enter Tryd.func14, Tryd.ntmps14
  go_wp2_with fail
  refine (HW.out _ HB0.out).mono ?_
  rintro e W0 ⟨rfl, rfl⟩
  go_wp2_with fail
  refine (HD.out _).mono ?_
  rintro e W1 ⟨rfl, hb1⟩
  have HX1 := Lib.hid (HX0.out.below hb1 HX0.out.lt)
  have HB1 := Lib.hid (bl_step HB0.out hb1)
  clear hpc hlt0 hb1 HX0 HB0 HW HD
  have hpc := cp_pc HX1.out
  have hlt0 := HX1.out.lt
  rw [HPN.out] at hpc
  go_wp2
  refine bodyPost_ret (results_tmp3 rfl _ _ _) rfl ⟨rfl, ?_⟩
  first | exact bl_new HB1.out _ | exact below_drewN (bl_new HB1.out _) _ | exact (bl_new HB1.out _).drew

set_option maxRecDepth 100000 in
set_option maxHeartbeats 8000000 in
theorem rt_none {w : World} {A : Option Addr} {B cap : Nat} {c : Cp} {m : List Int} (hM : ByIn w A B cap m) (hc : c.Ok) (vv : Int) (er : Int) (op xa : Int) (b : Nat) (im : Int) (hwv : (wordM m c.pc.toNat).getD 0 = vv) (hwi : (wordM m c.pc.toNat).isSome = false) (hv : I.RangeW vv) (hx : I.decO vv = ⟨op, xa, (b : Int), im⟩) (he : I.errI (I.decI vv) = er) (hz : c.pc % 4 = 0) :
    Calls Tryd.prog 14 #[.agg c.arr, .slice A m.length cap] w fun e w' => e = .returned (.tuple #[.int .u32 ((((0, 0, false) : Nat × Int × Bool)).1 : Nat), .int .i64 (((0, 0, false) : Nat × Int × Bool)).2.1, .bool (((0, 0, false) : Nat × Int × Bool)).2.2]) ∧ Below w.heap.size w w' := by
  have hb0 := bl_new (Below.refl w.heap.size w) (.cells c.arr 28)
  have hX := Blk.new w 28 c.arr
  obtain ⟨pn, hpn⟩ := Int.eq_ofNat_of_zero_le hc.p0
  have hp1 := hc.p1
  rw [hpn, Int.toNat_natCast] at hwv hwi
  have HW := Lib.hid (fun W (hW : Below w.heap.size w W) => show Calls Tryd.prog 30 #[.slice A m.length cap, .int .u32 (pn : Int)] W fun e w' => e = .returned (.tuple #[.int .u32 vv, .bool false]) ∧ w' = W from by
    have h := refWord7_any (hM.below hW) pn (by omega)
    rw [hwv, hwi] at h
    exact h)
  have HD := Lib.hid (fun W => show Calls Tryd.prog 31 #[.int .u32 vv] W fun e w' => e = .returned (.tuple #[.agg #[.int .i64 op, .int .i64 xa, .int .i64 (b : Int), .int .i64 im], .int .i64 er]) ∧ Below W.heap.size W w' from by
    have h := I.refDecode_any (w := W) I.mayC vv hv
    rw [hx, he] at h
    exact h)
  have HC := Lib.hid hc
  have HB0 := Lib.hid hb0
  have HX0 := Lib.hid hX
  have hpc := cp_pc hX
  have hlt0 := hX.lt
  rw [hpn] at hpc
  have HPN := Lib.hid hpn
  have hzm : (pn : Int).tmod 4 = (pn : Int) % 4 := Int.tmod_eq_emod_of_nonneg (by omega)
  have hpz : (pn : Int) % 4 = 0 := by rw [← hpn]; exact hz
  have hzb : ((pn : Int) % 4 != 0) = false := by simpa using hpz
  clear hz hpz
  clear hb0 hX hM hc hwv hwi hv hx he hpn
  go_enter Tryd.func14, Tryd.ntmps14
  go_wp2_with fail
  refine (HW.out _ HB0.out).mono ?_
  rintro e W0 ⟨rfl, rfl⟩
  go_wp2_with fail
  refine (HD.out _).mono ?_
  rintro e W1 ⟨rfl, hb1⟩
  have HX1 := Lib.hid (HX0.out.below hb1 HX0.out.lt)
  have HB1 := Lib.hid (bl_step HB0.out hb1)
  clear hpc hlt0 hb1 HX0 HB0 HW HD
  have hpc := cp_pc HX1.out
  have hlt0 := HX1.out.lt
  rw [HPN.out] at hpc
  go_wp2
  refine bodyPost_ret (results_tmp3 rfl _ _ _) rfl ⟨rfl, ?_⟩
  first | exact bl_new HB1.out _ | exact below_drewN (bl_new HB1.out _) _ | exact (bl_new HB1.out _).drew

set_option maxRecDepth 100000 in
set_option maxHeartbeats 8000000 in
theorem rt_err {w : World} {A : Option Addr} {B cap : Nat} {c : Cp} {m : List Int} (hM : ByIn w A B cap m) (hc : c.Ok) (vv : Int) (op xa : Int) (b : Nat) (im : Int) (hwv : (wordM m c.pc.toNat).getD 0 = vv) (hwi : (wordM m c.pc.toNat).isSome = true) (hv : I.RangeW vv) (hx : I.decO vv = ⟨op, xa, (b : Int), im⟩) (he : I.errI (I.decI vv) = 30) (hz : c.pc % 4 = 0) :
    Calls Tryd.prog 14 #[.agg c.arr, .slice A m.length cap] w fun e w' => e = .returned (.tuple #[.int .u32 ((((0, 0, false) : Nat × Int × Bool)).1 : Nat), .int .i64 (((0, 0, false) : Nat × Int × Bool)).2.1, .bool (((0, 0, false) : Nat × Int × Bool)).2.2]) ∧ Below w.heap.size w w' := by
  have hb0 := bl_new (Below.refl w.heap.size w) (.cells c.arr 28)
  have hX := Blk.new w 28 c.arr
  obtain ⟨pn, hpn⟩ := Int.eq_ofNat_of_zero_le hc.p0
  have hp1 := hc.p1
  rw [hpn, Int.toNat_natCast] at hwv hwi
  have HW := Lib.hid (fun W (hW : Below w.heap.size w W) => show Calls Tryd.prog 30 #[.slice A m.length cap, .int .u32 (pn : Int)] W fun e w' => e = .returned (.tuple #[.int .u32 vv, .bool true]) ∧ w' = W from by
    have h := refWord7_any (hM.below hW) pn (by omega)
    rw [hwv, hwi] at h
    exact h)
  have HD := Lib.hid (fun W => show Calls Tryd.prog 31 #[.int .u32 vv] W fun e w' => e = .returned (.tuple #[.agg #[.int .i64 op, .int .i64 xa, .int .i64 (b : Int), .int .i64 im], .int .i64 30]) ∧ Below W.heap.size W w' from by
    have h := I.refDecode_any (w := W) I.mayC vv hv
    rw [hx, he] at h
    exact h)
  have HC := Lib.hid hc
  have HB0 := Lib.hid hb0
  have HX0 := Lib.hid hX
  have hpc := cp_pc hX
  have hlt0 := hX.lt
  rw [hpn] at hpc
  have HPN := Lib.hid hpn
  have hzm : (pn : Int).tmod 4 = (pn : Int) % 4 := Int.tmod_eq_emod_of_nonneg (by omega)
  have hpz : (pn : Int) % 4 = 0 := by rw [← hpn]; exact hz
  have hzb : ((pn : Int) % 4 != 0) = false := by simpa using hpz
  clear hz hpz
  clear hb0 hX hM hc hwv hwi hv hx he hpn
  go_enter Tryd.func14, Tryd.ntmps14
  go_wp2_with fail
  refine (HW.out _ HB0.out).mono ?_
  rintro e W0 ⟨rfl, rfl⟩
  go_wp2_with fail
  refine (HD.out _).mono ?_
  rintro e W1 ⟨rfl, hb1⟩
  have HX1 := Lib.hid (HX0.out.below hb1 HX0.out.lt)
  have HB1 := Lib.hid (bl_step HB0.out hb1)
  clear hpc hlt0 hb1 HX0 HB0 HW HD
  have hpc := cp_pc HX1.out
  have hlt0 := HX1.out.lt
  rw [HPN.out] at hpc
  go_wp2
  refine bodyPost_ret (results_tmp3 rfl _ _ _) rfl ⟨rfl, ?_⟩
  first | exact bl_new HB1.out _ | exact below_drewN (bl_new HB1.out _) _ | exact (bl_new HB1.out _).drew

set_option maxRecDepth 100000 in
set_option maxHeartbeats 8000000 in
theorem rt_low {w : World} {A : Option Addr} {B cap : Nat} {c : Cp} {m : List Int} (hM : ByIn w A B cap m) (hc : c.Ok) (vv : Int) (op xa : Int) (b : Nat) (im : Int) (hwv : (wordM m c.pc.toNat).getD 0 = vv) (hwi : (wordM m c.pc.toNat).isSome = true) (hv : I.RangeW vv) (hx : I.decO vv = ⟨op, xa, (b : Int), im⟩) (he : I.errI (I.decI vv) = 0) (hz : c.pc % 4 = 0) (ho : op < 15) :
    Calls Tryd.prog 14 #[.agg c.arr, .slice A m.length cap] w fun e w' => e = .returned (.tuple #[.int .u32 ((((0, 0, false) : Nat × Int × Bool)).1 : Nat), .int .i64 (((0, 0, false) : Nat × Int × Bool)).2.1, .bool (((0, 0, false) : Nat × Int × Bool)).2.2]) ∧ Below w.heap.size w w' := by
  have hb0 := bl_new (Below.refl w.heap.size w) (.cells c.arr 28)
  have hX := Blk.new w 28 c.arr
  obtain ⟨pn, hpn⟩ := Int.eq_ofNat_of_zero_le hc.p0
  have hp1 := hc.p1
  rw [hpn, Int.toNat_natCast] at hwv hwi
  have HW := Lib.hid (fun W (hW : Below w.heap.size w W) => show Calls Tryd.prog 30 #[.slice A m.length cap, .int .u32 (pn : Int)] W fun e w' => e = .returned (.tuple #[.int .u32 vv, .bool true]) ∧ w' = W from by
    have h := refWord7_any (hM.below hW) pn (by omega)
    rw [hwv, hwi] at h
    exact h)
  have HD := Lib.hid (fun W => show Calls Tryd.prog 31 #[.int .u32 vv] W fun e w' => e = .returned (.tuple #[.agg #[.int .i64 op, .int .i64 xa, .int .i64 (b : Int), .int .i64 im], .int .i64 0]) ∧ Below W.heap.size W w' from by
    have h := I.refDecode_any (w := W) I.mayC vv hv
    rw [hx, he] at h
    exact h)
  have HC := Lib.hid hc
  have HB0 := Lib.hid hb0
  have HX0 := Lib.hid hX
  have hpc := cp_pc hX
  have hlt0 := hX.lt
  rw [hpn] at hpc
  have HPN := Lib.hid hpn
  have hzm : (pn : Int).tmod 4 = (pn : Int) % 4 := Int.tmod_eq_emod_of_nonneg (by omega)
  have hpz : (pn : Int) % 4 = 0 := by rw [← hpn]; exact hz
  have hzb : ((pn : Int) % 4 != 0) = false := by simpa using hpz
  clear hz hpz
  clear hb0 hX hM hc hwv hwi hv hx he hpn
  go_enter Tryd.func14, Tryd.ntmps14
  go_wp2_with fail
  refine (HW.out _ HB0.out).mono ?_
  rintro e W0 ⟨rfl, rfl⟩
  go_wp2_with fail
  refine (HD.out _).mono ?_
  rintro e W1 ⟨rfl, hb1⟩
  have HX1 := Lib.hid (HX0.out.below hb1 HX0.out.lt)
  have HB1 := Lib.hid (bl_step HB0.out hb1)
  clear hpc hlt0 hb1 HX0 HB0 HW HD
  have hpc := cp_pc HX1.out
  have hlt0 := HX1.out.lt
  rw [HPN.out] at hpc
  go_wp2
  refine bodyPost_ret (results_tmp3 rfl _ _ _) rfl ⟨rfl, ?_⟩
  first | exact bl_new HB1.out _ | exact below_drewN (bl_new HB1.out _) _ | exact (bl_new HB1.out _).drew

set_option maxRecDepth 100000 in
set_option maxHeartbeats 8000000 in
theorem rt_high {w : World} {A : Option Addr} {B cap : Nat} {c : Cp} {m : List Int} (hM : ByIn w A B cap m) (hc : c.Ok) (vv : Int) (op xa : Int) (b : Nat) (im : Int) (hwv : (wordM m c.pc.toNat).getD 0 = vv) (hwi : (wordM m c.pc.toNat).isSome = true) (hv : I.RangeW vv) (hx : I.decO vv = ⟨op, xa, (b : Int), im⟩) (he : I.errI (I.decI vv) = 0) (hz : c.pc % 4 = 0) (ho : 18 < op) :
    Calls Tryd.prog 14 #[.agg c.arr, .slice A m.length cap] w fun e w' => e = .returned (.tuple #[.int .u32 ((((0, 0, false) : Nat × Int × Bool)).1 : Nat), .int .i64 (((0, 0, false) : Nat × Int × Bool)).2.1, .bool (((0, 0, false) : Nat × Int × Bool)).2.2]) ∧ Below w.heap.size w w' := by
  have hb0 := bl_new (Below.refl w.heap.size w) (.cells c.arr 28)
  have hX := Blk.new w 28 c.arr
  obtain ⟨pn, hpn⟩ := Int.eq_ofNat_of_zero_le hc.p0
  have hp1 := hc.p1
  rw [hpn, Int.toNat_natCast] at hwv hwi
  have HW := Lib.hid (fun W (hW : Below w.heap.size w W) => show Calls Tryd.prog 30 #[.slice A m.length cap, .int .u32 (pn : Int)] W fun e w' => e = .returned (.tuple #[.int .u32 vv, .bool true]) ∧ w' = W from by
    have h := refWord7_any (hM.below hW) pn (by omega)
    rw [hwv, hwi] at h
    exact h)
  have HD := Lib.hid (fun W => show Calls Tryd.prog 31 #[.int .u32 vv] W fun e w' => e = .returned (.tuple #[.agg #[.int .i64 op, .int .i64 xa, .int .i64 (b : Int), .int .i64 im], .int .i64 0]) ∧ Below W.heap.size W w' from by
    have h := I.refDecode_any (w := W) I.mayC vv hv
    rw [hx, he] at h
    exact h)
  have HC := Lib.hid hc
  have HB0 := Lib.hid hb0
  have HX0 := Lib.hid hX
  have hpc := cp_pc hX
  have hlt0 := hX.lt
  rw [hpn] at hpc
  have HPN := Lib.hid hpn
  have hzm : (pn : Int).tmod 4 = (pn : Int) % 4 := Int.tmod_eq_emod_of_nonneg (by omega)
  have hpz : (pn : Int) % 4 = 0 := by rw [← hpn]; exact hz
  have hzb : ((pn : Int) % 4 != 0) = false := by simpa using hpz
  clear hz hpz
  have ho2 : ¬ op < 15 := by omega
  clear hb0 hX hM hc hwv hwi hv hx he hpn
  go_enter Tryd.func14, Tryd.ntmps14
  go_wp2_with fail
  refine (HW.out _ HB0.out).mono ?_
  rintro e W0 ⟨rfl, rfl⟩
  go_wp2_with fail
  refine (HD.out _).mono ?_
  rintro e W1 ⟨rfl, hb1⟩
  have HX1 := Lib.hid (HX0.out.below hb1 HX0.out.lt)
  have HB1 := Lib.hid (bl_step HB0.out hb1)
  clear hpc hlt0 hb1 HX0 HB0 HW HD
  have hpc := cp_pc HX1.out
  have hlt0 := HX1.out.lt
  rw [HPN.out] at hpc
  go_wp2
  refine bodyPost_ret (results_tmp3 rfl _ _ _) rfl ⟨rfl, ?_⟩
  first | exact bl_new HB1.out _ | exact below_drewN (bl_new HB1.out _) _ | exact (bl_new HB1.out _).drew

set_option maxRecDepth 100000 in
set_option maxHeartbeats 8000000 in
theorem rt_15 {w : World} {A : Option Addr} {B cap : Nat} {c : Cp} {m : List Int} (hM : ByIn w A B cap m) (hc : c.Ok) (vv : Int) (xa : Int) (b : Nat) (im : Int) (hwv : (wordM m c.pc.toNat).getD 0 = vv) (hwi : (wordM m c.pc.toNat).isSome = true) (hv : I.RangeW vv) (hx : I.decO vv = ⟨15, xa, (b : Int), im⟩) (he : I.errI (I.decI vv) = 0) (hz : c.pc % 4 = 0) (hb : b < 8) (hi : -32768 ≤ im ∧ im ≤ 32767) :
    Calls Tryd.prog 14 #[.agg c.arr, .slice A m.length cap] w fun e w' => e = .returned (.tuple #[.int .u32 ((((atP c b im, 4, false) : Nat × Int × Bool)).1 : Nat), .int .i64 (((atP c b im, 4, false) : Nat × Int × Bool)).2.1, .bool (((atP c b im, 4, false) : Nat × Int × Bool)).2.2]) ∧ Below w.heap.size w w' := by
  have hb0 := bl_new (Below.refl w.heap.size w) (.cells c.arr 28)
  have hX := Blk.new w 28 c.arr
  obtain ⟨pn, hpn⟩ := Int.eq_ofNat_of_zero_le hc.p0
  have hp1 := hc.p1
  rw [hpn, Int.toNat_natCast] at hwv hwi
  have HW := Lib.hid (fun W (hW : Below w.heap.size w W) => show Calls Tryd.prog 30 #[.slice A m.length cap, .int .u32 (pn : Int)] W fun e w' => e = .returned (.tuple #[.int .u32 vv, .bool true]) ∧ w' = W from by
    have h := refWord7_any (hM.below hW) pn (by omega)
    rw [hwv, hwi] at h
    exact h)
  have HD := Lib.hid (fun W => show Calls Tryd.prog 31 #[.int .u32 vv] W fun e w' => e = .returned (.tuple #[.agg #[.int .i64 15, .int .i64 xa, .int .i64 (b : Int), .int .i64 im], .int .i64 0]) ∧ Below W.heap.size W w' from by
    have h := I.refDecode_any (w := W) I.mayC vv hv
    rw [hx, he] at h
    exact h)
  have HC := Lib.hid hc
  have HB0 := Lib.hid hb0
  have HX0 := Lib.hid hX
  have hpc := cp_pc hX
  have hlt0 := hX.lt
  rw [hpn] at hpc
  have HPN := Lib.hid hpn
  have hzm : (pn : Int).tmod 4 = (pn : Int) % 4 := Int.tmod_eq_emod_of_nonneg (by omega)
  have hpz : (pn : Int) % 4 = 0 := by rw [← hpn]; exact hz
  have hzb : ((pn : Int) % 4 != 0) = false := by simpa using hpz
  clear hz hpz
  clear hb0 hX hM hc hwv hwi hv hx he hpn
  go_enter Tryd.func14, Tryd.ntmps14
  go_wp2_with fail
  refine (HW.out _ HB0.out).mono ?_
  rintro e W0 ⟨rfl, rfl⟩
  go_wp2_with fail
  refine (HD.out _).mono ?_
  rintro e W1 ⟨rfl, hb1⟩
  have HX1 := Lib.hid (HX0.out.below hb1 HX0.out.lt)
  have HB1 := Lib.hid (bl_step HB0.out hb1)
  clear hpc hlt0 hb1 HX0 HB0 HW HD
  have hpc := cp_pc HX1.out
  have hlt0 := HX1.out.lt
  rw [HPN.out] at hpc
  have hbb : (b : Int) < 8 := by omega
  have hrb := cp_reg HX1.out hb
  have hat := at_eq c b im
  have hrr := HC.out.r b
  obtain ⟨rb, hrv⟩ : ∃ rb, c.r b = rb := ⟨_, rfl⟩
  rw [hrv] at hat hrb hrr
  obtain ⟨hr0, hr1⟩ := hrr
  have HAT := Lib.hid hat
  have HIM := Lib.hid (fun W => refImm_any (w := W) im hi.1 hi.2)
  have hv0 : 0 ≤ im % 4294967296 := by omega
  have hv1 : im % 4294967296 < 4294967296 := by omega
  have HRV := Lib.hid hrv
  clear hrv hi
  generalize im % 4294967296 = iv at *
  go_upto_region 8 with (fail)
  have HI1 := Lib.hid (show Blk (W1.alloc (.cells #[.int .i64 15, .int .i64 xa, .int .i64 (b : Int), .int .i64 im] 38)).drew W1.heap.size 38 #[.int .i64 15, .int .i64 xa, .int .i64 (b : Int), .int .i64 im] from (Blk.new W1 _ _).drew)
  have HRB := Lib.hid (show (W1.alloc (.cells #[.int .i64 15, .int .i64 xa, .int .i64 (b : Int), .int .i64 im] 38)).drew.cell? ⟨w.heap.size, b, none⟩ = some (.int .u32 rb) from by
    have h := cp_reg (HX1.out.alloc (.cells #[.int .i64 15, .int .i64 xa, .int .i64 (b : Int), .int .i64 im] 38)).drew hb
    rw [HRV.out] at h
    exact h)
  refine wp_region_held_drew (S := (fun W => W.cell? ⟨W1.heap.size, 0, none⟩ = some (.int .i64 15) ∧ W.cell? ⟨W1.heap.size, 2, none⟩ = some (.int .i64 (b : Int)) ∧ W.cell? ⟨W1.heap.size, 3, none⟩ = some (.int .i64 im) ∧ W.cell? ⟨w.heap.size, b, none⟩ = some (.int .u32 rb))) (by kernel_rfl) (⟨(ccells HI1.out).1, (ccells HI1.out).2.2.1, (ccells HI1.out).2.2.2.1, HRB.out⟩) (fun hS => ?_)
  refine wpAnyH_take (i := 0) (v := ?_) rfl (by kernel_rfl) (by kernel_rfl) (by kernel_rfl) (fun _ _ _ h => h) (Or.inl ⟨by kernel_rfl, ?_⟩) hS ?_
  rotate_left 1
  · rintro w ⟨h1, h2, h3, h4⟩
    go_simp
    all_goals with_reducible rfl
  refine wpAnyH_take (i := 1) (v := ?_) rfl (by kernel_rfl) (by kernel_rfl) (by kernel_rfl) (fun _ _ _ h => h) (Or.inl ⟨by kernel_rfl, ?_⟩) hS ?_
  rotate_left 1
  · rintro w ⟨h1, h2, h3, h4⟩
    go_simp
    all_goals with_reducible rfl
  refine wpAnyH_take (i := 2) (v := ?_) rfl (by kernel_rfl) (by kernel_rfl) (by kernel_rfl) (fun _ _ _ h => h) (Or.inl ⟨by kernel_rfl, ?_⟩) hS ?_
  rotate_left 1
  · rintro w ⟨h1, h2, h3, h4⟩
    go_simp
    all_goals with_reducible rfl
  refine wpAnyH_take (i := 3) (v := ?_) rfl (by kernel_rfl) (by kernel_rfl) (by kernel_rfl) (fun _ _ _ h => h) (Or.inl ⟨by kernel_rfl, ?_⟩) hS ?_
  rotate_left 1
  · rintro w ⟨h1, h2, h3, h4⟩
    go_simp
    all_goals with_reducible rfl
  refine wpAnyH_take (i := 4) (v := ?_) rfl (by kernel_rfl) (by kernel_rfl) (by kernel_rfl) (fun _ _ _ h => h) (Or.inl ⟨by kernel_rfl, ?_⟩) hS ?_
  rotate_left 1
  · rintro w ⟨h1, h2, h3, h4⟩
    go_simp
    all_goals with_reducible rfl
  refine wpAnyH_take (i := 5) (v := ?_) rfl (by kernel_rfl) (by kernel_rfl) (by kernel_rfl) (fun _ _ _ h => h) (Or.inl ⟨by kernel_rfl, ?_⟩) hS ?_
  rotate_left 1
  · rintro w ⟨h1, h2, h3, h4⟩
    go_simp
    all_goals with_reducible rfl
  refine wpAnyH_take (i := 6) (v := ?_) rfl (by kernel_rfl) (by kernel_rfl) (by kernel_rfl) (fun _ _ _ h => h) (Or.inl ⟨by kernel_rfl, ?_⟩) hS ?_
  rotate_left 1
  · rintro w ⟨h1, h2, h3, h4⟩
    go_simp
    all_goals with_reducible rfl
  refine wpAnyH_take (i := 9) (v := ?_) rfl (by kernel_rfl) (by kernel_rfl) (by kernel_rfl) (fun _ _ _ h => h) (Or.inl ⟨by kernel_rfl, ?_⟩) hS ?_
  rotate_left 1
  · rintro w ⟨h1, h2, h3, h4⟩
    go_simp
    all_goals with_reducible rfl
  refine wpAnyH_take (i := 10) (v := ?_) rfl (by kernel_rfl) (by kernel_rfl) (by kernel_rfl) (fun _ _ _ h => h) (Or.inl ⟨by kernel_rfl, ?_⟩) hS ?_
  rotate_left 1
  · rintro w ⟨h1, h2, h3, h4⟩
    go_simp
    all_goals with_reducible rfl
  refine wpAnyH_take (i := 11) (v := ?_) rfl (by kernel_rfl) (by kernel_rfl) (by kernel_rfl) (fun _ _ _ h => h) (Or.inl ⟨by kernel_rfl, ?_⟩) hS ?_
  rotate_left 1
  · rintro w ⟨h1, h2, h3, h4⟩
    go_simp
    all_goals with_reducible rfl
  refine wpAnyH_take (i := 12) (v := ?_) rfl (by kernel_rfl) (by kernel_rfl) (by kernel_rfl) (fun _ _ _ h => h) (Or.inl ⟨by kernel_rfl, ?_⟩) hS ?_
  rotate_left 1
  · rintro w ⟨h1, h2, h3, h4⟩
    go_simp
    all_goals with_reducible rfl
  refine wpAnyH_ready (rs := [7]) (by kernel_rfl) (by simp) ?_
  refine AllReadyH.cons rfl (fun K hK => ?_) AllReadyH.nil
  go_simp
  refine (HIM.out _).mono ?_
  rintro e V0 ⟨rfl, rfl⟩
  refine hK.out _ _ (hS) (fun hS => ?_)
  clear hK K
  refine wpAnyH_take (i := 8) (v := ?_) rfl (by kernel_rfl) (by kernel_rfl) (by kernel_rfl) (fun _ _ _ h => h) (Or.inl ⟨by kernel_rfl, ?_⟩) hS ?_
  rotate_left 1
  · rintro w ⟨h1, h2, h3, h4⟩
    go_simp
    all_goals with_reducible rfl
  refine wpAnyH_take (i := 13) (v := ?_) rfl (by kernel_rfl) (by kernel_rfl) (by kernel_rfl) (fun _ _ _ h => h) (Or.inl ⟨by kernel_rfl, ?_⟩) hS ?_
  rotate_left 1
  · rintro w ⟨h1, h2, h3, h4⟩
    go_simp
    all_goals with_reducible rfl
  refine wpAnyH_take (i := 14) (v := ?_) rfl (by kernel_rfl) (by kernel_rfl) (by kernel_rfl) (fun _ _ _ h => h) (Or.inl ⟨by kernel_rfl, ?_⟩) hS ?_
  rotate_left 1
  · rintro w ⟨h1, h2, h3, h4⟩
    go_simp
    all_goals with_reducible rfl
  refine wpAnyH_take (i := 15) (v := ?_) rfl (by kernel_rfl) (by kernel_rfl) (by kernel_rfl) (fun _ _ _ h => h) (Or.inl ⟨by kernel_rfl, ?_⟩) hS ?_
  rotate_left 1
  · rintro w ⟨h1, h2, h3, h4⟩
    go_simp
    all_goals with_reducible rfl
  refine wpAnyH_take (i := 16) (v := ?_) rfl (by kernel_rfl) (by kernel_rfl) (by kernel_rfl) (fun _ _ _ h => h) (Or.inl ⟨by kernel_rfl, ?_⟩) hS ?_
  rotate_left 1
  · rintro w ⟨h1, h2, h3, h4⟩
    go_simp
    all_goals with_reducible rfl
  refine wpAnyH_take (i := 17) (v := ?_) rfl (by kernel_rfl) (by kernel_rfl) (by kernel_rfl) (fun _ _ _ h => h) (Or.inl ⟨by kernel_rfl, ?_⟩) hS ?_
  rotate_left 1
  · rintro w ⟨h1, h2, h3, h4⟩
    go_simp
    all_goals with_reducible rfl
  refine wpAnyH_take (i := 18) (v := ?_) rfl (by kernel_rfl) (by kernel_rfl) (by kernel_rfl) (fun _ _ _ h => h) (Or.inl ⟨by kernel_rfl, ?_⟩) hS ?_
  rotate_left 1
  · rintro w ⟨h1, h2, h3, h4⟩
    go_simp
    all_goals with_reducible rfl
  refine wpAnyH_take (i := 19) (v := ?_) rfl (by kernel_rfl) (by kernel_rfl) (by kernel_rfl) (fun _ _ _ h => h) (Or.inl ⟨by kernel_rfl, ?_⟩) hS ?_
  rotate_left 1
  · rintro w ⟨h1, h2, h3, h4⟩
    go_simp
    all_goals with_reducible rfl
  refine wpAnyH_take (i := 20) (v := ?_) rfl (by kernel_rfl) (by kernel_rfl) (by kernel_rfl) (fun _ _ _ h => h) (Or.inl ⟨by kernel_rfl, ?_⟩) hS ?_
  rotate_left 1
  · rintro w ⟨h1, h2, h3, h4⟩
    go_simp
    all_goals with_reducible rfl
  refine wpAnyH_done (by kernel_rfl) ?_ _
  go_wp2
  refine bodyPost_ret (results_tmp3 rfl _ _ _) rfl ⟨?_, ?_⟩
  · go_simp
    exact HAT.out
  first | exact bl_new HB1.out _ | exact below_drewN (bl_new HB1.out _) _ | exact (bl_new HB1.out _).drew

set_option maxRecDepth 100000 in
set_option maxHeartbeats 8000000 in
theorem rt_16 {w : World} {A : Option Addr} {B cap : Nat} {c : Cp} {m : List Int} (hM : ByIn w A B cap m) (hc : c.Ok) (vv : Int) (xa : Int) (b : Nat) (im : Int) (hwv : (wordM m c.pc.toNat).getD 0 = vv) (hwi : (wordM m c.pc.toNat).isSome = true) (hv : I.RangeW vv) (hx : I.decO vv = ⟨16, xa, (b : Int), im⟩) (he : I.errI (I.decI vv) = 0) (hz : c.pc % 4 = 0) (hb : b < 8) (hi : -32768 ≤ im ∧ im ≤ 32767) :
    Calls Tryd.prog 14 #[.agg c.arr, .slice A m.length cap] w fun e w' => e = .returned (.tuple #[.int .u32 ((((atP c b im, 4, true) : Nat × Int × Bool)).1 : Nat), .int .i64 (((atP c b im, 4, true) : Nat × Int × Bool)).2.1, .bool (((atP c b im, 4, true) : Nat × Int × Bool)).2.2]) ∧ Below w.heap.size w w' := by
  have hb0 := bl_new (Below.refl w.heap.size w) (.cells c.arr 28)
  have hX := Blk.new w 28 c.arr
  obtain ⟨pn, hpn⟩ := Int.eq_ofNat_of_zero_le hc.p0
  have hp1 := hc.p1
  rw [hpn, Int.toNat_natCast] at hwv hwi
  have HW := Lib.hid (fun W (hW : Below w.heap.size w W) => show Calls Tryd.prog 30 #[.slice A m.length cap, .int .u32 (pn : Int)] W fun e w' => e = .returned (.tuple #[.int .u32 vv, .bool true]) ∧ w' = W from by
    have h := refWord7_any (hM.below hW) pn (by omega)
    rw [hwv, hwi] at h
    exact h)
  have HD := Lib.hid (fun W => show Calls Tryd.prog 31 #[.int .u32 vv] W fun e w' => e = .returned (.tuple #[.agg #[.int .i64 16, .int .i64 xa, .int .i64 (b : Int), .int .i64 im], .int .i64 0]) ∧ Below W.heap.size W w' from by
    have h := I.refDecode_any (w := W) I.mayC vv hv
    rw [hx, he] at h
    exact h)
  have HC := Lib.hid hc
  have HB0 := Lib.hid hb0
  have HX0 := Lib.hid hX
  have hpc := cp_pc hX
  have hlt0 := hX.lt
  rw [hpn] at hpc
  have HPN := Lib.hid hpn
  have hzm : (pn : Int).tmod 4 = (pn : Int) % 4 := Int.tmod_eq_emod_of_nonneg (by omega)
  have hpz : (pn : Int) % 4 = 0 := by rw [← hpn]; exact hz
  have hzb : ((pn : Int) % 4 != 0) = false := by simpa using hpz
  clear hz hpz
  clear hb0 hX hM hc hwv hwi hv hx he hpn
  go_enter Tryd.func14, Tryd.ntmps14
  go_wp2_with fail
  refine (HW.out _ HB0.out).mono ?_
  rintro e W0 ⟨rfl, rfl⟩
  go_wp2_with fail
  refine (HD.out _).mono ?_
  rintro e W1 ⟨rfl, hb1⟩
  have HX1 := Lib.hid (HX0.out.below hb1 HX0.out.lt)
  have HB1 := Lib.hid (bl_step HB0.out hb1)
  clear hpc hlt0 hb1 HX0 HB0 HW HD
  have hpc := cp_pc HX1.out
  have hlt0 := HX1.out.lt
  rw [HPN.out] at hpc
  have hbb : (b : Int) < 8 := by omega
  have hrb := cp_reg HX1.out hb
  have hat := at_eq c b im
  have hrr := HC.out.r b
  obtain ⟨rb, hrv⟩ : ∃ rb, c.r b = rb := ⟨_, rfl⟩
  rw [hrv] at hat hrb hrr
  obtain ⟨hr0, hr1⟩ := hrr
  have HAT := Lib.hid hat
  have HIM := Lib.hid (fun W => refImm_any (w := W) im hi.1 hi.2)
  have hv0 : 0 ≤ im % 4294967296 := by omega
  have hv1 : im % 4294967296 < 4294967296 := by omega
  have HRV := Lib.hid hrv
  clear hrv hi
  generalize im % 4294967296 = iv at *
  go_upto_region 8 with (fail)
  have HI1 := Lib.hid (show Blk (W1.alloc (.cells #[.int .i64 16, .int .i64 xa, .int .i64 (b : Int), .int .i64 im] 38)).drew W1.heap.size 38 #[.int .i64 16, .int .i64 xa, .int .i64 (b : Int), .int .i64 im] from (Blk.new W1 _ _).drew)
  have HRB := Lib.hid (show (W1.alloc (.cells #[.int .i64 16, .int .i64 xa, .int .i64 (b : Int), .int .i64 im] 38)).drew.cell? ⟨w.heap.size, b, none⟩ = some (.int .u32 rb) from by
    have h := cp_reg (HX1.out.alloc (.cells #[.int .i64 16, .int .i64 xa, .int .i64 (b : Int), .int .i64 im] 38)).drew hb
    rw [HRV.out] at h
    exact h)
  refine wp_region_held_drew (S := (fun W => W.cell? ⟨W1.heap.size, 0, none⟩ = some (.int .i64 16) ∧ W.cell? ⟨W1.heap.size, 2, none⟩ = some (.int .i64 (b : Int)) ∧ W.cell? ⟨W1.heap.size, 3, none⟩ = some (.int .i64 im) ∧ W.cell? ⟨w.heap.size, b, none⟩ = some (.int .u32 rb))) (by kernel_rfl) (⟨(ccells HI1.out).1, (ccells HI1.out).2.2.1, (ccells HI1.out).2.2.2.1, HRB.out⟩) (fun hS => ?_)
  refine wpAnyH_take (i := 0) (v := ?_) rfl (by kernel_rfl) (by kernel_rfl) (by kernel_rfl) (fun _ _ _ h => h) (Or.inl ⟨by kernel_rfl, ?_⟩) hS ?_
  rotate_left 1
  · rintro w ⟨h1, h2, h3, h4⟩
    go_simp
    all_goals with_reducible rfl
  refine wpAnyH_take (i := 1) (v := ?_) rfl (by kernel_rfl) (by kernel_rfl) (by kernel_rfl) (fun _ _ _ h => h) (Or.inl ⟨by kernel_rfl, ?_⟩) hS ?_
  rotate_left 1
  · rintro w ⟨h1, h2, h3, h4⟩
    go_simp
    all_goals with_reducible rfl
  refine wpAnyH_take (i := 2) (v := ?_) rfl (by kernel_rfl) (by kernel_rfl) (by kernel_rfl) (fun _ _ _ h => h) (Or.inl ⟨by kernel_rfl, ?_⟩) hS ?_
  rotate_left 1
  · rintro w ⟨h1, h2, h3, h4⟩
    go_simp
    all_goals with_reducible rfl
  refine wpAnyH_take (i := 3) (v := ?_) rfl (by kernel_rfl) (by kernel_rfl) (by kernel_rfl) (fun _ _ _ h => h) (Or.inl ⟨by kernel_rfl, ?_⟩) hS ?_
  rotate_left 1
  · rintro w ⟨h1, h2, h3, h4⟩
    go_simp
    all_goals with_reducible rfl
  refine wpAnyH_take (i := 4) (v := ?_) rfl (by kernel_rfl) (by kernel_rfl) (by kernel_rfl) (fun _ _ _ h => h) (Or.inl ⟨by kernel_rfl, ?_⟩) hS ?_
  rotate_left 1
  · rintro w ⟨h1, h2, h3, h4⟩
    go_simp
    all_goals with_reducible rfl
  refine wpAnyH_take (i := 5) (v := ?_) rfl (by kernel_rfl) (by kernel_rfl) (by kernel_rfl) (fun _ _ _ h => h) (Or.inl ⟨by kernel_rfl, ?_⟩) hS ?_
  rotate_left 1
  · rintro w ⟨h1, h2, h3, h4⟩
    go_simp
    all_goals with_reducible rfl
  refine wpAnyH_take (i := 6) (v := ?_) rfl (by kernel_rfl) (by kernel_rfl) (by kernel_rfl) (fun _ _ _ h => h) (Or.inl ⟨by kernel_rfl, ?_⟩) hS ?_
  rotate_left 1
  · rintro w ⟨h1, h2, h3, h4⟩
    go_simp
    all_goals with_reducible rfl
  refine wpAnyH_take (i := 9) (v := ?_) rfl (by kernel_rfl) (by kernel_rfl) (by kernel_rfl) (fun _ _ _ h => h) (Or.inl ⟨by kernel_rfl, ?_⟩) hS ?_
  rotate_left 1
  · rintro w ⟨h1, h2, h3, h4⟩
    go_simp
    all_goals with_reducible rfl
  refine wpAnyH_take (i := 10) (v := ?_) rfl (by kernel_rfl) (by kernel_rfl) (by kernel_rfl) (fun _ _ _ h => h) (Or.inl ⟨by kernel_rfl, ?_⟩) hS ?_
  rotate_left 1
  · rintro w ⟨h1, h2, h3, h4⟩
    go_simp
    all_goals with_reducible rfl
  refine wpAnyH_take (i := 11) (v := ?_) rfl (by kernel_rfl) (by kernel_rfl) (by kernel_rfl) (fun _ _ _ h => h) (Or.inl ⟨by kernel_rfl, ?_⟩) hS ?_
  rotate_left 1
  · rintro w ⟨h1, h2, h3, h4⟩
    go_simp
    all_goals with_reducible rfl
  refine wpAnyH_take (i := 12) (v := ?_) rfl (by kernel_rfl) (by kernel_rfl) (by kernel_rfl) (fun _ _ _ h => h) (Or.inl ⟨by kernel_rfl, ?_⟩) hS ?_
  rotate_left 1
  · rintro w ⟨h1, h2, h3, h4⟩
    go_simp
    all_goals with_reducible rfl
  refine wpAnyH_ready (rs := [7]) (by kernel_rfl) (by simp) ?_
  refine AllReadyH.cons rfl (fun K hK => ?_) AllReadyH.nil
  go_simp
  refine (HIM.out _).mono ?_
  rintro e V0 ⟨rfl, rfl⟩
  refine hK.out _ _ (hS) (fun hS => ?_)
  clear hK K
  refine wpAnyH_take (i := 8) (v := ?_) rfl (by kernel_rfl) (by kernel_rfl) (by kernel_rfl) (fun _ _ _ h => h) (Or.inl ⟨by kernel_rfl, ?_⟩) hS ?_
  rotate_left 1
  · rintro w ⟨h1, h2, h3, h4⟩
    go_simp
    all_goals with_reducible rfl
  refine wpAnyH_take (i := 13) (v := ?_) rfl (by kernel_rfl) (by kernel_rfl) (by kernel_rfl) (fun _ _ _ h => h) (Or.inl ⟨by kernel_rfl, ?_⟩) hS ?_
  rotate_left 1
  · rintro w ⟨h1, h2, h3, h4⟩
    go_simp
    all_goals with_reducible rfl
  refine wpAnyH_take (i := 14) (v := undef) rfl (by kernel_rfl) (by kernel_rfl) (by kernel_rfl) (fun _ _ _ h => h) (Or.inr ⟨by kernel_rfl, rfl⟩) hS ?_
  refine wpAnyH_take (i := 15) (v := undef) rfl (by kernel_rfl) (by kernel_rfl) (by kernel_rfl) (fun _ _ _ h => h) (Or.inr ⟨by kernel_rfl, rfl⟩) hS ?_
  refine wpAnyH_take (i := 16) (v := undef) rfl (by kernel_rfl) (by kernel_rfl) (by kernel_rfl) (fun _ _ _ h => h) (Or.inr ⟨by kernel_rfl, rfl⟩) hS ?_
  refine wpAnyH_take (i := 17) (v := ?_) rfl (by kernel_rfl) (by kernel_rfl) (by kernel_rfl) (fun _ _ _ h => h) (Or.inl ⟨by kernel_rfl, ?_⟩) hS ?_
  rotate_left 1
  · rintro w ⟨h1, h2, h3, h4⟩
    go_simp
    all_goals with_reducible rfl
  refine wpAnyH_take (i := 18) (v := ?_) rfl (by kernel_rfl) (by kernel_rfl) (by kernel_rfl) (fun _ _ _ h => h) (Or.inl ⟨by kernel_rfl, ?_⟩) hS ?_
  rotate_left 1
  · rintro w ⟨h1, h2, h3, h4⟩
    go_simp
    all_goals with_reducible rfl
  refine wpAnyH_take (i := 19) (v := ?_) rfl (by kernel_rfl) (by kernel_rfl) (by kernel_rfl) (fun _ _ _ h => h) (Or.inl ⟨by kernel_rfl, ?_⟩) hS ?_
  rotate_left 1
  · rintro w ⟨h1, h2, h3, h4⟩
    go_simp
    all_goals with_reducible rfl
  refine wpAnyH_take (i := 20) (v := ?_) rfl (by kernel_rfl) (by kernel_rfl) (by kernel_rfl) (fun _ _ _ h => h) (Or.inl ⟨by kernel_rfl, ?_⟩) hS ?_
  rotate_left 1
  · rintro w ⟨h1, h2, h3, h4⟩
    go_simp
    all_goals with_reducible rfl
  refine wpAnyH_done (by kernel_rfl) ?_ _
  go_wp2
  refine bodyPost_ret (results_tmp3 rfl _ _ _) rfl ⟨?_, ?_⟩
  · go_simp
    exact HAT.out
  first | exact bl_new HB1.out _ | exact below_drewN (bl_new HB1.out _) _ | exact (bl_new HB1.out _).drew

set_option maxRecDepth 100000 in
set_option maxHeartbeats 8000000 in
theorem rt_17 {w : World} {A : Option Addr} {B cap : Nat} {c : Cp} {m : List Int} (hM : ByIn w A B cap m) (hc : c.Ok) (vv : Int) (xa : Int) (b : Nat) (im : Int) (hwv : (wordM m c.pc.toNat).getD 0 = vv) (hwi : (wordM m c.pc.toNat).isSome = true) (hv : I.RangeW vv) (hx : I.decO vv = ⟨17, xa, (b : Int), im⟩) (he : I.errI (I.decI vv) = 0) (hz : c.pc % 4 = 0) (hb : b < 8) (hi : -32768 ≤ im ∧ im ≤ 32767) :
    Calls Tryd.prog 14 #[.agg c.arr, .slice A m.length cap] w fun e w' => e = .returned (.tuple #[.int .u32 ((((atP c b im, 1, false) : Nat × Int × Bool)).1 : Nat), .int .i64 (((atP c b im, 1, false) : Nat × Int × Bool)).2.1, .bool (((atP c b im, 1, false) : Nat × Int × Bool)).2.2]) ∧ Below w.heap.size w w' := by
  have hb0 := bl_new (Below.refl w.heap.size w) (.cells c.arr 28)
  have hX := Blk.new w 28 c.arr
  obtain ⟨pn, hpn⟩ := Int.eq_ofNat_of_zero_le hc.p0
  have hp1 := hc.p1
  rw [hpn, Int.toNat_natCast] at hwv hwi
  have HW := Lib.hid (fun W (hW : Below w.heap.size w W) => show Calls Tryd.prog 30 #[.slice A m.length cap, .int .u32 (pn : Int)] W fun e w' => e = .returned (.tuple #[.int .u32 vv, .bool true]) ∧ w' = W from by
    have h := refWord7_any (hM.below hW) pn (by omega)
    rw [hwv, hwi] at h
    exact h)
  have HD := Lib.hid (fun W => show Calls Tryd.prog 31 #[.int .u32 vv] W fun e w' => e = .returned (.tuple #[.agg #[.int .i64 17, .int .i64 xa, .int .i64 (b : Int), .int .i64 im], .int .i64 0]) ∧ Below W.heap.size W w' from by
    have h := I.refDecode_any (w := W) I.mayC vv hv
    rw [hx, he] at h
    exact h)
  have HC := Lib.hid hc
  have HB0 := Lib.hid hb0
  have HX0 := Lib.hid hX
  have hpc := cp_pc hX
  have hlt0 := hX.lt
  rw [hpn] at hpc
  have HPN := Lib.hid hpn
  have hzm : (pn : Int).tmod 4 = (pn : Int) % 4 := Int.tmod_eq_emod_of_nonneg (by omega)
  have hpz : (pn : Int) % 4 = 0 := by rw [← hpn]; exact hz
  have hzb : ((pn : Int) % 4 != 0) = false := by simpa using hpz
  clear hz hpz
  clear hb0 hX hM hc hwv hwi hv hx he hpn
  go_enter Tryd.func14, Tryd.ntmps14
  go_wp2_with fail
  refine (HW.out _ HB0.out).mono ?_
  rintro e W0 ⟨rfl, rfl⟩
  go_wp2_with fail
  refine (HD.out _).mono ?_
  rintro e W1 ⟨rfl, hb1⟩
  have HX1 := Lib.hid (HX0.out.below hb1 HX0.out.lt)
  have HB1 := Lib.hid (bl_step HB0.out hb1)
  clear hpc hlt0 hb1 HX0 HB0 HW HD
  have hpc := cp_pc HX1.out
  have hlt0 := HX1.out.lt
  rw [HPN.out] at hpc
  have hbb : (b : Int) < 8 := by omega
  have hrb := cp_reg HX1.out hb
  have hat := at_eq c b im
  have hrr := HC.out.r b
  obtain ⟨rb, hrv⟩ : ∃ rb, c.r b = rb := ⟨_, rfl⟩
  rw [hrv] at hat hrb hrr
  obtain ⟨hr0, hr1⟩ := hrr
  have HAT := Lib.hid hat
  have HIM := Lib.hid (fun W => refImm_any (w := W) im hi.1 hi.2)
  have hv0 : 0 ≤ im % 4294967296 := by omega
  have hv1 : im % 4294967296 < 4294967296 := by omega
  have HRV := Lib.hid hrv
  clear hrv hi
  generalize im % 4294967296 = iv at *
  go_upto_region 8 with (fail)
  have HI1 := Lib.hid (show Blk (W1.alloc (.cells #[.int .i64 17, .int .i64 xa, .int .i64 (b : Int), .int .i64 im] 38)).drew W1.heap.size 38 #[.int .i64 17, .int .i64 xa, .int .i64 (b : Int), .int .i64 im] from (Blk.new W1 _ _).drew)
  have HRB := Lib.hid (show (W1.alloc (.cells #[.int .i64 17, .int .i64 xa, .int .i64 (b : Int), .int .i64 im] 38)).drew.cell? ⟨w.heap.size, b, none⟩ = some (.int .u32 rb) from by
    have h := cp_reg (HX1.out.alloc (.cells #[.int .i64 17, .int .i64 xa, .int .i64 (b : Int), .int .i64 im] 38)).drew hb
    rw [HRV.out] at h
    exact h)
  refine wp_region_held_drew (S := (fun W => W.cell? ⟨W1.heap.size, 0, none⟩ = some (.int .i64 17) ∧ W.cell? ⟨W1.heap.size, 2, none⟩ = some (.int .i64 (b : Int)) ∧ W.cell? ⟨W1.heap.size, 3, none⟩ = some (.int .i64 im) ∧ W.cell? ⟨w.heap.size, b, none⟩ = some (.int .u32 rb))) (by kernel_rfl) (⟨(ccells HI1.out).1, (ccells HI1.out).2.2.1, (ccells HI1.out).2.2.2.1, HRB.out⟩) (fun hS => ?_)
  refine wpAnyH_take (i := 0) (v := ?_) rfl (by kernel_rfl) (by kernel_rfl) (by kernel_rfl) (fun _ _ _ h => h) (Or.inl ⟨by kernel_rfl, ?_⟩) hS ?_
  rotate_left 1
  · rintro w ⟨h1, h2, h3, h4⟩
    go_simp
    all_goals with_reducible rfl
  refine wpAnyH_take (i := 1) (v := ?_) rfl (by kernel_rfl) (by kernel_rfl) (by kernel_rfl) (fun _ _ _ h => h) (Or.inl ⟨by kernel_rfl, ?_⟩) hS ?_
  rotate_left 1
  · rintro w ⟨h1, h2, h3, h4⟩
    go_simp
    all_goals with_reducible rfl
  refine wpAnyH_take (i := 2) (v := ?_) rfl (by kernel_rfl) (by kernel_rfl) (by kernel_rfl) (fun _ _ _ h => h) (Or.inl ⟨by kernel_rfl, ?_⟩) hS ?_
  rotate_left 1
  · rintro w ⟨h1, h2, h3, h4⟩
    go_simp
    all_goals with_reducible rfl
  refine wpAnyH_take (i := 3) (v := ?_) rfl (by kernel_rfl) (by kernel_rfl) (by kernel_rfl) (fun _ _ _ h => h) (Or.inl ⟨by kernel_rfl, ?_⟩) hS ?_
  rotate_left 1
  · rintro w ⟨h1, h2, h3, h4⟩
    go_simp
    all_goals with_reducible rfl
  refine wpAnyH_take (i := 4) (v := ?_) rfl (by kernel_rfl) (by kernel_rfl) (by kernel_rfl) (fun _ _ _ h => h) (Or.inl ⟨by kernel_rfl, ?_⟩) hS ?_
  rotate_left 1
  · rintro w ⟨h1, h2, h3, h4⟩
    go_simp
    all_goals with_reducible rfl
  refine wpAnyH_take (i := 5) (v := ?_) rfl (by kernel_rfl) (by kernel_rfl) (by kernel_rfl) (fun _ _ _ h => h) (Or.inl ⟨by kernel_rfl, ?_⟩) hS ?_
  rotate_left 1
  · rintro w ⟨h1, h2, h3, h4⟩
    go_simp
    all_goals with_reducible rfl
  refine wpAnyH_take (i := 6) (v := ?_) rfl (by kernel_rfl) (by kernel_rfl) (by kernel_rfl) (fun _ _ _ h => h) (Or.inl ⟨by kernel_rfl, ?_⟩) hS ?_
  rotate_left 1
  · rintro w ⟨h1, h2, h3, h4⟩
    go_simp
    all_goals with_reducible rfl
  refine wpAnyH_take (i := 9) (v := ?_) rfl (by kernel_rfl) (by kernel_rfl) (by kernel_rfl) (fun _ _ _ h => h) (Or.inl ⟨by kernel_rfl, ?_⟩) hS ?_
  rotate_left 1
  · rintro w ⟨h1, h2, h3, h4⟩
    go_simp
    all_goals with_reducible rfl
  refine wpAnyH_take (i := 10) (v := ?_) rfl (by kernel_rfl) (by kernel_rfl) (by kernel_rfl) (fun _ _ _ h => h) (Or.inl ⟨by kernel_rfl, ?_⟩) hS ?_
  rotate_left 1
  · rintro w ⟨h1, h2, h3, h4⟩
    go_simp
    all_goals with_reducible rfl
  refine wpAnyH_take (i := 11) (v := ?_) rfl (by kernel_rfl) (by kernel_rfl) (by kernel_rfl) (fun _ _ _ h => h) (Or.inl ⟨by kernel_rfl, ?_⟩) hS ?_
  rotate_left 1
  · rintro w ⟨h1, h2, h3, h4⟩
    go_simp
    all_goals with_reducible rfl
  refine wpAnyH_take (i := 12) (v := ?_) rfl (by kernel_rfl) (by kernel_rfl) (by kernel_rfl) (fun _ _ _ h => h) (Or.inl ⟨by kernel_rfl, ?_⟩) hS ?_
  rotate_left 1
  · rintro w ⟨h1, h2, h3, h4⟩
    go_simp
    all_goals with_reducible rfl
  refine wpAnyH_ready (rs := [7]) (by kernel_rfl) (by simp) ?_
  refine AllReadyH.cons rfl (fun K hK => ?_) AllReadyH.nil
  go_simp
  refine (HIM.out _).mono ?_
  rintro e V0 ⟨rfl, rfl⟩
  refine hK.out _ _ (hS) (fun hS => ?_)
  clear hK K
  refine wpAnyH_take (i := 8) (v := ?_) rfl (by kernel_rfl) (by kernel_rfl) (by kernel_rfl) (fun _ _ _ h => h) (Or.inl ⟨by kernel_rfl, ?_⟩) hS ?_
  rotate_left 1
  · rintro w ⟨h1, h2, h3, h4⟩
    go_simp
    all_goals with_reducible rfl
  refine wpAnyH_take (i := 13) (v := ?_) rfl (by kernel_rfl) (by kernel_rfl) (by kernel_rfl) (fun _ _ _ h => h) (Or.inl ⟨by kernel_rfl, ?_⟩) hS ?_
  rotate_left 1
  · rintro w ⟨h1, h2, h3, h4⟩
    go_simp
    all_goals with_reducible rfl
  refine wpAnyH_take (i := 14) (v := ?_) rfl (by kernel_rfl) (by kernel_rfl) (by kernel_rfl) (fun _ _ _ h => h) (Or.inl ⟨by kernel_rfl, ?_⟩) hS ?_
  rotate_left 1
  · rintro w ⟨h1, h2, h3, h4⟩
    go_simp
    all_goals with_reducible rfl
  refine wpAnyH_take (i := 15) (v := ?_) rfl (by kernel_rfl) (by kernel_rfl) (by kernel_rfl) (fun _ _ _ h => h) (Or.inl ⟨by kernel_rfl, ?_⟩) hS ?_
  rotate_left 1
  · rintro w ⟨h1, h2, h3, h4⟩
    go_simp
    all_goals with_reducible rfl
  refine wpAnyH_take (i := 16) (v := ?_) rfl (by kernel_rfl) (by kernel_rfl) (by kernel_rfl) (fun _ _ _ h => h) (Or.inl ⟨by kernel_rfl, ?_⟩) hS ?_
  rotate_left 1
  · rintro w ⟨h1, h2, h3, h4⟩
    go_simp
    all_goals with_reducible rfl
  refine wpAnyH_take (i := 17) (v := ?_) rfl (by kernel_rfl) (by kernel_rfl) (by kernel_rfl) (fun _ _ _ h => h) (Or.inl ⟨by kernel_rfl, ?_⟩) hS ?_
  rotate_left 1
  · rintro w ⟨h1, h2, h3, h4⟩
    go_simp
    all_goals with_reducible rfl
  refine wpAnyH_take (i := 18) (v := ?_) rfl (by kernel_rfl) (by kernel_rfl) (by kernel_rfl) (fun _ _ _ h => h) (Or.inl ⟨by kernel_rfl, ?_⟩) hS ?_
  rotate_left 1
  · rintro w ⟨h1, h2, h3, h4⟩
    go_simp
    all_goals with_reducible rfl
  refine wpAnyH_take (i := 19) (v := ?_) rfl (by kernel_rfl) (by kernel_rfl) (by kernel_rfl) (fun _ _ _ h => h) (Or.inl ⟨by kernel_rfl, ?_⟩) hS ?_
  rotate_left 1
  · rintro w ⟨h1, h2, h3, h4⟩
    go_simp
    all_goals with_reducible rfl
  refine wpAnyH_take (i := 20) (v := ?_) rfl (by kernel_rfl) (by kernel_rfl) (by kernel_rfl) (fun _ _ _ h => h) (Or.inl ⟨by kernel_rfl, ?_⟩) hS ?_
  rotate_left 1
  · rintro w ⟨h1, h2, h3, h4⟩
    go_simp
    all_goals with_reducible rfl
  refine wpAnyH_done (by kernel_rfl) ?_ _
  go_wp2
  refine bodyPost_ret (results_tmp3 rfl _ _ _) rfl ⟨?_, ?_⟩
  · go_simp
    exact HAT.out
  first | exact bl_new HB1.out _ | exact below_drewN (bl_new HB1.out _) _ | exact (bl_new HB1.out _).drew

set_option maxRecDepth 100000 in
set_option maxHeartbeats 8000000 in
theorem rt_18 {w : World} {A : Option Addr} {B cap : Nat} {c : Cp} {m : List Int} (hM : ByIn w A B cap m) (hc : c.Ok) (vv : Int) (xa : Int) (b : Nat) (im : Int) (hwv : (wordM m c.pc.toNat).getD 0 = vv) (hwi : (wordM m c.pc.toNat).isSome = true) (hv : I.RangeW vv) (hx : I.decO vv = ⟨18, xa, (b : Int), im⟩) (he : I.errI (I.decI vv) = 0) (hz : c.pc % 4 = 0) (hb : b < 8) (hi : -32768 ≤ im ∧ im ≤ 32767) :
    Calls Tryd.prog 14 #[.agg c.arr, .slice A m.length cap] w fun e w' => e = .returned (.tuple #[.int .u32 ((((atP c b im, 1, true) : Nat × Int × Bool)).1 : Nat), .int .i64 (((atP c b im, 1, true) : Nat × Int × Bool)).2.1, .bool (((atP c b im, 1, true) : Nat × Int × Bool)).2.2]) ∧ Below w.heap.size w w' := by
  have hb0 := bl_new (Below.refl w.heap.size w) (.cells c.arr 28)
  have hX := Blk.new w 28 c.arr
  obtain ⟨pn, hpn⟩ := Int.eq_ofNat_of_zero_le hc.p0
  have hp1 := hc.p1
  rw [hpn, Int.toNat_natCast] at hwv hwi
  have HW := Lib.hid (fun W (hW : Below w.heap.size w W) => show Calls Tryd.prog 30 #[.slice A m.length cap, .int .u32 (pn : Int)] W fun e w' => e = .returned (.tuple #[.int .u32 vv, .bool true]) ∧ w' = W from by
    have h := refWord7_any (hM.below hW) pn (by omega)
    rw [hwv, hwi] at h
    exact h)
  have HD := Lib.hid (fun W => show Calls Tryd.prog 31 #[.int .u32 vv] W fun e w' => e = .returned (.tuple #[.agg #[.int .i64 18, .int .i64 xa, .int .i64 (b : Int), .int .i64 im], .int .i64 0]) ∧ Below W.heap.size W w' from by
    have h := I.refDecode_any (w := W) I.mayC vv hv
    rw [hx, he] at h
    exact h)
  have HC := Lib.hid hc
  have HB0 := Lib.hid hb0
  have HX0 := Lib.hid hX
  have hpc := cp_pc hX
  have hlt0 := hX.lt
  rw [hpn] at hpc
  have HPN := Lib.hid hpn
  have hzm : (pn : Int).tmod 4 = (pn : Int) % 4 := Int.tmod_eq_emod_of_nonneg (by omega)
  have hpz : (pn : Int) % 4 = 0 := by rw [← hpn]; exact hz
  have hzb : ((pn : Int) % 4 != 0) = false := by simpa using hpz
  clear hz hpz
  clear hb0 hX hM hc hwv hwi hv hx he hpn
  go_enter Tryd.func14, Tryd.ntmps14
  go_wp2_with fail
  refine (HW.out _ HB0.out).mono ?_
  rintro e W0 ⟨rfl, rfl⟩
  go_wp2_with fail
  refine (HD.out _).mono ?_
  rintro e W1 ⟨rfl, hb1⟩
  have HX1 := Lib.hid (HX0.out.below hb1 HX0.out.lt)
  have HB1 := Lib.hid (bl_step HB0.out hb1)
  clear hpc hlt0 hb1 HX0 HB0 HW HD
  have hpc := cp_pc HX1.out
  have hlt0 := HX1.out.lt
  rw [HPN.out] at hpc
  have hbb : (b : Int) < 8 := by omega
  have hrb := cp_reg HX1.out hb
  have hat := at_eq c b im
  have hrr := HC.out.r b
  obtain ⟨rb, hrv⟩ : ∃ rb, c.r b = rb := ⟨_, rfl⟩
  rw [hrv] at hat hrb hrr
  obtain ⟨hr0, hr1⟩ := hrr
  have HAT := Lib.hid hat
  have HIM := Lib.hid (fun W => refImm_any (w := W) im hi.1 hi.2)
  have hv0 : 0 ≤ im % 4294967296 := by omega
  have hv1 : im % 4294967296 < 4294967296 := by omega
  have HRV := Lib.hid hrv
  clear hrv hi
  generalize im % 4294967296 = iv at *
  go_upto_region 8 with (fail)
  have HI1 := Lib.hid (show Blk (W1.alloc (.cells #[.int .i64 18, .int .i64 xa, .int .i64 (b : Int), .int .i64 im] 38)).drew W1.heap.size 38 #[.int .i64 18, .int .i64 xa, .int .i64 (b : Int), .int .i64 im] from (Blk.new W1 _ _).drew)
  have HRB := Lib.hid (show (W1.alloc (.cells #[.int .i64 18, .int .i64 xa, .int .i64 (b : Int), .int .i64 im] 38)).drew.cell? ⟨w.heap.size, b, none⟩ = some (.int .u32 rb) from by
    have h := cp_reg (HX1.out.alloc (.cells #[.int .i64 18, .int .i64 xa, .int .i64 (b : Int), .int .i64 im] 38)).drew hb
    rw [HRV.out] at h
    exact h)
  refine wp_region_held_drew (S := (fun W => W.cell? ⟨W1.heap.size, 0, none⟩ = some (.int .i64 18) ∧ W.cell? ⟨W1.heap.size, 2, none⟩ = some (.int .i64 (b : Int)) ∧ W.cell? ⟨W1.heap.size, 3, none⟩ = some (.int .i64 im) ∧ W.cell? ⟨w.heap.size, b, none⟩ = some (.int .u32 rb))) (by kernel_rfl) (⟨(ccells HI1.out).1, (ccells HI1.out).2.2.1, (ccells HI1.out).2.2.2.1, HRB.out⟩) (fun hS => ?_)
  refine wpAnyH_take (i := 0) (v := ?_) rfl (by kernel_rfl) (by kernel_rfl) (by kernel_rfl) (fun _ _ _ h => h) (Or.inl ⟨by kernel_rfl, ?_⟩) hS ?_
  rotate_left 1
  · rintro w ⟨h1, h2, h3, h4⟩
    go_simp
    all_goals with_reducible rfl
  refine wpAnyH_take (i := 1) (v := ?_) rfl (by kernel_rfl) (by kernel_rfl) (by kernel_rfl) (fun _ _ _ h => h) (Or.inl ⟨by kernel_rfl, ?_⟩) hS ?_
  rotate_left 1
  · rintro w ⟨h1, h2, h3, h4⟩
    go_simp
    all_goals with_reducible rfl
  refine wpAnyH_take (i := 2) (v := ?_) rfl (by kernel_rfl) (by kernel_rfl) (by kernel_rfl) (fun _ _ _ h => h) (Or.inl ⟨by kernel_rfl, ?_⟩) hS ?_
  rotate_left 1
  · rintro w ⟨h1, h2, h3, h4⟩
    go_simp
    all_goals with_reducible rfl
  refine wpAnyH_take (i := 3) (v := ?_) rfl (by kernel_rfl) (by kernel_rfl) (by kernel_rfl) (fun _ _ _ h => h) (Or.inl ⟨by kernel_rfl, ?_⟩) hS ?_
  rotate_left 1
  · rintro w ⟨h1, h2, h3, h4⟩
    go_simp
    all_goals with_reducible rfl
  refine wpAnyH_take (i := 4) (v := ?_) rfl (by kernel_rfl) (by kernel_rfl) (by kernel_rfl) (fun _ _ _ h => h) (Or.inl ⟨by kernel_rfl, ?_⟩) hS ?_
  rotate_left 1
  · rintro w ⟨h1, h2, h3, h4⟩
    go_simp
    all_goals with_reducible rfl
  refine wpAnyH_take (i := 5) (v := ?_) rfl (by kernel_rfl) (by kernel_rfl) (by kernel_rfl) (fun _ _ _ h => h) (Or.inl ⟨by kernel_rfl, ?_⟩) hS ?_
  rotate_left 1
  · rintro w ⟨h1, h2, h3, h4⟩
    go_simp
    all_goals with_reducible rfl
  refine wpAnyH_take (i := 6) (v := ?_) rfl (by kernel_rfl) (by kernel_rfl) (by kernel_rfl) (fun _ _ _ h => h) (Or.inl ⟨by kernel_rfl, ?_⟩) hS ?_
  rotate_left 1
  · rintro w ⟨h1, h2, h3, h4⟩
    go_simp
    all_goals with_reducible rfl
  refine wpAnyH_take (i := 9) (v := ?_) rfl (by kernel_rfl) (by kernel_rfl) (by kernel_rfl) (fun _ _ _ h => h) (Or.inl ⟨by kernel_rfl, ?_⟩) hS ?_
  rotate_left 1
  · rintro w ⟨h1, h2, h3, h4⟩
    go_simp
    all_goals with_reducible rfl
  refine wpAnyH_take (i := 10) (v := ?_) rfl (by kernel_rfl) (by kernel_rfl) (by kernel_rfl) (fun _ _ _ h => h) (Or.inl ⟨by kernel_rfl, ?_⟩) hS ?_
  rotate_left 1
  · rintro w ⟨h1, h2, h3, h4⟩
    go_simp
    all_goals with_reducible rfl
  refine wpAnyH_take (i := 11) (v := ?_) rfl (by kernel_rfl) (by kernel_rfl) (by kernel_rfl) (fun _ _ _ h => h) (Or.inl ⟨by kernel_rfl, ?_⟩) hS ?_
  rotate_left 1
  · rintro w ⟨h1, h2, h3, h4⟩
    go_simp
    all_goals with_reducible rfl
  refine wpAnyH_take (i := 12) (v := ?_) rfl (by kernel_rfl) (by kernel_rfl) (by kernel_rfl) (fun _ _ _ h => h) (Or.inl ⟨by kernel_rfl, ?_⟩) hS ?_
  rotate_left 1
  · rintro w ⟨h1, h2, h3, h4⟩
    go_simp
    all_goals with_reducible rfl
  refine wpAnyH_ready (rs := [7]) (by kernel_rfl) (by simp) ?_
  refine AllReadyH.cons rfl (fun K hK => ?_) AllReadyH.nil
  go_simp
  refine (HIM.out _).mono ?_
  rintro e V0 ⟨rfl, rfl⟩
  refine hK.out _ _ (hS) (fun hS => ?_)
  clear hK K
  refine wpAnyH_take (i := 8) (v := ?_) rfl (by kernel_rfl) (by kernel_rfl) (by kernel_rfl) (fun _ _ _ h => h) (Or.inl ⟨by kernel_rfl, ?_⟩) hS ?_
  rotate_left 1
  · rintro w ⟨h1, h2, h3, h4⟩
    go_simp
    all_goals with_reducible rfl
  refine wpAnyH_take (i := 13) (v := ?_) rfl (by kernel_rfl) (by kernel_rfl) (by kernel_rfl) (fun _ _ _ h => h) (Or.inl ⟨by kernel_rfl, ?_⟩) hS ?_
  rotate_left 1
  · rintro w ⟨h1, h2, h3, h4⟩
    go_simp
    all_goals with_reducible rfl
  refine wpAnyH_take (i := 14) (v := ?_) rfl (by kernel_rfl) (by kernel_rfl) (by kernel_rfl) (fun _ _ _ h => h) (Or.inl ⟨by kernel_rfl, ?_⟩) hS ?_
  rotate_left 1
  · rintro w ⟨h1, h2, h3, h4⟩
    go_simp
    all_goals with_reducible rfl
  refine wpAnyH_take (i := 15) (v := ?_) rfl (by kernel_rfl) (by kernel_rfl) (by kernel_rfl) (fun _ _ _ h => h) (Or.inl ⟨by kernel_rfl, ?_⟩) hS ?_
  rotate_left 1
  · rintro w ⟨h1, h2, h3, h4⟩
    go_simp
    all_goals with_reducible rfl
  refine wpAnyH_take (i := 16) (v := ?_) rfl (by kernel_rfl) (by kernel_rfl) (by kernel_rfl) (fun _ _ _ h => h) (Or.inl ⟨by kernel_rfl, ?_⟩) hS ?_
  rotate_left 1
  · rintro w ⟨h1, h2, h3, h4⟩
    go_simp
    all_goals with_reducible rfl
  refine wpAnyH_take (i := 17) (v := ?_) rfl (by kernel_rfl) (by kernel_rfl) (by kernel_rfl) (fun _ _ _ h => h) (Or.inl ⟨by kernel_rfl, ?_⟩) hS ?_
  rotate_left 1
  · rintro w ⟨h1, h2, h3, h4⟩
    go_simp
    all_goals with_reducible rfl
  refine wpAnyH_take (i := 18) (v := ?_) rfl (by kernel_rfl) (by kernel_rfl) (by kernel_rfl) (fun _ _ _ h => h) (Or.inl ⟨by kernel_rfl, ?_⟩) hS ?_
  rotate_left 1
  · rintro w ⟨h1, h2, h3, h4⟩
    go_simp
    all_goals with_reducible rfl
  refine wpAnyH_take (i := 19) (v := ?_) rfl (by kernel_rfl) (by kernel_rfl) (by kernel_rfl) (fun _ _ _ h => h) (Or.inl ⟨by kernel_rfl, ?_⟩) hS ?_
  rotate_left 1
  · rintro w ⟨h1, h2, h3, h4⟩
    go_simp
    all_goals with_reducible rfl
  refine wpAnyH_take (i := 20) (v := ?_) rfl (by kernel_rfl) (by kernel_rfl) (by kernel_rfl) (fun _ _ _ h => h) (Or.inl ⟨by kernel_rfl, ?_⟩) hS ?_
  rotate_left 1
  · rintro w ⟨h1, h2, h3, h4⟩
    go_simp
    all_goals with_reducible rfl
  refine wpAnyH_done (by kernel_rfl) ?_ _
  go_wp2
  refine bodyPost_ret (results_tmp3 rfl _ _ _) rfl ⟨?_, ?_⟩
  · go_simp
    exact HAT.out
  first | exact bl_new HB1.out _ | exact below_drewN (bl_new HB1.out _) _ | exact (bl_new HB1.out _).drew
end
end Go.Proofs.YtoglmemmdolbmaaDoor
namespace Go.Proofs.YtoglmemmdolbmaaDoor
section
open Go.RowKit
set_option linter.unusedVariables false

theorem wordD_range {m : List Int} (h : ∀ x ∈ m, 0 ≤ x ∧ x ≤ 255) (a : Nat) : I.RangeW ((wordM m a).getD 0) := by
  cases hw : wordM m a with
  | none => exact ⟨Int.le_refl 0, by decide⟩
  | some v => exact wordM_range h hw
theorem decO_b (v : Int) : 0 ≤ (I.decO v).b := by
  unfold I.decO
  by_cases h : I.MayI (I.decI v)
  · rw [if_pos h]; exact (I.may_small h).2.2.1.1
  · rw [if_neg h]; exact Int.le_refl _

theorem refTouch_any {w : World} {A : Option Addr} {B cap : Nat} {c : Cp} {m : List Int} (hM : ByIn w A B cap m) (hc : c.Ok) :
    Calls Tryd.prog 14 #[.agg c.arr, .slice A m.length cap] w fun e w' => e = .returned (.tuple #[.int .u32 ((touchP c m).1 : Nat), .int .i64 (touchP c m).2.1, .bool (touchP c m).2.2]) ∧ Below w.heap.size w w' := by
  have hv := wordD_range hM.low c.pc.toNat
  obtain ⟨x, hx⟩ : ∃ x, I.decO ((wordM m c.pc.toNat).getD 0) = x := ⟨_, rfl⟩
  have hb := decO_b ((wordM m c.pc.toNat).getD 0)
  rw [hx] at hb
  obtain ⟨op, xa, b, im⟩ := x
  dsimp only at hb
  obtain ⟨b, rfl⟩ := Int.eq_ofNat_of_zero_le hb
  by_cases h4 : c.pc % 4 = 0
  · cases hw : wordM m c.pc.toNat with
    | none =>
      have ht : touchP c m = (0, 0, false) := by
        have hf : fetchP c m = (I.x0, 2) := by unfold fetchP; rw [if_pos h4, hw]
        unfold touchP
        rw [hf]; rfl
      rw [ht]
      exact rt_none hM hc _ _ op xa b im rfl (by rw [hw]; rfl) hv hx rfl h4
    | some v =>
      by_cases hm : I.MayI (I.decI v)
      · have hf : fetchP c m = (I.decI v, 0) := by
          unfold fetchP
          rw [if_pos h4, hw]
          exact if_pos hm
        have ho : I.decO v = ⟨op, xa, (b : Int), im⟩ := by rw [hw] at hx; exact hx
        rw [I.decO_yes hm] at ho
        have ht : touchP c m = touchX c op b im := by
          unfold touchP
          rw [hf, ho]; rfl
        have hs := I.may_small hm
        rw [ho] at hs
        dsimp only at hs
        obtain ⟨⟨s1, s2⟩, ⟨s3, s4⟩, ⟨s5, s6⟩, s7, s8⟩ := hs
        have hb8 : b < 8 := by omega
        have hs : (wordM m c.pc.toNat).isSome = true := by rw [hw]; rfl
        have he : I.errI (I.decI ((wordM m c.pc.toNat).getD 0)) = 0 := by
          rw [hw]
          exact if_pos hm
        rw [ht]
        unfold touchX
        by_cases hop : 15 ≤ op ∧ op ≤ 18
        · rw [if_pos hop]
          rcases (show op = 15 ∨ op = 16 ∨ op = 17 ∨ op = 18 by omega) with rfl | rfl | rfl | rfl
          · exact rt_15 hM hc _ xa b im rfl hs hv hx he h4 hb8 ⟨s7, s8⟩
          · exact rt_16 hM hc _ xa b im rfl hs hv hx he h4 hb8 ⟨s7, s8⟩
          · exact rt_17 hM hc _ xa b im rfl hs hv hx he h4 hb8 ⟨s7, s8⟩
          · exact rt_18 hM hc _ xa b im rfl hs hv hx he h4 hb8 ⟨s7, s8⟩
        · rw [if_neg hop]
          by_cases hl : op < 15
          · exact rt_low hM hc _ op xa b im rfl hs hv hx he h4 hl
          · exact rt_high hM hc _ op xa b im rfl hs hv hx he h4 (by omega)
      · have ht : touchP c m = (0, 0, false) := by
          have hf : fetchP c m = (I.x0, 3) := by
            unfold fetchP
            rw [if_pos h4, hw]
            exact if_neg hm
          unfold touchP
          rw [hf]; rfl
        rw [ht]
        have he : I.errI (I.decI ((wordM m c.pc.toNat).getD 0)) = 30 := by
          rw [hw]
          exact if_neg hm
        exact rt_err hM hc _ op xa b im rfl (by rw [hw]; rfl) hv hx he h4
  · have ht : touchP c m = (0, 0, false) := by
      have hf : fetchP c m = (I.x0, 2) := by unfold fetchP; rw [if_neg h4]
      unfold touchP
      rw [hf]; rfl
    rw [ht]
    exact rt_pc hM hc _ _ _ op xa b im rfl rfl hv hx rfl h4
end
end Go.Proofs.YtoglmemmdolbmaaDoor

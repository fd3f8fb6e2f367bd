/-
  The document's Step, walked: jumps, sys, traps. Condition: the bytes lie in a block, registers are words.
-/
import Derived.Deep.QuietTactic
import Derived.BigQuiet
import Derived.StillTailTactics
import Derived.Test.YtoglmemmdolbmaaDoorCr6b
namespace Go.Proofs.YtoglmemmdolbmaaDoor
open Go.RowKit
set_option linter.unusedVariables false
set_option linter.unusedSimpArgs false
attribute [local go_sem] Oper.semAt_some
attribute [local go_sem] run_store_complex
attribute [local irreducible] floatOfInt wz


set_option maxRecDepth 100000 in
set_option maxHeartbeats 16000000 in
theorem rs_sys {w : World} {A : Option Addr} {B cap : Nat} {c : Cp} {m : List Int} (hM : ByIn w A B cap m) (hc : c.Ok) (vv : Int) (xa b : Nat) (im : Int) (hwv : (wordM m c.pc.toNat).getD 0 = vv) (hwi : (wordM m c.pc.toNat).isSome = true) (hv : I.RangeW vv) (hx : I.decO vv = ⟨24, (xa : Int), (b : Int), im⟩) (he : I.errI (I.decI vv) = 0) (hz : c.pc % 4 = 0) (hi : -32768 ≤ im ∧ im ≤ 32767)  :
    Calls Tryd.prog 16 #[.agg c.arr, .slice A m.length cap] w (OutR w A B cap (c, 1, m)) := by
  have HMM := Lib.hid hM
  have hp0 := hc.p0
  have hb0 := bl_new (bl_new (Below.refl w.heap.size w) (.cells c.arr 28)) (.cells c0A 28)
  have hX := (Blk.new w 28 c.arr).alloc (.cells c0A 28)
  have hR := Blk.new (w.alloc (.cells c.arr 28)) 28 c0A
  simp only [World.size_alloc] at hR
  obtain ⟨pn, hpn⟩ := Int.eq_ofNat_of_zero_le hc.p0
  have hp1 := hc.p1
  rw [hpn, Int.toNat_natCast] at hwv hwi
  have HW := Lib.hid (fun W (hW : Below w.heap.size w W) => show Calls Tryd.prog 30 #[.slice A m.length cap, .int .u32 (pn : Int)] W fun e w' => e = .returned (.tuple #[.int .u32 vv, .bool true]) ∧ w' = W from by
    have h := refWord7_any (hM.below hW) pn (by omega)
    rw [hwv, hwi] at h
    exact h)
  have HD := Lib.hid (fun W => show Calls Tryd.prog 31 #[.int .u32 vv] W fun e w' => e = .returned (.tuple #[.agg #[.int .i64 24, .int .i64 (xa : Int), .int .i64 (b : Int), .int .i64 im], .int .i64 0]) ∧ Below W.heap.size W w' from by
    have h := I.refDecode_any (w := W) I.mayC vv hv
    rw [hx, he] at h
    exact h)
  have HI := Lib.hid (fun W => refImm_any (w := W) im hi.1 hi.2)
  have HC := Lib.hid hc
  have HB0 := Lib.hid hb0
  have HX0 := Lib.hid hX
  have HR0 := Lib.hid hR
  have hpc := cp_pc hX
  have hlt0 := hX.lt
  rw [hpn] at hpc
  have HPN := Lib.hid hpn
  have hzm : (pn : Int).tmod 4 = (pn : Int) % 4 := Int.tmod_eq_emod_of_nonneg (by omega)
  have hpz : (pn : Int) % 4 = 0 := by rw [← hpn]; exact hz
  have hzb : ((pn : Int) % 4 != 0) = false := by simpa using hpz
  have HI0 := Lib.hid hi
  clear hz hpz hi hp0
  clear hb0 hX hR hM hc hwv hwi hv hx he hpn
  unfold c0A at *
  go_enter Tryd.func16, Tryd.ntmps16
  go_wp2_with fail
  refine (HW.out _ HB0.out).mono ?_
  rintro e W0 ⟨rfl, rfl⟩
  go_wp2_with fail
  refine (HD.out _).mono ?_
  rintro e W1 ⟨rfl, hb1⟩
  have HX1 := Lib.hid (HX0.out.below hb1 HX0.out.lt)
  have HR1 := Lib.hid (HR0.out.below hb1 HR0.out.lt)
  have HB1 := Lib.hid (bl_step HB0.out hb1)
  clear hpc hlt0 hb1 HX0 HR0 HB0 HW HD
  have HS1 := Lib.hid HB1.out.size
  have x0 := (cp_all HX1.out).1
  have x1 := (cp_all HX1.out).2.1
  have x2 := (cp_all HX1.out).2.2.1
  have x3 := (cp_all HX1.out).2.2.2.1
  have x4 := (cp_all HX1.out).2.2.2.2.1
  have x5 := (cp_all HX1.out).2.2.2.2.2.1
  have x6 := (cp_all HX1.out).2.2.2.2.2.2.1
  have x7 := (cp_all HX1.out).2.2.2.2.2.2.2.1
  have x8 := (cp_all HX1.out).2.2.2.2.2.2.2.2.1
  have x9 := (cp_all HX1.out).2.2.2.2.2.2.2.2.2.1
  have x10 := (cp_all HX1.out).2.2.2.2.2.2.2.2.2.2.1
  have xlt := (cp_all HX1.out).2.2.2.2.2.2.2.2.2.2.2
  rw [HPN.out] at x10
  go_upto_region 9 with (fail)
  clear x0 x1 x2 x3 x4 x5 x6 x7 x8 x9 x10 xlt
  have hnx : ((pn : Int) + 4) % 4294967296 = nextP c := by rw [← HPN.out]; rfl
  have HI2 := Lib.hid ((Blk.new W1 38 #[.int .i64 24, .int .i64 (xa : Int), .int .i64 (b : Int), .int .i64 im]).alloc (.cells (c.setPc (nextP c)).arr 28))
  have HN2 := Lib.hid (Blk.new (W1.alloc (.cells #[.int .i64 24, .int .i64 (xa : Int), .int .i64 (b : Int), .int .i64 im] 38)) 28 (c.setPc (nextP c)).arr)
  have HBn := Lib.hid (bl_new (bl_new (Below.refl W1.heap.size W1) (.cells #[.int .i64 24, .int .i64 (xa : Int), .int .i64 (b : Int), .int .i64 im] 38)) (.cells (c.setPc (nextP c)).arr 28))
  have HX2 := Lib.hid (HX1.out.below HBn.out HX1.out.lt)
  have HR2 := Lib.hid (HR1.out.below HBn.out HR1.out.lt)
  have HB2 := Lib.hid (bl_step HB1.out HBn.out)
  have HM2 := Lib.hid (HMM.out.below HB2.out)
  have HG := Lib.hid (show w.heap.size + 1 < W1.heap.size from HR1.out.lt)
  rw [World.size_alloc] at HN2
  clear HBn HX1 HR1 HB1
  unfold Cp.arr Cp.setPc at HI2 HN2 HX2 HR2 HB2 HM2
  rw [hnx]
  clear hnx
  dsimp only at HI2 HN2 HX2 HR2 HB2 HM2
  generalize (W1.alloc (.cells #[.int .i64 24, .int .i64 (xa : Int), .int .i64 (b : Int), .int .i64 im] 38)).alloc (.cells #[.int .u32 (c.r 0), .int .u32 (c.r 1), .int .u32 (c.r 2), .int .u32 (c.r 3), .int .u32 (c.r 4), .int .u32 (c.r 5), .int .u32 (c.r 6), .int .u32 (c.r 7), .complex .f64 (c.z 0).1 (c.z 0).2, .complex .f64 (c.z 1).1 (c.z 1).2, .int .u32 (nextP c)] 28) = W2 at *
  obtain ⟨gn, hgn⟩ : ∃ gn, W1.heap.size + 1 = gn := ⟨_, rfl⟩
  rw [hgn] at HN2 ⊢
  have HGN := Lib.hid hgn
  clear hgn
  generalize W1.heap.size = gi at *
  have i3 := (ccells HI2.out).2.2.2.1
  have ilt := (ccells HI2.out).2.2.2.2
  have n10 : W2.cell? ⟨gn, 10, none⟩ = some (.int .u32 (nextP c)) := cp_pc (show CpAt W2 gn (c.setPc (nextP c)) from HN2.out)
  have nlt := HN2.out.lt
  go_quiet ((go_at_call 32; exact Calls.quiet_of_same (HI.out _)))
  rw [show (nextP c + 4 * (im % 4294967296) % 4294967296) % 4294967296 = farP c im from rfl]
  have HI3 := Lib.hid (HI2.out.drewN nq)
  have HX3 := Lib.hid (show CpAt (W2.drewN nq) w.heap.size c from HX2.out.drewN nq)
  have HN3 := Lib.hid (show CpAt (W2.drewN nq) gn (c.setPc (nextP c)) from HN2.out.drewN nq)
  have HR3 := Lib.hid (HR2.out.drewN nq)
  have HM3 := Lib.hid (HM2.out.below (below_drewN (Below.refl _ W2) nq))
  have HB3 := Lib.hid (But.of_below (S := fun k => k = B) (below_drewN HB2.out nq))
  have HGX := Lib.hid (show gn ≠ w.heap.size ∧ gn ≠ w.heap.size + 1 ∧ gi ≠ gn ∧ w.heap.size ≤ gn ∧ (m ≠ [] → B < w.heap.size) from by
    have h1 := HG.out; have h2 := HGN.out
    exact ⟨by omega, by omega, by omega, by omega, HMM.out.lt⟩)
  clear i3 ilt n10 nlt HI2 HX2 HN2 HR2 HM2 HB2 HI hzm hzb
  generalize W2.drewN nq = W3 at *
  have i0 := (ccells HI3.out).1
  have ilt := (ccells HI3.out).2.2.2.2
  go_upto_region 11 with (fail)
  clear i0 ilt
  have x0 := (cp_all HX3.out).1
  have x1 := (cp_all HX3.out).2.1
  have x2 := (cp_all HX3.out).2.2.1
  have x3 := (cp_all HX3.out).2.2.2.1
  have x4 := (cp_all HX3.out).2.2.2.2.1
  have x5 := (cp_all HX3.out).2.2.2.2.2.1
  have x6 := (cp_all HX3.out).2.2.2.2.2.2.1
  have x7 := (cp_all HX3.out).2.2.2.2.2.2.2.1
  have x8 := (cp_all HX3.out).2.2.2.2.2.2.2.2.1
  have x9 := (cp_all HX3.out).2.2.2.2.2.2.2.2.2.1
  have x10 := (cp_all HX3.out).2.2.2.2.2.2.2.2.2.2.1
  have xlt := (cp_all HX3.out).2.2.2.2.2.2.2.2.2.2.2
  have r0 := (row11 HR3.out).1
  have r1 := (row11 HR3.out).2.1
  have r2 := (row11 HR3.out).2.2.1
  have r3 := (row11 HR3.out).2.2.2.1
  have r4 := (row11 HR3.out).2.2.2.2.1
  have r5 := (row11 HR3.out).2.2.2.2.2.1
  have r6 := (row11 HR3.out).2.2.2.2.2.2.1
  have r7 := (row11 HR3.out).2.2.2.2.2.2.2.1
  have r8 := (row11 HR3.out).2.2.2.2.2.2.2.2.1
  have r9 := (row11 HR3.out).2.2.2.2.2.2.2.2.2.1
  have r10 := (row11 HR3.out).2.2.2.2.2.2.2.2.2.2.1
  have rlt := (row11 HR3.out).2.2.2.2.2.2.2.2.2.2.2
  have rf0 := (HR3.out).frozen 0
  have rf1 := (HR3.out).frozen 1
  have rf2 := (HR3.out).frozen 2
  have rf3 := (HR3.out).frozen 3
  have rf4 := (HR3.out).frozen 4
  have rf5 := (HR3.out).frozen 5
  have rf6 := (HR3.out).frozen 6
  have rf7 := (HR3.out).frozen 7
  have rf8 := (HR3.out).frozen 8
  have rf9 := (HR3.out).frozen 9
  have rf10 := (HR3.out).frozen 10
  go_wp2
  refine bodyPost_ret (results_row_tmp Tryd.results16 _ rfl (set11_blk HR3.out (.int .u32 (c.r 0)) (.int .u32 (c.r 1)) (.int .u32 (c.r 2)) (.int .u32 (c.r 3)) (.int .u32 (c.r 4)) (.int .u32 (c.r 5)) (.int .u32 (c.r 6)) (.int .u32 (c.r 7)) (.complex .f64 (c.z 0).1 (c.z 0).2) (.complex .f64 (c.z 1).1 (c.z 1).2) (.int .u32 c.pc)) Tryd.underlying28 rfl (by kernel_rfl)) rfl ⟨rfl, ?_, ?_⟩
  · by_cases hm : m = []
    · exact ⟨fun h => absurd hm h, HM3.out.cap, HM3.out.low, HM3.out.len⟩
    · exact HM3.out.but (set11_but (S := fun k => k = w.heap.size + 1) (g := w.heap.size + 1) (But.refl _ W3) (.inl rfl) (.int .u32 (c.r 0)) (.int .u32 (c.r 1)) (.int .u32 (c.r 2)) (.int .u32 (c.r 3)) (.int .u32 (c.r 4)) (.int .u32 (c.r 5)) (.int .u32 (c.r 6)) (.int .u32 (c.r 7)) (.complex .f64 (c.z 0).1 (c.z 0).2) (.complex .f64 (c.z 1).1 (c.z 1).2) (.int .u32 c.pc)) (fun e : B = w.heap.size + 1 => by have := HGX.out.2.2.2.2 hm; omega)
  · exact set11_but HB3.out (.inr (by omega)) (.int .u32 (c.r 0)) (.int .u32 (c.r 1)) (.int .u32 (c.r 2)) (.int .u32 (c.r 3)) (.int .u32 (c.r 4)) (.int .u32 (c.r 5)) (.int .u32 (c.r 6)) (.int .u32 (c.r 7)) (.complex .f64 (c.z 0).1 (c.z 0).2) (.complex .f64 (c.z 1).1 (c.z 1).2) (.int .u32 c.pc)

set_option maxRecDepth 100000 in
set_option maxHeartbeats 16000000 in
theorem rs_jmp {w : World} {A : Option Addr} {B cap : Nat} {c : Cp} {m : List Int} (hM : ByIn w A B cap m) (hc : c.Ok) (vv : Int) (xa b : Nat) (im : Int) (hwv : (wordM m c.pc.toNat).getD 0 = vv) (hwi : (wordM m c.pc.toNat).isSome = true) (hv : I.RangeW vv) (hx : I.decO vv = ⟨19, (xa : Int), (b : Int), im⟩) (he : I.errI (I.decI vv) = 0) (hz : c.pc % 4 = 0) (hi : -32768 ≤ im ∧ im ≤ 32767) (c2 : Cp) (hc2 : c.setPc (farP c im) = c2) :
    Calls Tryd.prog 16 #[.agg c.arr, .slice A m.length cap] w (OutR w A B cap (c2, 0, m)) := by
  have HMM := Lib.hid hM
  have hp0 := hc.p0
  have HC2 := Lib.hid hc2
  clear hc2
  have hb0 := bl_new (bl_new (Below.refl w.heap.size w) (.cells c.arr 28)) (.cells c0A 28)
  have hX := (Blk.new w 28 c.arr).alloc (.cells c0A 28)
  have hR := Blk.new (w.alloc (.cells c.arr 28)) 28 c0A
  simp only [World.size_alloc] at hR
  obtain ⟨pn, hpn⟩ := Int.eq_ofNat_of_zero_le hc.p0
  have hp1 := hc.p1
  rw [hpn, Int.toNat_natCast] at hwv hwi
  have HW := Lib.hid (fun W (hW : Below w.heap.size w W) => show Calls Tryd.prog 30 #[.slice A m.length cap, .int .u32 (pn : Int)] W fun e w' => e = .returned (.tuple #[.int .u32 vv, .bool true]) ∧ w' = W from by
    have h := refWord7_any (hM.below hW) pn (by omega)
    rw [hwv, hwi] at h
    exact h)
  have HD := Lib.hid (fun W => show Calls Tryd.prog 31 #[.int .u32 vv] W fun e w' => e = .returned (.tuple #[.agg #[.int .i64 19, .int .i64 (xa : Int), .int .i64 (b : Int), .int .i64 im], .int .i64 0]) ∧ Below W.heap.size W w' from by
    have h := I.refDecode_any (w := W) I.mayC vv hv
    rw [hx, he] at h
    exact h)
  have HI := Lib.hid (fun W => refImm_any (w := W) im hi.1 hi.2)
  have HC := Lib.hid hc
  have HB0 := Lib.hid hb0
  have HX0 := Lib.hid hX
  have HR0 := Lib.hid hR
  have hpc := cp_pc hX
  have hlt0 := hX.lt
  rw [hpn] at hpc
  have HPN := Lib.hid hpn
  have hzm : (pn : Int).tmod 4 = (pn : Int) % 4 := Int.tmod_eq_emod_of_nonneg (by omega)
  have hpz : (pn : Int) % 4 = 0 := by rw [← hpn]; exact hz
  have hzb : ((pn : Int) % 4 != 0) = false := by simpa using hpz
  have HI0 := Lib.hid hi
  clear hz hpz hi hp0
  clear hb0 hX hR hM hc hwv hwi hv hx he hpn
  unfold c0A at *
  go_enter Tryd.func16, Tryd.ntmps16
  go_wp2_with fail
  refine (HW.out _ HB0.out).mono ?_
  rintro e W0 ⟨rfl, rfl⟩
  go_wp2_with fail
  refine (HD.out _).mono ?_
  rintro e W1 ⟨rfl, hb1⟩
  have HX1 := Lib.hid (HX0.out.below hb1 HX0.out.lt)
  have HR1 := Lib.hid (HR0.out.below hb1 HR0.out.lt)
  have HB1 := Lib.hid (bl_step HB0.out hb1)
  clear hpc hlt0 hb1 HX0 HR0 HB0 HW HD
  have HS1 := Lib.hid HB1.out.size
  have x0 := (cp_all HX1.out).1
  have x1 := (cp_all HX1.out).2.1
  have x2 := (cp_all HX1.out).2.2.1
  have x3 := (cp_all HX1.out).2.2.2.1
  have x4 := (cp_all HX1.out).2.2.2.2.1
  have x5 := (cp_all HX1.out).2.2.2.2.2.1
  have x6 := (cp_all HX1.out).2.2.2.2.2.2.1
  have x7 := (cp_all HX1.out).2.2.2.2.2.2.2.1
  have x8 := (cp_all HX1.out).2.2.2.2.2.2.2.2.1
  have x9 := (cp_all HX1.out).2.2.2.2.2.2.2.2.2.1
  have x10 := (cp_all HX1.out).2.2.2.2.2.2.2.2.2.2.1
  have xlt := (cp_all HX1.out).2.2.2.2.2.2.2.2.2.2.2
  rw [HPN.out] at x10
  go_upto_region 9 with (fail)
  clear x0 x1 x2 x3 x4 x5 x6 x7 x8 x9 x10 xlt
  have hnx : ((pn : Int) + 4) % 4294967296 = nextP c := by rw [← HPN.out]; rfl
  have HI2 := Lib.hid ((Blk.new W1 38 #[.int .i64 19, .int .i64 (xa : Int), .int .i64 (b : Int), .int .i64 im]).alloc (.cells (c.setPc (nextP c)).arr 28))
  have HN2 := Lib.hid (Blk.new (W1.alloc (.cells #[.int .i64 19, .int .i64 (xa : Int), .int .i64 (b : Int), .int .i64 im] 38)) 28 (c.setPc (nextP c)).arr)
  have HBn := Lib.hid (bl_new (bl_new (Below.refl W1.heap.size W1) (.cells #[.int .i64 19, .int .i64 (xa : Int), .int .i64 (b : Int), .int .i64 im] 38)) (.cells (c.setPc (nextP c)).arr 28))
  have HX2 := Lib.hid (HX1.out.below HBn.out HX1.out.lt)
  have HR2 := Lib.hid (HR1.out.below HBn.out HR1.out.lt)
  have HB2 := Lib.hid (bl_step HB1.out HBn.out)
  have HM2 := Lib.hid (HMM.out.below HB2.out)
  have HG := Lib.hid (show w.heap.size + 1 < W1.heap.size from HR1.out.lt)
  rw [World.size_alloc] at HN2
  clear HBn HX1 HR1 HB1
  unfold Cp.arr Cp.setPc at HI2 HN2 HX2 HR2 HB2 HM2
  rw [hnx]
  clear hnx
  dsimp only at HI2 HN2 HX2 HR2 HB2 HM2
  generalize (W1.alloc (.cells #[.int .i64 19, .int .i64 (xa : Int), .int .i64 (b : Int), .int .i64 im] 38)).alloc (.cells #[.int .u32 (c.r 0), .int .u32 (c.r 1), .int .u32 (c.r 2), .int .u32 (c.r 3), .int .u32 (c.r 4), .int .u32 (c.r 5), .int .u32 (c.r 6), .int .u32 (c.r 7), .complex .f64 (c.z 0).1 (c.z 0).2, .complex .f64 (c.z 1).1 (c.z 1).2, .int .u32 (nextP c)] 28) = W2 at *
  obtain ⟨gn, hgn⟩ : ∃ gn, W1.heap.size + 1 = gn := ⟨_, rfl⟩
  rw [hgn] at HN2 ⊢
  have HGN := Lib.hid hgn
  clear hgn
  generalize W1.heap.size = gi at *
  have i3 := (ccells HI2.out).2.2.2.1
  have ilt := (ccells HI2.out).2.2.2.2
  have n10 : W2.cell? ⟨gn, 10, none⟩ = some (.int .u32 (nextP c)) := cp_pc (show CpAt W2 gn (c.setPc (nextP c)) from HN2.out)
  have nlt := HN2.out.lt
  go_quiet ((go_at_call 32; exact Calls.quiet_of_same (HI.out _)))
  rw [show (nextP c + 4 * (im % 4294967296) % 4294967296) % 4294967296 = farP c im from rfl]
  have HI3 := Lib.hid (HI2.out.drewN nq)
  have HX3 := Lib.hid (show CpAt (W2.drewN nq) w.heap.size c from HX2.out.drewN nq)
  have HN3 := Lib.hid (show CpAt (W2.drewN nq) gn (c.setPc (nextP c)) from HN2.out.drewN nq)
  have HR3 := Lib.hid (HR2.out.drewN nq)
  have HM3 := Lib.hid (HM2.out.below (below_drewN (Below.refl _ W2) nq))
  have HB3 := Lib.hid (But.of_below (S := fun k => k = B) (below_drewN HB2.out nq))
  have HGX := Lib.hid (show gn ≠ w.heap.size ∧ gn ≠ w.heap.size + 1 ∧ gi ≠ gn ∧ w.heap.size ≤ gn ∧ (m ≠ [] → B < w.heap.size) from by
    have h1 := HG.out; have h2 := HGN.out
    exact ⟨by omega, by omega, by omega, by omega, HMM.out.lt⟩)
  clear i3 ilt n10 nlt HI2 HX2 HN2 HR2 HM2 HB2 HI hzm hzb
  generalize W2.drewN nq = W3 at *
  have i0 := (ccells HI3.out).1
  have ilt := (ccells HI3.out).2.2.2.2
  have n10 : W3.cell? ⟨gn, 10, none⟩ = some (.int .u32 (nextP c)) := cp_pc HN3.out
  have nf10 := HN3.out.frozen 10
  have nlt := HN3.out.lt
  go_upto_region 40 with (fail)
  have HN4 := Lib.hid (show CpAt (W3.setCell ⟨gn, 10, none⟩ (.int .u32 (farP c im))) gn c2 from by
    have h := (show CpAt W3 gn (c.setPc (nextP c)) from HN3.out).set_ 10 (.int .u32 (farP c im))
    rw [arr_setPc, show (c.setPc (nextP c)).setPc (farP c im) = c.setPc (farP c im) from rfl, HC2.out] at h
    exact h)
  have HX4 := Lib.hid (show CpAt (W3.setCell ⟨gn, 10, none⟩ (.int .u32 (farP c im))) w.heap.size c from (show CpAt W3 w.heap.size c from HX3.out).far (p := ⟨gn, 10, none⟩) (fun e => HGX.out.1 e.symm) _)
  have HI4 := Lib.hid (HI3.out.far (p := ⟨gn, 10, none⟩) HGX.out.2.2.1 (.int .u32 (farP c im)))
  have HR4 := Lib.hid (HR3.out.far (p := ⟨gn, 10, none⟩) (fun e => HGX.out.2.1 e.symm) (.int .u32 (farP c im)))
  have HM4 := Lib.hid (show ByIn (W3.setCell ⟨gn, 10, none⟩ (.int .u32 (farP c im))) A B cap m from by
    by_cases hm : m = []
    · exact ⟨fun h => absurd hm h, HM3.out.cap, HM3.out.low, HM3.out.len⟩
    · exact HM3.out.but (But.setCell (S := fun k => k = gn) (But.refl _ W3) (p := ⟨gn, 10, none⟩) (.inl rfl) (.int .u32 (farP c im))) (fun e : B = gn => by have := HGX.out.2.2.2.2 hm; have := HGX.out.2.2.2.1; omega))
  have HB4 := Lib.hid (HB3.out.setCell (p := ⟨gn, 10, none⟩) (.inr HGX.out.2.2.2.1) (.int .u32 (farP c im)))
  clear i0 ilt n10 nf10 nlt HN3 HX3 HI3 HR3 HM3 HB3
  generalize W3.setCell ⟨gn, 10, none⟩ (.int .u32 (farP c im)) = W4 at *
  clear HC2
  have x0 := (cp_all HN4.out).1
  have x1 := (cp_all HN4.out).2.1
  have x2 := (cp_all HN4.out).2.2.1
  have x3 := (cp_all HN4.out).2.2.2.1
  have x4 := (cp_all HN4.out).2.2.2.2.1
  have x5 := (cp_all HN4.out).2.2.2.2.2.1
  have x6 := (cp_all HN4.out).2.2.2.2.2.2.1
  have x7 := (cp_all HN4.out).2.2.2.2.2.2.2.1
  have x8 := (cp_all HN4.out).2.2.2.2.2.2.2.2.1
  have x9 := (cp_all HN4.out).2.2.2.2.2.2.2.2.2.1
  have x10 := (cp_all HN4.out).2.2.2.2.2.2.2.2.2.2.1
  have xlt := (cp_all HN4.out).2.2.2.2.2.2.2.2.2.2.2
  have r0 := (row11 HR4.out).1
  have r1 := (row11 HR4.out).2.1
  have r2 := (row11 HR4.out).2.2.1
  have r3 := (row11 HR4.out).2.2.2.1
  have r4 := (row11 HR4.out).2.2.2.2.1
  have r5 := (row11 HR4.out).2.2.2.2.2.1
  have r6 := (row11 HR4.out).2.2.2.2.2.2.1
  have r7 := (row11 HR4.out).2.2.2.2.2.2.2.1
  have r8 := (row11 HR4.out).2.2.2.2.2.2.2.2.1
  have r9 := (row11 HR4.out).2.2.2.2.2.2.2.2.2.1
  have r10 := (row11 HR4.out).2.2.2.2.2.2.2.2.2.2.1
  have rlt := (row11 HR4.out).2.2.2.2.2.2.2.2.2.2.2
  have rf0 := (HR4.out).frozen 0
  have rf1 := (HR4.out).frozen 1
  have rf2 := (HR4.out).frozen 2
  have rf3 := (HR4.out).frozen 3
  have rf4 := (HR4.out).frozen 4
  have rf5 := (HR4.out).frozen 5
  have rf6 := (HR4.out).frozen 6
  have rf7 := (HR4.out).frozen 7
  have rf8 := (HR4.out).frozen 8
  have rf9 := (HR4.out).frozen 9
  have rf10 := (HR4.out).frozen 10
  go_wp2
  refine bodyPost_ret (results_row_tmp Tryd.results16 _ rfl (set11_blk HR4.out (.int .u32 (c2.r 0)) (.int .u32 (c2.r 1)) (.int .u32 (c2.r 2)) (.int .u32 (c2.r 3)) (.int .u32 (c2.r 4)) (.int .u32 (c2.r 5)) (.int .u32 (c2.r 6)) (.int .u32 (c2.r 7)) (.complex .f64 (c2.z 0).1 (c2.z 0).2) (.complex .f64 (c2.z 1).1 (c2.z 1).2) (.int .u32 c2.pc)) Tryd.underlying28 rfl (by kernel_rfl)) rfl ⟨rfl, ?_, ?_⟩
  · by_cases hm : m = []
    · exact ⟨fun h => absurd hm h, HM4.out.cap, HM4.out.low, HM4.out.len⟩
    · exact HM4.out.but (set11_but (S := fun k => k = w.heap.size + 1) (g := w.heap.size + 1) (But.refl _ W4) (.inl rfl) (.int .u32 (c2.r 0)) (.int .u32 (c2.r 1)) (.int .u32 (c2.r 2)) (.int .u32 (c2.r 3)) (.int .u32 (c2.r 4)) (.int .u32 (c2.r 5)) (.int .u32 (c2.r 6)) (.int .u32 (c2.r 7)) (.complex .f64 (c2.z 0).1 (c2.z 0).2) (.complex .f64 (c2.z 1).1 (c2.z 1).2) (.int .u32 c2.pc)) (fun e : B = w.heap.size + 1 => by have := HGX.out.2.2.2.2 hm; omega)
  · exact set11_but HB4.out (.inr (by omega)) (.int .u32 (c2.r 0)) (.int .u32 (c2.r 1)) (.int .u32 (c2.r 2)) (.int .u32 (c2.r 3)) (.int .u32 (c2.r 4)) (.int .u32 (c2.r 5)) (.int .u32 (c2.r 6)) (.int .u32 (c2.r 7)) (.complex .f64 (c2.z 0).1 (c2.z 0).2) (.complex .f64 (c2.z 1).1 (c2.z 1).2) (.int .u32 c2.pc)

set_option maxRecDepth 100000 in
set_option maxHeartbeats 16000000 in
theorem rs_jz_go {w : World} {A : Option Addr} {B cap : Nat} {c : Cp} {m : List Int} (hM : ByIn w A B cap m) (hc : c.Ok) (vv : Int) (xa b : Nat) (im : Int) (hwv : (wordM m c.pc.toNat).getD 0 = vv) (hwi : (wordM m c.pc.toNat).isSome = true) (hv : I.RangeW vv) (hx : I.decO vv = ⟨20, (xa : Int), (b : Int), im⟩) (he : I.errI (I.decI vv) = 0) (hz : c.pc % 4 = 0) (hi : -32768 ≤ im ∧ im ≤ 32767) (ha : xa < 8) (hr : c.r xa = 0) (c2 : Cp) (hc2 : c.setPc (farP c im) = c2) :
    Calls Tryd.prog 16 #[.agg c.arr, .slice A m.length cap] w (OutR w A B cap (c2, 0, m)) := by
  have HMM := Lib.hid hM
  have hp0 := hc.p0
  have HA := Lib.hid ha
  clear ha
  have HC2 := Lib.hid hc2
  clear hc2
  have HRZ := Lib.hid hr
  clear hr
  have hb0 := bl_new (bl_new (Below.refl w.heap.size w) (.cells c.arr 28)) (.cells c0A 28)
  have hX := (Blk.new w 28 c.arr).alloc (.cells c0A 28)
  have hR := Blk.new (w.alloc (.cells c.arr 28)) 28 c0A
  simp only [World.size_alloc] at hR
  obtain ⟨pn, hpn⟩ := Int.eq_ofNat_of_zero_le hc.p0
  have hp1 := hc.p1
  rw [hpn, Int.toNat_natCast] at hwv hwi
  have HW := Lib.hid (fun W (hW : Below w.heap.size w W) => show Calls Tryd.prog 30 #[.slice A m.length cap, .int .u32 (pn : Int)] W fun e w' => e = .returned (.tuple #[.int .u32 vv, .bool true]) ∧ w' = W from by
    have h := refWord7_any (hM.below hW) pn (by omega)
    rw [hwv, hwi] at h
    exact h)
  have HD := Lib.hid (fun W => show Calls Tryd.prog 31 #[.int .u32 vv] W fun e w' => e = .returned (.tuple #[.agg #[.int .i64 20, .int .i64 (xa : Int), .int .i64 (b : Int), .int .i64 im], .int .i64 0]) ∧ Below W.heap.size W w' from by
    have h := I.refDecode_any (w := W) I.mayC vv hv
    rw [hx, he] at h
    exact h)
  have HI := Lib.hid (fun W => refImm_any (w := W) im hi.1 hi.2)
  have HC := Lib.hid hc
  have HB0 := Lib.hid hb0
  have HX0 := Lib.hid hX
  have HR0 := Lib.hid hR
  have hpc := cp_pc hX
  have hlt0 := hX.lt
  rw [hpn] at hpc
  have HPN := Lib.hid hpn
  have hzm : (pn : Int).tmod 4 = (pn : Int) % 4 := Int.tmod_eq_emod_of_nonneg (by omega)
  have hpz : (pn : Int) % 4 = 0 := by rw [← hpn]; exact hz
  have hzb : ((pn : Int) % 4 != 0) = false := by simpa using hpz
  have HI0 := Lib.hid hi
  clear hz hpz hi hp0
  clear hb0 hX hR hM hc hwv hwi hv hx he hpn
  unfold c0A at *
  go_enter Tryd.func16, Tryd.ntmps16
  go_wp2_with fail
  refine (HW.out _ HB0.out).mono ?_
  rintro e W0 ⟨rfl, rfl⟩
  go_wp2_with fail
  refine (HD.out _).mono ?_
  rintro e W1 ⟨rfl, hb1⟩
  have HX1 := Lib.hid (HX0.out.below hb1 HX0.out.lt)
  have HR1 := Lib.hid (HR0.out.below hb1 HR0.out.lt)
  have HB1 := Lib.hid (bl_step HB0.out hb1)
  clear hpc hlt0 hb1 HX0 HR0 HB0 HW HD
  have HS1 := Lib.hid HB1.out.size
  have x0 := (cp_all HX1.out).1
  have x1 := (cp_all HX1.out).2.1
  have x2 := (cp_all HX1.out).2.2.1
  have x3 := (cp_all HX1.out).2.2.2.1
  have x4 := (cp_all HX1.out).2.2.2.2.1
  have x5 := (cp_all HX1.out).2.2.2.2.2.1
  have x6 := (cp_all HX1.out).2.2.2.2.2.2.1
  have x7 := (cp_all HX1.out).2.2.2.2.2.2.2.1
  have x8 := (cp_all HX1.out).2.2.2.2.2.2.2.2.1
  have x9 := (cp_all HX1.out).2.2.2.2.2.2.2.2.2.1
  have x10 := (cp_all HX1.out).2.2.2.2.2.2.2.2.2.2.1
  have xlt := (cp_all HX1.out).2.2.2.2.2.2.2.2.2.2.2
  rw [HPN.out] at x10
  go_upto_region 9 with (fail)
  clear x0 x1 x2 x3 x4 x5 x6 x7 x8 x9 x10 xlt
  have hnx : ((pn : Int) + 4) % 4294967296 = nextP c := by rw [← HPN.out]; rfl
  have HI2 := Lib.hid ((Blk.new W1 38 #[.int .i64 20, .int .i64 (xa : Int), .int .i64 (b : Int), .int .i64 im]).alloc (.cells (c.setPc (nextP c)).arr 28))
  have HN2 := Lib.hid (Blk.new (W1.alloc (.cells #[.int .i64 20, .int .i64 (xa : Int), .int .i64 (b : Int), .int .i64 im] 38)) 28 (c.setPc (nextP c)).arr)
  have HBn := Lib.hid (bl_new (bl_new (Below.refl W1.heap.size W1) (.cells #[.int .i64 20, .int .i64 (xa : Int), .int .i64 (b : Int), .int .i64 im] 38)) (.cells (c.setPc (nextP c)).arr 28))
  have HX2 := Lib.hid (HX1.out.below HBn.out HX1.out.lt)
  have HR2 := Lib.hid (HR1.out.below HBn.out HR1.out.lt)
  have HB2 := Lib.hid (bl_step HB1.out HBn.out)
  have HM2 := Lib.hid (HMM.out.below HB2.out)
  have HG := Lib.hid (show w.heap.size + 1 < W1.heap.size from HR1.out.lt)
  rw [World.size_alloc] at HN2
  clear HBn HX1 HR1 HB1
  unfold Cp.arr Cp.setPc at HI2 HN2 HX2 HR2 HB2 HM2
  rw [hnx]
  clear hnx
  dsimp only at HI2 HN2 HX2 HR2 HB2 HM2
  generalize (W1.alloc (.cells #[.int .i64 20, .int .i64 (xa : Int), .int .i64 (b : Int), .int .i64 im] 38)).alloc (.cells #[.int .u32 (c.r 0), .int .u32 (c.r 1), .int .u32 (c.r 2), .int .u32 (c.r 3), .int .u32 (c.r 4), .int .u32 (c.r 5), .int .u32 (c.r 6), .int .u32 (c.r 7), .complex .f64 (c.z 0).1 (c.z 0).2, .complex .f64 (c.z 1).1 (c.z 1).2, .int .u32 (nextP c)] 28) = W2 at *
  obtain ⟨gn, hgn⟩ : ∃ gn, W1.heap.size + 1 = gn := ⟨_, rfl⟩
  rw [hgn] at HN2 ⊢
  have HGN := Lib.hid hgn
  clear hgn
  generalize W1.heap.size = gi at *
  have i3 := (ccells HI2.out).2.2.2.1
  have ilt := (ccells HI2.out).2.2.2.2
  have n10 : W2.cell? ⟨gn, 10, none⟩ = some (.int .u32 (nextP c)) := cp_pc (show CpAt W2 gn (c.setPc (nextP c)) from HN2.out)
  have nlt := HN2.out.lt
  go_quiet ((go_at_call 32; exact Calls.quiet_of_same (HI.out _)))
  rw [show (nextP c + 4 * (im % 4294967296) % 4294967296) % 4294967296 = farP c im from rfl]
  have HI3 := Lib.hid (HI2.out.drewN nq)
  have HX3 := Lib.hid (show CpAt (W2.drewN nq) w.heap.size c from HX2.out.drewN nq)
  have HN3 := Lib.hid (show CpAt (W2.drewN nq) gn (c.setPc (nextP c)) from HN2.out.drewN nq)
  have HR3 := Lib.hid (HR2.out.drewN nq)
  have HM3 := Lib.hid (HM2.out.below (below_drewN (Below.refl _ W2) nq))
  have HB3 := Lib.hid (But.of_below (S := fun k => k = B) (below_drewN HB2.out nq))
  have HGX := Lib.hid (show gn ≠ w.heap.size ∧ gn ≠ w.heap.size + 1 ∧ gi ≠ gn ∧ w.heap.size ≤ gn ∧ (m ≠ [] → B < w.heap.size) from by
    have h1 := HG.out; have h2 := HGN.out
    exact ⟨by omega, by omega, by omega, by omega, HMM.out.lt⟩)
  clear i3 ilt n10 nlt HI2 HX2 HN2 HR2 HM2 HB2 HI hzm hzb
  generalize W2.drewN nq = W3 at *
  have i0 := (ccells HI3.out).1
  have ilt := (ccells HI3.out).2.2.2.2
  have i1 := (ccells HI3.out).2.1
  have ra := cp_reg HX3.out HA.out
  have xlt := HX3.out.lt
  have hai : (xa : Int) < 8 := by have := HA.out; omega
  have n10 : W3.cell? ⟨gn, 10, none⟩ = some (.int .u32 (nextP c)) := cp_pc HN3.out
  have nf10 := HN3.out.frozen 10
  have nlt := HN3.out.lt
  rw [HRZ.out] at ra
  go_upto_region 40 with (fail)
  have HN4 := Lib.hid (show CpAt (W3.setCell ⟨gn, 10, none⟩ (.int .u32 (farP c im))) gn c2 from by
    have h := (show CpAt W3 gn (c.setPc (nextP c)) from HN3.out).set_ 10 (.int .u32 (farP c im))
    rw [arr_setPc, show (c.setPc (nextP c)).setPc (farP c im) = c.setPc (farP c im) from rfl, HC2.out] at h
    exact h)
  have HX4 := Lib.hid (show CpAt (W3.setCell ⟨gn, 10, none⟩ (.int .u32 (farP c im))) w.heap.size c from (show CpAt W3 w.heap.size c from HX3.out).far (p := ⟨gn, 10, none⟩) (fun e => HGX.out.1 e.symm) _)
  have HI4 := Lib.hid (HI3.out.far (p := ⟨gn, 10, none⟩) HGX.out.2.2.1 (.int .u32 (farP c im)))
  have HR4 := Lib.hid (HR3.out.far (p := ⟨gn, 10, none⟩) (fun e => HGX.out.2.1 e.symm) (.int .u32 (farP c im)))
  have HM4 := Lib.hid (show ByIn (W3.setCell ⟨gn, 10, none⟩ (.int .u32 (farP c im))) A B cap m from by
    by_cases hm : m = []
    · exact ⟨fun h => absurd hm h, HM3.out.cap, HM3.out.low, HM3.out.len⟩
    · exact HM3.out.but (But.setCell (S := fun k => k = gn) (But.refl _ W3) (p := ⟨gn, 10, none⟩) (.inl rfl) (.int .u32 (farP c im))) (fun e : B = gn => by have := HGX.out.2.2.2.2 hm; have := HGX.out.2.2.2.1; omega))
  have HB4 := Lib.hid (HB3.out.setCell (p := ⟨gn, 10, none⟩) (.inr HGX.out.2.2.2.1) (.int .u32 (farP c im)))
  clear i0 ilt i1 ra xlt n10 nf10 nlt HN3 HX3 HI3 HR3 HM3 HB3
  generalize W3.setCell ⟨gn, 10, none⟩ (.int .u32 (farP c im)) = W4 at *
  clear HC2
  have x0 := (cp_all HN4.out).1
  have x1 := (cp_all HN4.out).2.1
  have x2 := (cp_all HN4.out).2.2.1
  have x3 := (cp_all HN4.out).2.2.2.1
  have x4 := (cp_all HN4.out).2.2.2.2.1
  have x5 := (cp_all HN4.out).2.2.2.2.2.1
  have x6 := (cp_all HN4.out).2.2.2.2.2.2.1
  have x7 := (cp_all HN4.out).2.2.2.2.2.2.2.1
  have x8 := (cp_all HN4.out).2.2.2.2.2.2.2.2.1
  have x9 := (cp_all HN4.out).2.2.2.2.2.2.2.2.2.1
  have x10 := (cp_all HN4.out).2.2.2.2.2.2.2.2.2.2.1
  have xlt := (cp_all HN4.out).2.2.2.2.2.2.2.2.2.2.2
  have r0 := (row11 HR4.out).1
  have r1 := (row11 HR4.out).2.1
  have r2 := (row11 HR4.out).2.2.1
  have r3 := (row11 HR4.out).2.2.2.1
  have r4 := (row11 HR4.out).2.2.2.2.1
  have r5 := (row11 HR4.out).2.2.2.2.2.1
  have r6 := (row11 HR4.out).2.2.2.2.2.2.1
  have r7 := (row11 HR4.out).2.2.2.2.2.2.2.1
  have r8 := (row11 HR4.out).2.2.2.2.2.2.2.2.1
  have r9 := (row11 HR4.out).2.2.2.2.2.2.2.2.2.1
  have r10 := (row11 HR4.out).2.2.2.2.2.2.2.2.2.2.1
  have rlt := (row11 HR4.out).2.2.2.2.2.2.2.2.2.2.2
  have rf0 := (HR4.out).frozen 0
  have rf1 := (HR4.out).frozen 1
  have rf2 := (HR4.out).frozen 2
  have rf3 := (HR4.out).frozen 3
  have rf4 := (HR4.out).frozen 4
  have rf5 := (HR4.out).frozen 5
  have rf6 := (HR4.out).frozen 6
  have rf7 := (HR4.out).frozen 7
  have rf8 := (HR4.out).frozen 8
  have rf9 := (HR4.out).frozen 9
  have rf10 := (HR4.out).frozen 10
  go_wp2
  refine bodyPost_ret (results_row_tmp Tryd.results16 _ rfl (set11_blk HR4.out (.int .u32 (c2.r 0)) (.int .u32 (c2.r 1)) (.int .u32 (c2.r 2)) (.int .u32 (c2.r 3)) (.int .u32 (c2.r 4)) (.int .u32 (c2.r 5)) (.int .u32 (c2.r 6)) (.int .u32 (c2.r 7)) (.complex .f64 (c2.z 0).1 (c2.z 0).2) (.complex .f64 (c2.z 1).1 (c2.z 1).2) (.int .u32 c2.pc)) Tryd.underlying28 rfl (by kernel_rfl)) rfl ⟨rfl, ?_, ?_⟩
  · by_cases hm : m = []
    · exact ⟨fun h => absurd hm h, HM4.out.cap, HM4.out.low, HM4.out.len⟩
    · exact HM4.out.but (set11_but (S := fun k => k = w.heap.size + 1) (g := w.heap.size + 1) (But.refl _ W4) (.inl rfl) (.int .u32 (c2.r 0)) (.int .u32 (c2.r 1)) (.int .u32 (c2.r 2)) (.int .u32 (c2.r 3)) (.int .u32 (c2.r 4)) (.int .u32 (c2.r 5)) (.int .u32 (c2.r 6)) (.int .u32 (c2.r 7)) (.complex .f64 (c2.z 0).1 (c2.z 0).2) (.complex .f64 (c2.z 1).1 (c2.z 1).2) (.int .u32 c2.pc)) (fun e : B = w.heap.size + 1 => by have := HGX.out.2.2.2.2 hm; omega)
  · exact set11_but HB4.out (.inr (by omega)) (.int .u32 (c2.r 0)) (.int .u32 (c2.r 1)) (.int .u32 (c2.r 2)) (.int .u32 (c2.r 3)) (.int .u32 (c2.r 4)) (.int .u32 (c2.r 5)) (.int .u32 (c2.r 6)) (.int .u32 (c2.r 7)) (.complex .f64 (c2.z 0).1 (c2.z 0).2) (.complex .f64 (c2.z 1).1 (c2.z 1).2) (.int .u32 c2.pc)

set_option maxRecDepth 100000 in
set_option maxHeartbeats 16000000 in
theorem rs_jz_no {w : World} {A : Option Addr} {B cap : Nat} {c : Cp} {m : List Int} (hM : ByIn w A B cap m) (hc : c.Ok) (vv : Int) (xa b : Nat) (im : Int) (hwv : (wordM m c.pc.toNat).getD 0 = vv) (hwi : (wordM m c.pc.toNat).isSome = true) (hv : I.RangeW vv) (hx : I.decO vv = ⟨20, (xa : Int), (b : Int), im⟩) (he : I.errI (I.decI vv) = 0) (hz : c.pc % 4 = 0) (hi : -32768 ≤ im ∧ im ≤ 32767) (ha : xa < 8) (hr : c.r xa ≠ 0) (c2 : Cp) (hc2 : c.setPc (nextP c) = c2) :
    Calls Tryd.prog 16 #[.agg c.arr, .slice A m.length cap] w (OutR w A B cap (c2, 0, m)) := by
  have HMM := Lib.hid hM
  have hp0 := hc.p0
  have HA := Lib.hid ha
  clear ha
  have HC2 := Lib.hid hc2
  clear hc2
  have HRZ := Lib.hid hr
  clear hr
  have hb0 := bl_new (bl_new (Below.refl w.heap.size w) (.cells c.arr 28)) (.cells c0A 28)
  have hX := (Blk.new w 28 c.arr).alloc (.cells c0A 28)
  have hR := Blk.new (w.alloc (.cells c.arr 28)) 28 c0A
  simp only [World.size_alloc] at hR
  obtain ⟨pn, hpn⟩ := Int.eq_ofNat_of_zero_le hc.p0
  have hp1 := hc.p1
  rw [hpn, Int.toNat_natCast] at hwv hwi
  have HW := Lib.hid (fun W (hW : Below w.heap.size w W) => show Calls Tryd.prog 30 #[.slice A m.length cap, .int .u32 (pn : Int)] W fun e w' => e = .returned (.tuple #[.int .u32 vv, .bool true]) ∧ w' = W from by
    have h := refWord7_any (hM.below hW) pn (by omega)
    rw [hwv, hwi] at h
    exact h)
  have HD := Lib.hid (fun W => show Calls Tryd.prog 31 #[.int .u32 vv] W fun e w' => e = .returned (.tuple #[.agg #[.int .i64 20, .int .i64 (xa : Int), .int .i64 (b : Int), .int .i64 im], .int .i64 0]) ∧ Below W.heap.size W w' from by
    have h := I.refDecode_any (w := W) I.mayC vv hv
    rw [hx, he] at h
    exact h)
  have HI := Lib.hid (fun W => refImm_any (w := W) im hi.1 hi.2)
  have HC := Lib.hid hc
  have HB0 := Lib.hid hb0
  have HX0 := Lib.hid hX
  have HR0 := Lib.hid hR
  have hpc := cp_pc hX
  have hlt0 := hX.lt
  rw [hpn] at hpc
  have HPN := Lib.hid hpn
  have hzm : (pn : Int).tmod 4 = (pn : Int) % 4 := Int.tmod_eq_emod_of_nonneg (by omega)
  have hpz : (pn : Int) % 4 = 0 := by rw [← hpn]; exact hz
  have hzb : ((pn : Int) % 4 != 0) = false := by simpa using hpz
  have HI0 := Lib.hid hi
  clear hz hpz hi hp0
  clear hb0 hX hR hM hc hwv hwi hv hx he hpn
  unfold c0A at *
  go_enter Tryd.func16, Tryd.ntmps16
  go_wp2_with fail
  refine (HW.out _ HB0.out).mono ?_
  rintro e W0 ⟨rfl, rfl⟩
  go_wp2_with fail
  refine (HD.out _).mono ?_
  rintro e W1 ⟨rfl, hb1⟩
  have HX1 := Lib.hid (HX0.out.below hb1 HX0.out.lt)
  have HR1 := Lib.hid (HR0.out.below hb1 HR0.out.lt)
  have HB1 := Lib.hid (bl_step HB0.out hb1)
  clear hpc hlt0 hb1 HX0 HR0 HB0 HW HD
  have HS1 := Lib.hid HB1.out.size
  have x0 := (cp_all HX1.out).1
  have x1 := (cp_all HX1.out).2.1
  have x2 := (cp_all HX1.out).2.2.1
  have x3 := (cp_all HX1.out).2.2.2.1
  have x4 := (cp_all HX1.out).2.2.2.2.1
  have x5 := (cp_all HX1.out).2.2.2.2.2.1
  have x6 := (cp_all HX1.out).2.2.2.2.2.2.1
  have x7 := (cp_all HX1.out).2.2.2.2.2.2.2.1
  have x8 := (cp_all HX1.out).2.2.2.2.2.2.2.2.1
  have x9 := (cp_all HX1.out).2.2.2.2.2.2.2.2.2.1
  have x10 := (cp_all HX1.out).2.2.2.2.2.2.2.2.2.2.1
  have xlt := (cp_all HX1.out).2.2.2.2.2.2.2.2.2.2.2
  rw [HPN.out] at x10
  go_upto_region 9 with (fail)
  clear x0 x1 x2 x3 x4 x5 x6 x7 x8 x9 x10 xlt
  have hnx : ((pn : Int) + 4) % 4294967296 = nextP c := by rw [← HPN.out]; rfl
  have HI2 := Lib.hid ((Blk.new W1 38 #[.int .i64 20, .int .i64 (xa : Int), .int .i64 (b : Int), .int .i64 im]).alloc (.cells (c.setPc (nextP c)).arr 28))
  have HN2 := Lib.hid (Blk.new (W1.alloc (.cells #[.int .i64 20, .int .i64 (xa : Int), .int .i64 (b : Int), .int .i64 im] 38)) 28 (c.setPc (nextP c)).arr)
  have HBn := Lib.hid (bl_new (bl_new (Below.refl W1.heap.size W1) (.cells #[.int .i64 20, .int .i64 (xa : Int), .int .i64 (b : Int), .int .i64 im] 38)) (.cells (c.setPc (nextP c)).arr 28))
  have HX2 := Lib.hid (HX1.out.below HBn.out HX1.out.lt)
  have HR2 := Lib.hid (HR1.out.below HBn.out HR1.out.lt)
  have HB2 := Lib.hid (bl_step HB1.out HBn.out)
  have HM2 := Lib.hid (HMM.out.below HB2.out)
  have HG := Lib.hid (show w.heap.size + 1 < W1.heap.size from HR1.out.lt)
  rw [World.size_alloc] at HN2
  clear HBn HX1 HR1 HB1
  unfold Cp.arr Cp.setPc at HI2 HN2 HX2 HR2 HB2 HM2
  rw [hnx]
  clear hnx
  dsimp only at HI2 HN2 HX2 HR2 HB2 HM2
  generalize (W1.alloc (.cells #[.int .i64 20, .int .i64 (xa : Int), .int .i64 (b : Int), .int .i64 im] 38)).alloc (.cells #[.int .u32 (c.r 0), .int .u32 (c.r 1), .int .u32 (c.r 2), .int .u32 (c.r 3), .int .u32 (c.r 4), .int .u32 (c.r 5), .int .u32 (c.r 6), .int .u32 (c.r 7), .complex .f64 (c.z 0).1 (c.z 0).2, .complex .f64 (c.z 1).1 (c.z 1).2, .int .u32 (nextP c)] 28) = W2 at *
  obtain ⟨gn, hgn⟩ : ∃ gn, W1.heap.size + 1 = gn := ⟨_, rfl⟩
  rw [hgn] at HN2 ⊢
  have HGN := Lib.hid hgn
  clear hgn
  generalize W1.heap.size = gi at *
  have i3 := (ccells HI2.out).2.2.2.1
  have ilt := (ccells HI2.out).2.2.2.2
  have n10 : W2.cell? ⟨gn, 10, none⟩ = some (.int .u32 (nextP c)) := cp_pc (show CpAt W2 gn (c.setPc (nextP c)) from HN2.out)
  have nlt := HN2.out.lt
  go_quiet ((go_at_call 32; exact Calls.quiet_of_same (HI.out _)))
  rw [show (nextP c + 4 * (im % 4294967296) % 4294967296) % 4294967296 = farP c im from rfl]
  have HI3 := Lib.hid (HI2.out.drewN nq)
  have HX3 := Lib.hid (show CpAt (W2.drewN nq) w.heap.size c from HX2.out.drewN nq)
  have HN3 := Lib.hid (show CpAt (W2.drewN nq) gn (c.setPc (nextP c)) from HN2.out.drewN nq)
  have HR3 := Lib.hid (HR2.out.drewN nq)
  have HM3 := Lib.hid (HM2.out.below (below_drewN (Below.refl _ W2) nq))
  have HB3 := Lib.hid (But.of_below (S := fun k => k = B) (below_drewN HB2.out nq))
  have HGX := Lib.hid (show gn ≠ w.heap.size ∧ gn ≠ w.heap.size + 1 ∧ gi ≠ gn ∧ w.heap.size ≤ gn ∧ (m ≠ [] → B < w.heap.size) from by
    have h1 := HG.out; have h2 := HGN.out
    exact ⟨by omega, by omega, by omega, by omega, HMM.out.lt⟩)
  clear i3 ilt n10 nlt HI2 HX2 HN2 HR2 HM2 HB2 HI hzm hzb
  generalize W2.drewN nq = W3 at *
  have i0 := (ccells HI3.out).1
  have ilt := (ccells HI3.out).2.2.2.2
  have i1 := (ccells HI3.out).2.1
  have ra := cp_reg HX3.out HA.out
  have xlt := HX3.out.lt
  have hai : (xa : Int) < 8 := by have := HA.out; omega
  have hrz : (c.r xa == 0) = false := by simpa using HRZ.out
  have hrn : (c.r xa != 0) = true := by simpa using HRZ.out
  go_upto_region 40 with (fail)
  have HN3b := Lib.hid (show CpAt W3 gn c2 from by have h := HN3.out; rw [HC2.out] at h; exact h)
  clear i0 ilt i1 ra xlt HC2
  have x0 := (cp_all HN3b.out).1
  have x1 := (cp_all HN3b.out).2.1
  have x2 := (cp_all HN3b.out).2.2.1
  have x3 := (cp_all HN3b.out).2.2.2.1
  have x4 := (cp_all HN3b.out).2.2.2.2.1
  have x5 := (cp_all HN3b.out).2.2.2.2.2.1
  have x6 := (cp_all HN3b.out).2.2.2.2.2.2.1
  have x7 := (cp_all HN3b.out).2.2.2.2.2.2.2.1
  have x8 := (cp_all HN3b.out).2.2.2.2.2.2.2.2.1
  have x9 := (cp_all HN3b.out).2.2.2.2.2.2.2.2.2.1
  have x10 := (cp_all HN3b.out).2.2.2.2.2.2.2.2.2.2.1
  have xlt := (cp_all HN3b.out).2.2.2.2.2.2.2.2.2.2.2
  have r0 := (row11 HR3.out).1
  have r1 := (row11 HR3.out).2.1
  have r2 := (row11 HR3.out).2.2.1
  have r3 := (row11 HR3.out).2.2.2.1
  have r4 := (row11 HR3.out).2.2.2.2.1
  have r5 := (row11 HR3.out).2.2.2.2.2.1
  have r6 := (row11 HR3.out).2.2.2.2.2.2.1
  have r7 := (row11 HR3.out).2.2.2.2.2.2.2.1
  have r8 := (row11 HR3.out).2.2.2.2.2.2.2.2.1
  have r9 := (row11 HR3.out).2.2.2.2.2.2.2.2.2.1
  have r10 := (row11 HR3.out).2.2.2.2.2.2.2.2.2.2.1
  have rlt := (row11 HR3.out).2.2.2.2.2.2.2.2.2.2.2
  have rf0 := (HR3.out).frozen 0
  have rf1 := (HR3.out).frozen 1
  have rf2 := (HR3.out).frozen 2
  have rf3 := (HR3.out).frozen 3
  have rf4 := (HR3.out).frozen 4
  have rf5 := (HR3.out).frozen 5
  have rf6 := (HR3.out).frozen 6
  have rf7 := (HR3.out).frozen 7
  have rf8 := (HR3.out).frozen 8
  have rf9 := (HR3.out).frozen 9
  have rf10 := (HR3.out).frozen 10
  go_wp2
  refine bodyPost_ret (results_row_tmp Tryd.results16 _ rfl (set11_blk HR3.out (.int .u32 (c2.r 0)) (.int .u32 (c2.r 1)) (.int .u32 (c2.r 2)) (.int .u32 (c2.r 3)) (.int .u32 (c2.r 4)) (.int .u32 (c2.r 5)) (.int .u32 (c2.r 6)) (.int .u32 (c2.r 7)) (.complex .f64 (c2.z 0).1 (c2.z 0).2) (.complex .f64 (c2.z 1).1 (c2.z 1).2) (.int .u32 c2.pc)) Tryd.underlying28 rfl (by kernel_rfl)) rfl ⟨rfl, ?_, ?_⟩
  · by_cases hm : m = []
    · exact ⟨fun h => absurd hm h, HM3.out.cap, HM3.out.low, HM3.out.len⟩
    · exact HM3.out.but (set11_but (S := fun k => k = w.heap.size + 1) (g := w.heap.size + 1) (But.refl _ W3) (.inl rfl) (.int .u32 (c2.r 0)) (.int .u32 (c2.r 1)) (.int .u32 (c2.r 2)) (.int .u32 (c2.r 3)) (.int .u32 (c2.r 4)) (.int .u32 (c2.r 5)) (.int .u32 (c2.r 6)) (.int .u32 (c2.r 7)) (.complex .f64 (c2.z 0).1 (c2.z 0).2) (.complex .f64 (c2.z 1).1 (c2.z 1).2) (.int .u32 c2.pc)) (fun e : B = w.heap.size + 1 => by have := HGX.out.2.2.2.2 hm; omega)
  · exact set11_but HB3.out (.inr (by omega)) (.int .u32 (c2.r 0)) (.int .u32 (c2.r 1)) (.int .u32 (c2.r 2)) (.int .u32 (c2.r 3)) (.int .u32 (c2.r 4)) (.int .u32 (c2.r 5)) (.int .u32 (c2.r 6)) (.int .u32 (c2.r 7)) (.complex .f64 (c2.z 0).1 (c2.z 0).2) (.complex .f64 (c2.z 1).1 (c2.z 1).2) (.int .u32 c2.pc)

set_option maxRecDepth 100000 in
set_option maxHeartbeats 16000000 in
theorem rs_jnz_go {w : World} {A : Option Addr} {B cap : Nat} {c : Cp} {m : List Int} (hM : ByIn w A B cap m) (hc : c.Ok) (vv : Int) (xa b : Nat) (im : Int) (hwv : (wordM m c.pc.toNat).getD 0 = vv) (hwi : (wordM m c.pc.toNat).isSome = true) (hv : I.RangeW vv) (hx : I.decO vv = ⟨21, (xa : Int), (b : Int), im⟩) (he : I.errI (I.decI vv) = 0) (hz : c.pc % 4 = 0) (hi : -32768 ≤ im ∧ im ≤ 32767) (ha : xa < 8) (hr : c.r xa ≠ 0) (c2 : Cp) (hc2 : c.setPc (farP c im) = c2) :
    Calls Tryd.prog 16 #[.agg c.arr, .slice A m.length cap] w (OutR w A B cap (c2, 0, m)) := by
  have HMM := Lib.hid hM
  have hp0 := hc.p0
  have HA := Lib.hid ha
  clear ha
  have HC2 := Lib.hid hc2
  clear hc2
  have HRZ := Lib.hid hr
  clear hr
  have hb0 := bl_new (bl_new (Below.refl w.heap.size w) (.cells c.arr 28)) (.cells c0A 28)
  have hX := (Blk.new w 28 c.arr).alloc (.cells c0A 28)
  have hR := Blk.new (w.alloc (.cells c.arr 28)) 28 c0A
  simp only [World.size_alloc] at hR
  obtain ⟨pn, hpn⟩ := Int.eq_ofNat_of_zero_le hc.p0
  have hp1 := hc.p1
  rw [hpn, Int.toNat_natCast] at hwv hwi
  have HW := Lib.hid (fun W (hW : Below w.heap.size w W) => show Calls Tryd.prog 30 #[.slice A m.length cap, .int .u32 (pn : Int)] W fun e w' => e = .returned (.tuple #[.int .u32 vv, .bool true]) ∧ w' = W from by
    have h := refWord7_any (hM.below hW) pn (by omega)
    rw [hwv, hwi] at h
    exact h)
  have HD := Lib.hid (fun W => show Calls Tryd.prog 31 #[.int .u32 vv] W fun e w' => e = .returned (.tuple #[.agg #[.int .i64 21, .int .i64 (xa : Int), .int .i64 (b : Int), .int .i64 im], .int .i64 0]) ∧ Below W.heap.size W w' from by
    have h := I.refDecode_any (w := W) I.mayC vv hv
    rw [hx, he] at h
    exact h)
  have HI := Lib.hid (fun W => refImm_any (w := W) im hi.1 hi.2)
  have HC := Lib.hid hc
  have HB0 := Lib.hid hb0
  have HX0 := Lib.hid hX
  have HR0 := Lib.hid hR
  have hpc := cp_pc hX
  have hlt0 := hX.lt
  rw [hpn] at hpc
  have HPN := Lib.hid hpn
  have hzm : (pn : Int).tmod 4 = (pn : Int) % 4 := Int.tmod_eq_emod_of_nonneg (by omega)
  have hpz : (pn : Int) % 4 = 0 := by rw [← hpn]; exact hz
  have hzb : ((pn : Int) % 4 != 0) = false := by simpa using hpz
  have HI0 := Lib.hid hi
  clear hz hpz hi hp0
  clear hb0 hX hR hM hc hwv hwi hv hx he hpn
  unfold c0A at *
  go_enter Tryd.func16, Tryd.ntmps16
  go_wp2_with fail
  refine (HW.out _ HB0.out).mono ?_
  rintro e W0 ⟨rfl, rfl⟩
  go_wp2_with fail
  refine (HD.out _).mono ?_
  rintro e W1 ⟨rfl, hb1⟩
  have HX1 := Lib.hid (HX0.out.below hb1 HX0.out.lt)
  have HR1 := Lib.hid (HR0.out.below hb1 HR0.out.lt)
  have HB1 := Lib.hid (bl_step HB0.out hb1)
  clear hpc hlt0 hb1 HX0 HR0 HB0 HW HD
  have HS1 := Lib.hid HB1.out.size
  have x0 := (cp_all HX1.out).1
  have x1 := (cp_all HX1.out).2.1
  have x2 := (cp_all HX1.out).2.2.1
  have x3 := (cp_all HX1.out).2.2.2.1
  have x4 := (cp_all HX1.out).2.2.2.2.1
  have x5 := (cp_all HX1.out).2.2.2.2.2.1
  have x6 := (cp_all HX1.out).2.2.2.2.2.2.1
  have x7 := (cp_all HX1.out).2.2.2.2.2.2.2.1
  have x8 := (cp_all HX1.out).2.2.2.2.2.2.2.2.1
  have x9 := (cp_all HX1.out).2.2.2.2.2.2.2.2.2.1
  have x10 := (cp_all HX1.out).2.2.2.2.2.2.2.2.2.2.1
  have xlt := (cp_all HX1.out).2.2.2.2.2.2.2.2.2.2.2
  rw [HPN.out] at x10
  go_upto_region 9 with (fail)
  clear x0 x1 x2 x3 x4 x5 x6 x7 x8 x9 x10 xlt
  have hnx : ((pn : Int) + 4) % 4294967296 = nextP c := by rw [← HPN.out]; rfl
  have HI2 := Lib.hid ((Blk.new W1 38 #[.int .i64 21, .int .i64 (xa : Int), .int .i64 (b : Int), .int .i64 im]).alloc (.cells (c.setPc (nextP c)).arr 28))
  have HN2 := Lib.hid (Blk.new (W1.alloc (.cells #[.int .i64 21, .int .i64 (xa : Int), .int .i64 (b : Int), .int .i64 im] 38)) 28 (c.setPc (nextP c)).arr)
  have HBn := Lib.hid (bl_new (bl_new (Below.refl W1.heap.size W1) (.cells #[.int .i64 21, .int .i64 (xa : Int), .int .i64 (b : Int), .int .i64 im] 38)) (.cells (c.setPc (nextP c)).arr 28))
  have HX2 := Lib.hid (HX1.out.below HBn.out HX1.out.lt)
  have HR2 := Lib.hid (HR1.out.below HBn.out HR1.out.lt)
  have HB2 := Lib.hid (bl_step HB1.out HBn.out)
  have HM2 := Lib.hid (HMM.out.below HB2.out)
  have HG := Lib.hid (show w.heap.size + 1 < W1.heap.size from HR1.out.lt)
  rw [World.size_alloc] at HN2
  clear HBn HX1 HR1 HB1
  unfold Cp.arr Cp.setPc at HI2 HN2 HX2 HR2 HB2 HM2
  rw [hnx]
  clear hnx
  dsimp only at HI2 HN2 HX2 HR2 HB2 HM2
  generalize (W1.alloc (.cells #[.int .i64 21, .int .i64 (xa : Int), .int .i64 (b : Int), .int .i64 im] 38)).alloc (.cells #[.int .u32 (c.r 0), .int .u32 (c.r 1), .int .u32 (c.r 2), .int .u32 (c.r 3), .int .u32 (c.r 4), .int .u32 (c.r 5), .int .u32 (c.r 6), .int .u32 (c.r 7), .complex .f64 (c.z 0).1 (c.z 0).2, .complex .f64 (c.z 1).1 (c.z 1).2, .int .u32 (nextP c)] 28) = W2 at *
  obtain ⟨gn, hgn⟩ : ∃ gn, W1.heap.size + 1 = gn := ⟨_, rfl⟩
  rw [hgn] at HN2 ⊢
  have HGN := Lib.hid hgn
  clear hgn
  generalize W1.heap.size = gi at *
  have i3 := (ccells HI2.out).2.2.2.1
  have ilt := (ccells HI2.out).2.2.2.2
  have n10 : W2.cell? ⟨gn, 10, none⟩ = some (.int .u32 (nextP c)) := cp_pc (show CpAt W2 gn (c.setPc (nextP c)) from HN2.out)
  have nlt := HN2.out.lt
  go_quiet ((go_at_call 32; exact Calls.quiet_of_same (HI.out _)))
  rw [show (nextP c + 4 * (im % 4294967296) % 4294967296) % 4294967296 = farP c im from rfl]
  have HI3 := Lib.hid (HI2.out.drewN nq)
  have HX3 := Lib.hid (show CpAt (W2.drewN nq) w.heap.size c from HX2.out.drewN nq)
  have HN3 := Lib.hid (show CpAt (W2.drewN nq) gn (c.setPc (nextP c)) from HN2.out.drewN nq)
  have HR3 := Lib.hid (HR2.out.drewN nq)
  have HM3 := Lib.hid (HM2.out.below (below_drewN (Below.refl _ W2) nq))
  have HB3 := Lib.hid (But.of_below (S := fun k => k = B) (below_drewN HB2.out nq))
  have HGX := Lib.hid (show gn ≠ w.heap.size ∧ gn ≠ w.heap.size + 1 ∧ gi ≠ gn ∧ w.heap.size ≤ gn ∧ (m ≠ [] → B < w.heap.size) from by
    have h1 := HG.out; have h2 := HGN.out
    exact ⟨by omega, by omega, by omega, by omega, HMM.out.lt⟩)
  clear i3 ilt n10 nlt HI2 HX2 HN2 HR2 HM2 HB2 HI hzm hzb
  generalize W2.drewN nq = W3 at *
  have i0 := (ccells HI3.out).1
  have ilt := (ccells HI3.out).2.2.2.2
  have i1 := (ccells HI3.out).2.1
  have ra := cp_reg HX3.out HA.out
  have xlt := HX3.out.lt
  have hai : (xa : Int) < 8 := by have := HA.out; omega
  have n10 : W3.cell? ⟨gn, 10, none⟩ = some (.int .u32 (nextP c)) := cp_pc HN3.out
  have nf10 := HN3.out.frozen 10
  have nlt := HN3.out.lt
  have hrz : (c.r xa == 0) = false := by simpa using HRZ.out
  have hrn : (c.r xa != 0) = true := by simpa using HRZ.out
  go_upto_region 40 with (fail)
  have HN4 := Lib.hid (show CpAt (W3.setCell ⟨gn, 10, none⟩ (.int .u32 (farP c im))) gn c2 from by
    have h := (show CpAt W3 gn (c.setPc (nextP c)) from HN3.out).set_ 10 (.int .u32 (farP c im))
    rw [arr_setPc, show (c.setPc (nextP c)).setPc (farP c im) = c.setPc (farP c im) from rfl, HC2.out] at h
    exact h)
  have HX4 := Lib.hid (show CpAt (W3.setCell ⟨gn, 10, none⟩ (.int .u32 (farP c im))) w.heap.size c from (show CpAt W3 w.heap.size c from HX3.out).far (p := ⟨gn, 10, none⟩) (fun e => HGX.out.1 e.symm) _)
  have HI4 := Lib.hid (HI3.out.far (p := ⟨gn, 10, none⟩) HGX.out.2.2.1 (.int .u32 (farP c im)))
  have HR4 := Lib.hid (HR3.out.far (p := ⟨gn, 10, none⟩) (fun e => HGX.out.2.1 e.symm) (.int .u32 (farP c im)))
  have HM4 := Lib.hid (show ByIn (W3.setCell ⟨gn, 10, none⟩ (.int .u32 (farP c im))) A B cap m from by
    by_cases hm : m = []
    · exact ⟨fun h => absurd hm h, HM3.out.cap, HM3.out.low, HM3.out.len⟩
    · exact HM3.out.but (But.setCell (S := fun k => k = gn) (But.refl _ W3) (p := ⟨gn, 10, none⟩) (.inl rfl) (.int .u32 (farP c im))) (fun e : B = gn => by have := HGX.out.2.2.2.2 hm; have := HGX.out.2.2.2.1; omega))
  have HB4 := Lib.hid (HB3.out.setCell (p := ⟨gn, 10, none⟩) (.inr HGX.out.2.2.2.1) (.int .u32 (farP c im)))
  clear i0 ilt i1 ra xlt n10 nf10 nlt HN3 HX3 HI3 HR3 HM3 HB3
  generalize W3.setCell ⟨gn, 10, none⟩ (.int .u32 (farP c im)) = W4 at *
  clear HC2
  have x0 := (cp_all HN4.out).1
  have x1 := (cp_all HN4.out).2.1
  have x2 := (cp_all HN4.out).2.2.1
  have x3 := (cp_all HN4.out).2.2.2.1
  have x4 := (cp_all HN4.out).2.2.2.2.1
  have x5 := (cp_all HN4.out).2.2.2.2.2.1
  have x6 := (cp_all HN4.out).2.2.2.2.2.2.1
  have x7 := (cp_all HN4.out).2.2.2.2.2.2.2.1
  have x8 := (cp_all HN4.out).2.2.2.2.2.2.2.2.1
  have x9 := (cp_all HN4.out).2.2.2.2.2.2.2.2.2.1
  have x10 := (cp_all HN4.out).2.2.2.2.2.2.2.2.2.2.1
  have xlt := (cp_all HN4.out).2.2.2.2.2.2.2.2.2.2.2
  have r0 := (row11 HR4.out).1
  have r1 := (row11 HR4.out).2.1
  have r2 := (row11 HR4.out).2.2.1
  have r3 := (row11 HR4.out).2.2.2.1
  have r4 := (row11 HR4.out).2.2.2.2.1
  have r5 := (row11 HR4.out).2.2.2.2.2.1
  have r6 := (row11 HR4.out).2.2.2.2.2.2.1
  have r7 := (row11 HR4.out).2.2.2.2.2.2.2.1
  have r8 := (row11 HR4.out).2.2.2.2.2.2.2.2.1
  have r9 := (row11 HR4.out).2.2.2.2.2.2.2.2.2.1
  have r10 := (row11 HR4.out).2.2.2.2.2.2.2.2.2.2.1
  have rlt := (row11 HR4.out).2.2.2.2.2.2.2.2.2.2.2
  have rf0 := (HR4.out).frozen 0
  have rf1 := (HR4.out).frozen 1
  have rf2 := (HR4.out).frozen 2
  have rf3 := (HR4.out).frozen 3
  have rf4 := (HR4.out).frozen 4
  have rf5 := (HR4.out).frozen 5
  have rf6 := (HR4.out).frozen 6
  have rf7 := (HR4.out).frozen 7
  have rf8 := (HR4.out).frozen 8
  have rf9 := (HR4.out).frozen 9
  have rf10 := (HR4.out).frozen 10
  go_wp2
  refine bodyPost_ret (results_row_tmp Tryd.results16 _ rfl (set11_blk HR4.out (.int .u32 (c2.r 0)) (.int .u32 (c2.r 1)) (.int .u32 (c2.r 2)) (.int .u32 (c2.r 3)) (.int .u32 (c2.r 4)) (.int .u32 (c2.r 5)) (.int .u32 (c2.r 6)) (.int .u32 (c2.r 7)) (.complex .f64 (c2.z 0).1 (c2.z 0).2) (.complex .f64 (c2.z 1).1 (c2.z 1).2) (.int .u32 c2.pc)) Tryd.underlying28 rfl (by kernel_rfl)) rfl ⟨rfl, ?_, ?_⟩
  · by_cases hm : m = []
    · exact ⟨fun h => absurd hm h, HM4.out.cap, HM4.out.low, HM4.out.len⟩
    · exact HM4.out.but (set11_but (S := fun k => k = w.heap.size + 1) (g := w.heap.size + 1) (But.refl _ W4) (.inl rfl) (.int .u32 (c2.r 0)) (.int .u32 (c2.r 1)) (.int .u32 (c2.r 2)) (.int .u32 (c2.r 3)) (.int .u32 (c2.r 4)) (.int .u32 (c2.r 5)) (.int .u32 (c2.r 6)) (.int .u32 (c2.r 7)) (.complex .f64 (c2.z 0).1 (c2.z 0).2) (.complex .f64 (c2.z 1).1 (c2.z 1).2) (.int .u32 c2.pc)) (fun e : B = w.heap.size + 1 => by have := HGX.out.2.2.2.2 hm; omega)
  · exact set11_but HB4.out (.inr (by omega)) (.int .u32 (c2.r 0)) (.int .u32 (c2.r 1)) (.int .u32 (c2.r 2)) (.int .u32 (c2.r 3)) (.int .u32 (c2.r 4)) (.int .u32 (c2.r 5)) (.int .u32 (c2.r 6)) (.int .u32 (c2.r 7)) (.complex .f64 (c2.z 0).1 (c2.z 0).2) (.complex .f64 (c2.z 1).1 (c2.z 1).2) (.int .u32 c2.pc)

set_option maxRecDepth 100000 in
set_option maxHeartbeats 16000000 in
theorem rs_jnz_no {w : World} {A : Option Addr} {B cap : Nat} {c : Cp} {m : List Int} (hM : ByIn w A B cap m) (hc : c.Ok) (vv : Int) (xa b : Nat) (im : Int) (hwv : (wordM m c.pc.toNat).getD 0 = vv) (hwi : (wordM m c.pc.toNat).isSome = true) (hv : I.RangeW vv) (hx : I.decO vv = ⟨21, (xa : Int), (b : Int), im⟩) (he : I.errI (I.decI vv) = 0) (hz : c.pc % 4 = 0) (hi : -32768 ≤ im ∧ im ≤ 32767) (ha : xa < 8) (hr : c.r xa = 0) (c2 : Cp) (hc2 : c.setPc (nextP c) = c2) :
    Calls Tryd.prog 16 #[.agg c.arr, .slice A m.length cap] w (OutR w A B cap (c2, 0, m)) := by
  have HMM := Lib.hid hM
  have hp0 := hc.p0
  have HA := Lib.hid ha
  clear ha
  have HC2 := Lib.hid hc2
  clear hc2
  have HRZ := Lib.hid hr
  clear hr
  have hb0 := bl_new (bl_new (Below.refl w.heap.size w) (.cells c.arr 28)) (.cells c0A 28)
  have hX := (Blk.new w 28 c.arr).alloc (.cells c0A 28)
  have hR := Blk.new (w.alloc (.cells c.arr 28)) 28 c0A
  simp only [World.size_alloc] at hR
  obtain ⟨pn, hpn⟩ := Int.eq_ofNat_of_zero_le hc.p0
  have hp1 := hc.p1
  rw [hpn, Int.toNat_natCast] at hwv hwi
  have HW := Lib.hid (fun W (hW : Below w.heap.size w W) => show Calls Tryd.prog 30 #[.slice A m.length cap, .int .u32 (pn : Int)] W fun e w' => e = .returned (.tuple #[.int .u32 vv, .bool true]) ∧ w' = W from by
    have h := refWord7_any (hM.below hW) pn (by omega)
    rw [hwv, hwi] at h
    exact h)
  have HD := Lib.hid (fun W => show Calls Tryd.prog 31 #[.int .u32 vv] W fun e w' => e = .returned (.tuple #[.agg #[.int .i64 21, .int .i64 (xa : Int), .int .i64 (b : Int), .int .i64 im], .int .i64 0]) ∧ Below W.heap.size W w' from by
    have h := I.refDecode_any (w := W) I.mayC vv hv
    rw [hx, he] at h
    exact h)
  have HI := Lib.hid (fun W => refImm_any (w := W) im hi.1 hi.2)
  have HC := Lib.hid hc
  have HB0 := Lib.hid hb0
  have HX0 := Lib.hid hX
  have HR0 := Lib.hid hR
  have hpc := cp_pc hX
  have hlt0 := hX.lt
  rw [hpn] at hpc
  have HPN := Lib.hid hpn
  have hzm : (pn : Int).tmod 4 = (pn : Int) % 4 := Int.tmod_eq_emod_of_nonneg (by omega)
  have hpz : (pn : Int) % 4 = 0 := by rw [← hpn]; exact hz
  have hzb : ((pn : Int) % 4 != 0) = false := by simpa using hpz
  have HI0 := Lib.hid hi
  clear hz hpz hi hp0
  clear hb0 hX hR hM hc hwv hwi hv hx he hpn
  unfold c0A at *
  go_enter Tryd.func16, Tryd.ntmps16
  go_wp2_with fail
  refine (HW.out _ HB0.out).mono ?_
  rintro e W0 ⟨rfl, rfl⟩
  go_wp2_with fail
  refine (HD.out _).mono ?_
  rintro e W1 ⟨rfl, hb1⟩
  have HX1 := Lib.hid (HX0.out.below hb1 HX0.out.lt)
  have HR1 := Lib.hid (HR0.out.below hb1 HR0.out.lt)
  have HB1 := Lib.hid (bl_step HB0.out hb1)
  clear hpc hlt0 hb1 HX0 HR0 HB0 HW HD
  have HS1 := Lib.hid HB1.out.size
  have x0 := (cp_all HX1.out).1
  have x1 := (cp_all HX1.out).2.1
  have x2 := (cp_all HX1.out).2.2.1
  have x3 := (cp_all HX1.out).2.2.2.1
  have x4 := (cp_all HX1.out).2.2.2.2.1
  have x5 := (cp_all HX1.out).2.2.2.2.2.1
  have x6 := (cp_all HX1.out).2.2.2.2.2.2.1
  have x7 := (cp_all HX1.out).2.2.2.2.2.2.2.1
  have x8 := (cp_all HX1.out).2.2.2.2.2.2.2.2.1
  have x9 := (cp_all HX1.out).2.2.2.2.2.2.2.2.2.1
  have x10 := (cp_all HX1.out).2.2.2.2.2.2.2.2.2.2.1
  have xlt := (cp_all HX1.out).2.2.2.2.2.2.2.2.2.2.2
  rw [HPN.out] at x10
  go_upto_region 9 with (fail)
  clear x0 x1 x2 x3 x4 x5 x6 x7 x8 x9 x10 xlt
  have hnx : ((pn : Int) + 4) % 4294967296 = nextP c := by rw [← HPN.out]; rfl
  have HI2 := Lib.hid ((Blk.new W1 38 #[.int .i64 21, .int .i64 (xa : Int), .int .i64 (b : Int), .int .i64 im]).alloc (.cells (c.setPc (nextP c)).arr 28))
  have HN2 := Lib.hid (Blk.new (W1.alloc (.cells #[.int .i64 21, .int .i64 (xa : Int), .int .i64 (b : Int), .int .i64 im] 38)) 28 (c.setPc (nextP c)).arr)
  have HBn := Lib.hid (bl_new (bl_new (Below.refl W1.heap.size W1) (.cells #[.int .i64 21, .int .i64 (xa : Int), .int .i64 (b : Int), .int .i64 im] 38)) (.cells (c.setPc (nextP c)).arr 28))
  have HX2 := Lib.hid (HX1.out.below HBn.out HX1.out.lt)
  have HR2 := Lib.hid (HR1.out.below HBn.out HR1.out.lt)
  have HB2 := Lib.hid (bl_step HB1.out HBn.out)
  have HM2 := Lib.hid (HMM.out.below HB2.out)
  have HG := Lib.hid (show w.heap.size + 1 < W1.heap.size from HR1.out.lt)
  rw [World.size_alloc] at HN2
  clear HBn HX1 HR1 HB1
  unfold Cp.arr Cp.setPc at HI2 HN2 HX2 HR2 HB2 HM2
  rw [hnx]
  clear hnx
  dsimp only at HI2 HN2 HX2 HR2 HB2 HM2
  generalize (W1.alloc (.cells #[.int .i64 21, .int .i64 (xa : Int), .int .i64 (b : Int), .int .i64 im] 38)).alloc (.cells #[.int .u32 (c.r 0), .int .u32 (c.r 1), .int .u32 (c.r 2), .int .u32 (c.r 3), .int .u32 (c.r 4), .int .u32 (c.r 5), .int .u32 (c.r 6), .int .u32 (c.r 7), .complex .f64 (c.z 0).1 (c.z 0).2, .complex .f64 (c.z 1).1 (c.z 1).2, .int .u32 (nextP c)] 28) = W2 at *
  obtain ⟨gn, hgn⟩ : ∃ gn, W1.heap.size + 1 = gn := ⟨_, rfl⟩
  rw [hgn] at HN2 ⊢
  have HGN := Lib.hid hgn
  clear hgn
  generalize W1.heap.size = gi at *
  have i3 := (ccells HI2.out).2.2.2.1
  have ilt := (ccells HI2.out).2.2.2.2
  have n10 : W2.cell? ⟨gn, 10, none⟩ = some (.int .u32 (nextP c)) := cp_pc (show CpAt W2 gn (c.setPc (nextP c)) from HN2.out)
  have nlt := HN2.out.lt
  go_quiet ((go_at_call 32; exact Calls.quiet_of_same (HI.out _)))
  rw [show (nextP c + 4 * (im % 4294967296) % 4294967296) % 4294967296 = farP c im from rfl]
  have HI3 := Lib.hid (HI2.out.drewN nq)
  have HX3 := Lib.hid (show CpAt (W2.drewN nq) w.heap.size c from HX2.out.drewN nq)
  have HN3 := Lib.hid (show CpAt (W2.drewN nq) gn (c.setPc (nextP c)) from HN2.out.drewN nq)
  have HR3 := Lib.hid (HR2.out.drewN nq)
  have HM3 := Lib.hid (HM2.out.below (below_drewN (Below.refl _ W2) nq))
  have HB3 := Lib.hid (But.of_below (S := fun k => k = B) (below_drewN HB2.out nq))
  have HGX := Lib.hid (show gn ≠ w.heap.size ∧ gn ≠ w.heap.size + 1 ∧ gi ≠ gn ∧ w.heap.size ≤ gn ∧ (m ≠ [] → B < w.heap.size) from by
    have h1 := HG.out; have h2 := HGN.out
    exact ⟨by omega, by omega, by omega, by omega, HMM.out.lt⟩)
  clear i3 ilt n10 nlt HI2 HX2 HN2 HR2 HM2 HB2 HI hzm hzb
  generalize W2.drewN nq = W3 at *
  have i0 := (ccells HI3.out).1
  have ilt := (ccells HI3.out).2.2.2.2
  have i1 := (ccells HI3.out).2.1
  have ra := cp_reg HX3.out HA.out
  have xlt := HX3.out.lt
  have hai : (xa : Int) < 8 := by have := HA.out; omega
  rw [HRZ.out] at ra
  go_upto_region 40 with (fail)
  have HN3b := Lib.hid (show CpAt W3 gn c2 from by have h := HN3.out; rw [HC2.out] at h; exact h)
  clear i0 ilt i1 ra xlt HC2
  have x0 := (cp_all HN3b.out).1
  have x1 := (cp_all HN3b.out).2.1
  have x2 := (cp_all HN3b.out).2.2.1
  have x3 := (cp_all HN3b.out).2.2.2.1
  have x4 := (cp_all HN3b.out).2.2.2.2.1
  have x5 := (cp_all HN3b.out).2.2.2.2.2.1
  have x6 := (cp_all HN3b.out).2.2.2.2.2.2.1
  have x7 := (cp_all HN3b.out).2.2.2.2.2.2.2.1
  have x8 := (cp_all HN3b.out).2.2.2.2.2.2.2.2.1
  have x9 := (cp_all HN3b.out).2.2.2.2.2.2.2.2.2.1
  have x10 := (cp_all HN3b.out).2.2.2.2.2.2.2.2.2.2.1
  have xlt := (cp_all HN3b.out).2.2.2.2.2.2.2.2.2.2.2
  have r0 := (row11 HR3.out).1
  have r1 := (row11 HR3.out).2.1
  have r2 := (row11 HR3.out).2.2.1
  have r3 := (row11 HR3.out).2.2.2.1
  have r4 := (row11 HR3.out).2.2.2.2.1
  have r5 := (row11 HR3.out).2.2.2.2.2.1
  have r6 := (row11 HR3.out).2.2.2.2.2.2.1
  have r7 := (row11 HR3.out).2.2.2.2.2.2.2.1
  have r8 := (row11 HR3.out).2.2.2.2.2.2.2.2.1
  have r9 := (row11 HR3.out).2.2.2.2.2.2.2.2.2.1
  have r10 := (row11 HR3.out).2.2.2.2.2.2.2.2.2.2.1
  have rlt := (row11 HR3.out).2.2.2.2.2.2.2.2.2.2.2
  have rf0 := (HR3.out).frozen 0
  have rf1 := (HR3.out).frozen 1
  have rf2 := (HR3.out).frozen 2
  have rf3 := (HR3.out).frozen 3
  have rf4 := (HR3.out).frozen 4
  have rf5 := (HR3.out).frozen 5
  have rf6 := (HR3.out).frozen 6
  have rf7 := (HR3.out).frozen 7
  have rf8 := (HR3.out).frozen 8
  have rf9 := (HR3.out).frozen 9
  have rf10 := (HR3.out).frozen 10
  go_wp2
  refine bodyPost_ret (results_row_tmp Tryd.results16 _ rfl (set11_blk HR3.out (.int .u32 (c2.r 0)) (.int .u32 (c2.r 1)) (.int .u32 (c2.r 2)) (.int .u32 (c2.r 3)) (.int .u32 (c2.r 4)) (.int .u32 (c2.r 5)) (.int .u32 (c2.r 6)) (.int .u32 (c2.r 7)) (.complex .f64 (c2.z 0).1 (c2.z 0).2) (.complex .f64 (c2.z 1).1 (c2.z 1).2) (.int .u32 c2.pc)) Tryd.underlying28 rfl (by kernel_rfl)) rfl ⟨rfl, ?_, ?_⟩
  · by_cases hm : m = []
    · exact ⟨fun h => absurd hm h, HM3.out.cap, HM3.out.low, HM3.out.len⟩
    · exact HM3.out.but (set11_but (S := fun k => k = w.heap.size + 1) (g := w.heap.size + 1) (But.refl _ W3) (.inl rfl) (.int .u32 (c2.r 0)) (.int .u32 (c2.r 1)) (.int .u32 (c2.r 2)) (.int .u32 (c2.r 3)) (.int .u32 (c2.r 4)) (.int .u32 (c2.r 5)) (.int .u32 (c2.r 6)) (.int .u32 (c2.r 7)) (.complex .f64 (c2.z 0).1 (c2.z 0).2) (.complex .f64 (c2.z 1).1 (c2.z 1).2) (.int .u32 c2.pc)) (fun e : B = w.heap.size + 1 => by have := HGX.out.2.2.2.2 hm; omega)
  · exact set11_but HB3.out (.inr (by omega)) (.int .u32 (c2.r 0)) (.int .u32 (c2.r 1)) (.int .u32 (c2.r 2)) (.int .u32 (c2.r 3)) (.int .u32 (c2.r 4)) (.int .u32 (c2.r 5)) (.int .u32 (c2.r 6)) (.int .u32 (c2.r 7)) (.complex .f64 (c2.z 0).1 (c2.z 0).2) (.complex .f64 (c2.z 1).1 (c2.z 1).2) (.int .u32 c2.pc)

set_option maxRecDepth 100000 in
set_option maxHeartbeats 16000000 in
theorem rs_jal {w : World} {A : Option Addr} {B cap : Nat} {c : Cp} {m : List Int} (hM : ByIn w A B cap m) (hc : c.Ok) (vv : Int) (xa b : Nat) (im : Int) (hwv : (wordM m c.pc.toNat).getD 0 = vv) (hwi : (wordM m c.pc.toNat).isSome = true) (hv : I.RangeW vv) (hx : I.decO vv = ⟨22, (xa : Int), (b : Int), im⟩) (he : I.errI (I.decI vv) = 0) (hz : c.pc % 4 = 0) (hi : -32768 ≤ im ∧ im ≤ 32767) (ha : xa < 8) (c1 c2 : Cp) (hc1 : (c.setPc (nextP c)).setR xa (nextP c) = c1) (hc2 : c1.setPc (farP c im) = c2) :
    Calls Tryd.prog 16 #[.agg c.arr, .slice A m.length cap] w (OutR w A B cap (c2, 0, m)) := by
  have HMM := Lib.hid hM
  have hp0 := hc.p0
  have HA := Lib.hid ha
  clear ha
  have HC2 := Lib.hid hc2
  clear hc2
  have HC1 := Lib.hid hc1
  clear hc1
  have hb0 := bl_new (bl_new (Below.refl w.heap.size w) (.cells c.arr 28)) (.cells c0A 28)
  have hX := (Blk.new w 28 c.arr).alloc (.cells c0A 28)
  have hR := Blk.new (w.alloc (.cells c.arr 28)) 28 c0A
  simp only [World.size_alloc] at hR
  obtain ⟨pn, hpn⟩ := Int.eq_ofNat_of_zero_le hc.p0
  have hp1 := hc.p1
  rw [hpn, Int.toNat_natCast] at hwv hwi
  have HW := Lib.hid (fun W (hW : Below w.heap.size w W) => show Calls Tryd.prog 30 #[.slice A m.length cap, .int .u32 (pn : Int)] W fun e w' => e = .returned (.tuple #[.int .u32 vv, .bool true]) ∧ w' = W from by
    have h := refWord7_any (hM.below hW) pn (by omega)
    rw [hwv, hwi] at h
    exact h)
  have HD := Lib.hid (fun W => show Calls Tryd.prog 31 #[.int .u32 vv] W fun e w' => e = .returned (.tuple #[.agg #[.int .i64 22, .int .i64 (xa : Int), .int .i64 (b : Int), .int .i64 im], .int .i64 0]) ∧ Below W.heap.size W w' from by
    have h := I.refDecode_any (w := W) I.mayC vv hv
    rw [hx, he] at h
    exact h)
  have HI := Lib.hid (fun W => refImm_any (w := W) im hi.1 hi.2)
  have HC := Lib.hid hc
  have HB0 := Lib.hid hb0
  have HX0 := Lib.hid hX
  have HR0 := Lib.hid hR
  have hpc := cp_pc hX
  have hlt0 := hX.lt
  rw [hpn] at hpc
  have HPN := Lib.hid hpn
  have hzm : (pn : Int).tmod 4 = (pn : Int) % 4 := Int.tmod_eq_emod_of_nonneg (by omega)
  have hpz : (pn : Int) % 4 = 0 := by rw [← hpn]; exact hz
  have hzb : ((pn : Int) % 4 != 0) = false := by simpa using hpz
  have HI0 := Lib.hid hi
  clear hz hpz hi hp0
  clear hb0 hX hR hM hc hwv hwi hv hx he hpn
  unfold c0A at *
  go_enter Tryd.func16, Tryd.ntmps16
  go_wp2_with fail
  refine (HW.out _ HB0.out).mono ?_
  rintro e W0 ⟨rfl, rfl⟩
  go_wp2_with fail
  refine (HD.out _).mono ?_
  rintro e W1 ⟨rfl, hb1⟩
  have HX1 := Lib.hid (HX0.out.below hb1 HX0.out.lt)
  have HR1 := Lib.hid (HR0.out.below hb1 HR0.out.lt)
  have HB1 := Lib.hid (bl_step HB0.out hb1)
  clear hpc hlt0 hb1 HX0 HR0 HB0 HW HD
  have HS1 := Lib.hid HB1.out.size
  have x0 := (cp_all HX1.out).1
  have x1 := (cp_all HX1.out).2.1
  have x2 := (cp_all HX1.out).2.2.1
  have x3 := (cp_all HX1.out).2.2.2.1
  have x4 := (cp_all HX1.out).2.2.2.2.1
  have x5 := (cp_all HX1.out).2.2.2.2.2.1
  have x6 := (cp_all HX1.out).2.2.2.2.2.2.1
  have x7 := (cp_all HX1.out).2.2.2.2.2.2.2.1
  have x8 := (cp_all HX1.out).2.2.2.2.2.2.2.2.1
  have x9 := (cp_all HX1.out).2.2.2.2.2.2.2.2.2.1
  have x10 := (cp_all HX1.out).2.2.2.2.2.2.2.2.2.2.1
  have xlt := (cp_all HX1.out).2.2.2.2.2.2.2.2.2.2.2
  rw [HPN.out] at x10
  go_upto_region 9 with (fail)
  clear x0 x1 x2 x3 x4 x5 x6 x7 x8 x9 x10 xlt
  have hnx : ((pn : Int) + 4) % 4294967296 = nextP c := by rw [← HPN.out]; rfl
  have HI2 := Lib.hid ((Blk.new W1 38 #[.int .i64 22, .int .i64 (xa : Int), .int .i64 (b : Int), .int .i64 im]).alloc (.cells (c.setPc (nextP c)).arr 28))
  have HN2 := Lib.hid (Blk.new (W1.alloc (.cells #[.int .i64 22, .int .i64 (xa : Int), .int .i64 (b : Int), .int .i64 im] 38)) 28 (c.setPc (nextP c)).arr)
  have HBn := Lib.hid (bl_new (bl_new (Below.refl W1.heap.size W1) (.cells #[.int .i64 22, .int .i64 (xa : Int), .int .i64 (b : Int), .int .i64 im] 38)) (.cells (c.setPc (nextP c)).arr 28))
  have HX2 := Lib.hid (HX1.out.below HBn.out HX1.out.lt)
  have HR2 := Lib.hid (HR1.out.below HBn.out HR1.out.lt)
  have HB2 := Lib.hid (bl_step HB1.out HBn.out)
  have HM2 := Lib.hid (HMM.out.below HB2.out)
  have HG := Lib.hid (show w.heap.size + 1 < W1.heap.size from HR1.out.lt)
  rw [World.size_alloc] at HN2
  clear HBn HX1 HR1 HB1
  unfold Cp.arr Cp.setPc at HI2 HN2 HX2 HR2 HB2 HM2
  rw [hnx]
  clear hnx
  dsimp only at HI2 HN2 HX2 HR2 HB2 HM2
  generalize (W1.alloc (.cells #[.int .i64 22, .int .i64 (xa : Int), .int .i64 (b : Int), .int .i64 im] 38)).alloc (.cells #[.int .u32 (c.r 0), .int .u32 (c.r 1), .int .u32 (c.r 2), .int .u32 (c.r 3), .int .u32 (c.r 4), .int .u32 (c.r 5), .int .u32 (c.r 6), .int .u32 (c.r 7), .complex .f64 (c.z 0).1 (c.z 0).2, .complex .f64 (c.z 1).1 (c.z 1).2, .int .u32 (nextP c)] 28) = W2 at *
  obtain ⟨gn, hgn⟩ : ∃ gn, W1.heap.size + 1 = gn := ⟨_, rfl⟩
  rw [hgn] at HN2 ⊢
  have HGN := Lib.hid hgn
  clear hgn
  generalize W1.heap.size = gi at *
  have i3 := (ccells HI2.out).2.2.2.1
  have ilt := (ccells HI2.out).2.2.2.2
  have n10 : W2.cell? ⟨gn, 10, none⟩ = some (.int .u32 (nextP c)) := cp_pc (show CpAt W2 gn (c.setPc (nextP c)) from HN2.out)
  have nlt := HN2.out.lt
  go_quiet ((go_at_call 32; exact Calls.quiet_of_same (HI.out _)))
  rw [show (nextP c + 4 * (im % 4294967296) % 4294967296) % 4294967296 = farP c im from rfl]
  have HI3 := Lib.hid (HI2.out.drewN nq)
  have HX3 := Lib.hid (show CpAt (W2.drewN nq) w.heap.size c from HX2.out.drewN nq)
  have HN3 := Lib.hid (show CpAt (W2.drewN nq) gn (c.setPc (nextP c)) from HN2.out.drewN nq)
  have HR3 := Lib.hid (HR2.out.drewN nq)
  have HM3 := Lib.hid (HM2.out.below (below_drewN (Below.refl _ W2) nq))
  have HB3 := Lib.hid (But.of_below (S := fun k => k = B) (below_drewN HB2.out nq))
  have HGX := Lib.hid (show gn ≠ w.heap.size ∧ gn ≠ w.heap.size + 1 ∧ gi ≠ gn ∧ w.heap.size ≤ gn ∧ (m ≠ [] → B < w.heap.size) from by
    have h1 := HG.out; have h2 := HGN.out
    exact ⟨by omega, by omega, by omega, by omega, HMM.out.lt⟩)
  clear i3 ilt n10 nlt HI2 HX2 HN2 HR2 HM2 HB2 HI hzm hzb
  generalize W2.drewN nq = W3 at *
  have i0 := (ccells HI3.out).1
  have ilt := (ccells HI3.out).2.2.2.2
  have i1 := (ccells HI3.out).2.1
  have n10 : W3.cell? ⟨gn, 10, none⟩ = some (.int .u32 (nextP c)) := cp_pc HN3.out
  have nf10 := HN3.out.frozen 10
  have nlt := HN3.out.lt
  have nra := cp_reg HN3.out HA.out
  have nfa := HN3.out.frozen xa
  have hai : (xa : Int) < 8 := by have := HA.out; omega
  go_upto_region 24 with (fail)
  have HN4 := Lib.hid (show CpAt (W3.setCell ⟨gn, xa, none⟩ (.int .u32 (nextP c))) gn c1 from by
    have h := (show CpAt W3 gn (c.setPc (nextP c)) from HN3.out).set_ xa (.int .u32 (nextP c))
    rw [arr_setR _ HA.out, HC1.out] at h
    exact h)
  have HX4 := Lib.hid (show CpAt (W3.setCell ⟨gn, xa, none⟩ (.int .u32 (nextP c))) w.heap.size c from (show CpAt W3 w.heap.size c from HX3.out).far (p := ⟨gn, xa, none⟩) (fun e => HGX.out.1 e.symm) _)
  have HI4 := Lib.hid (HI3.out.far (p := ⟨gn, xa, none⟩) HGX.out.2.2.1 (.int .u32 (nextP c)))
  have HR4 := Lib.hid (HR3.out.far (p := ⟨gn, xa, none⟩) (fun e => HGX.out.2.1 e.symm) (.int .u32 (nextP c)))
  have HM4 := Lib.hid (show ByIn (W3.setCell ⟨gn, xa, none⟩ (.int .u32 (nextP c))) A B cap m from by
    by_cases hm : m = []
    · exact ⟨fun h => absurd hm h, HM3.out.cap, HM3.out.low, HM3.out.len⟩
    · exact HM3.out.but (But.setCell (S := fun k => k = gn) (But.refl _ W3) (p := ⟨gn, xa, none⟩) (.inl rfl) (.int .u32 (nextP c))) (fun e : B = gn => by have := HGX.out.2.2.2.2 hm; have := HGX.out.2.2.2.1; omega))
  have HB4 := Lib.hid (HB3.out.setCell (p := ⟨gn, xa, none⟩) (.inr HGX.out.2.2.2.1) (.int .u32 (nextP c)))
  clear i0 ilt i1 n10 nf10 nlt nra nfa hai HN3 HX3 HI3 HR3 HM3 HB3
  generalize W3.setCell ⟨gn, xa, none⟩ (.int .u32 (nextP c)) = W4 at *
  have n10 := cp_pc HN4.out
  have nf10 := HN4.out.frozen 10
  have nlt := HN4.out.lt
  go_upto_region 40 with (fail)
  have HN5 := Lib.hid (show CpAt (W4.setCell ⟨gn, 10, none⟩ (.int .u32 (farP c im))) gn c2 from by
    have h := (show CpAt W4 gn c1 from HN4.out).set_ 10 (.int .u32 (farP c im))
    rw [arr_setPc, HC2.out] at h
    exact h)
  have HX5 := Lib.hid (show CpAt (W4.setCell ⟨gn, 10, none⟩ (.int .u32 (farP c im))) w.heap.size c from (show CpAt W4 w.heap.size c from HX4.out).far (p := ⟨gn, 10, none⟩) (fun e => HGX.out.1 e.symm) _)
  have HI5 := Lib.hid (HI4.out.far (p := ⟨gn, 10, none⟩) HGX.out.2.2.1 (.int .u32 (farP c im)))
  have HR5 := Lib.hid (HR4.out.far (p := ⟨gn, 10, none⟩) (fun e => HGX.out.2.1 e.symm) (.int .u32 (farP c im)))
  have HM5 := Lib.hid (show ByIn (W4.setCell ⟨gn, 10, none⟩ (.int .u32 (farP c im))) A B cap m from by
    by_cases hm : m = []
    · exact ⟨fun h => absurd hm h, HM4.out.cap, HM4.out.low, HM4.out.len⟩
    · exact HM4.out.but (But.setCell (S := fun k => k = gn) (But.refl _ W4) (p := ⟨gn, 10, none⟩) (.inl rfl) (.int .u32 (farP c im))) (fun e : B = gn => by have := HGX.out.2.2.2.2 hm; have := HGX.out.2.2.2.1; omega))
  have HB5 := Lib.hid (HB4.out.setCell (p := ⟨gn, 10, none⟩) (.inr HGX.out.2.2.2.1) (.int .u32 (farP c im)))
  clear n10 nf10 nlt HN4 HX4 HI4 HR4 HM4 HB4
  generalize W4.setCell ⟨gn, 10, none⟩ (.int .u32 (farP c im)) = W5 at *
  clear HC1 HC2
  have x0 := (cp_all HN5.out).1
  have x1 := (cp_all HN5.out).2.1
  have x2 := (cp_all HN5.out).2.2.1
  have x3 := (cp_all HN5.out).2.2.2.1
  have x4 := (cp_all HN5.out).2.2.2.2.1
  have x5 := (cp_all HN5.out).2.2.2.2.2.1
  have x6 := (cp_all HN5.out).2.2.2.2.2.2.1
  have x7 := (cp_all HN5.out).2.2.2.2.2.2.2.1
  have x8 := (cp_all HN5.out).2.2.2.2.2.2.2.2.1
  have x9 := (cp_all HN5.out).2.2.2.2.2.2.2.2.2.1
  have x10 := (cp_all HN5.out).2.2.2.2.2.2.2.2.2.2.1
  have xlt := (cp_all HN5.out).2.2.2.2.2.2.2.2.2.2.2
  have r0 := (row11 HR5.out).1
  have r1 := (row11 HR5.out).2.1
  have r2 := (row11 HR5.out).2.2.1
  have r3 := (row11 HR5.out).2.2.2.1
  have r4 := (row11 HR5.out).2.2.2.2.1
  have r5 := (row11 HR5.out).2.2.2.2.2.1
  have r6 := (row11 HR5.out).2.2.2.2.2.2.1
  have r7 := (row11 HR5.out).2.2.2.2.2.2.2.1
  have r8 := (row11 HR5.out).2.2.2.2.2.2.2.2.1
  have r9 := (row11 HR5.out).2.2.2.2.2.2.2.2.2.1
  have r10 := (row11 HR5.out).2.2.2.2.2.2.2.2.2.2.1
  have rlt := (row11 HR5.out).2.2.2.2.2.2.2.2.2.2.2
  have rf0 := (HR5.out).frozen 0
  have rf1 := (HR5.out).frozen 1
  have rf2 := (HR5.out).frozen 2
  have rf3 := (HR5.out).frozen 3
  have rf4 := (HR5.out).frozen 4
  have rf5 := (HR5.out).frozen 5
  have rf6 := (HR5.out).frozen 6
  have rf7 := (HR5.out).frozen 7
  have rf8 := (HR5.out).frozen 8
  have rf9 := (HR5.out).frozen 9
  have rf10 := (HR5.out).frozen 10
  go_wp2
  refine bodyPost_ret (results_row_tmp Tryd.results16 _ rfl (set11_blk HR5.out (.int .u32 (c2.r 0)) (.int .u32 (c2.r 1)) (.int .u32 (c2.r 2)) (.int .u32 (c2.r 3)) (.int .u32 (c2.r 4)) (.int .u32 (c2.r 5)) (.int .u32 (c2.r 6)) (.int .u32 (c2.r 7)) (.complex .f64 (c2.z 0).1 (c2.z 0).2) (.complex .f64 (c2.z 1).1 (c2.z 1).2) (.int .u32 c2.pc)) Tryd.underlying28 rfl (by kernel_rfl)) rfl ⟨rfl, ?_, ?_⟩
  · by_cases hm : m = []
    · exact ⟨fun h => absurd hm h, HM5.out.cap, HM5.out.low, HM5.out.len⟩
    · exact HM5.out.but (set11_but (S := fun k => k = w.heap.size + 1) (g := w.heap.size + 1) (But.refl _ W5) (.inl rfl) (.int .u32 (c2.r 0)) (.int .u32 (c2.r 1)) (.int .u32 (c2.r 2)) (.int .u32 (c2.r 3)) (.int .u32 (c2.r 4)) (.int .u32 (c2.r 5)) (.int .u32 (c2.r 6)) (.int .u32 (c2.r 7)) (.complex .f64 (c2.z 0).1 (c2.z 0).2) (.complex .f64 (c2.z 1).1 (c2.z 1).2) (.int .u32 c2.pc)) (fun e : B = w.heap.size + 1 => by have := HGX.out.2.2.2.2 hm; omega)
  · exact set11_but HB5.out (.inr (by omega)) (.int .u32 (c2.r 0)) (.int .u32 (c2.r 1)) (.int .u32 (c2.r 2)) (.int .u32 (c2.r 3)) (.int .u32 (c2.r 4)) (.int .u32 (c2.r 5)) (.int .u32 (c2.r 6)) (.int .u32 (c2.r 7)) (.complex .f64 (c2.z 0).1 (c2.z 0).2) (.complex .f64 (c2.z 1).1 (c2.z 1).2) (.int .u32 c2.pc)

set_option maxRecDepth 100000 in
set_option maxHeartbeats 16000000 in
theorem rs_jr {w : World} {A : Option Addr} {B cap : Nat} {c : Cp} {m : List Int} (hM : ByIn w A B cap m) (hc : c.Ok) (vv : Int) (xa b : Nat) (im : Int) (hwv : (wordM m c.pc.toNat).getD 0 = vv) (hwi : (wordM m c.pc.toNat).isSome = true) (hv : I.RangeW vv) (hx : I.decO vv = ⟨23, (xa : Int), (b : Int), im⟩) (he : I.errI (I.decI vv) = 0) (hz : c.pc % 4 = 0) (hi : -32768 ≤ im ∧ im ≤ 32767) (ha : xa < 8) (c2 : Cp) (hc2 : c.setPc (c.r xa) = c2) :
    Calls Tryd.prog 16 #[.agg c.arr, .slice A m.length cap] w (OutR w A B cap (c2, 0, m)) := by
  have HMM := Lib.hid hM
  have hp0 := hc.p0
  have HA := Lib.hid ha
  clear ha
  have HC2 := Lib.hid hc2
  clear hc2
  have hb0 := bl_new (bl_new (Below.refl w.heap.size w) (.cells c.arr 28)) (.cells c0A 28)
  have hX := (Blk.new w 28 c.arr).alloc (.cells c0A 28)
  have hR := Blk.new (w.alloc (.cells c.arr 28)) 28 c0A
  simp only [World.size_alloc] at hR
  obtain ⟨pn, hpn⟩ := Int.eq_ofNat_of_zero_le hc.p0
  have hp1 := hc.p1
  rw [hpn, Int.toNat_natCast] at hwv hwi
  have HW := Lib.hid (fun W (hW : Below w.heap.size w W) => show Calls Tryd.prog 30 #[.slice A m.length cap, .int .u32 (pn : Int)] W fun e w' => e = .returned (.tuple #[.int .u32 vv, .bool true]) ∧ w' = W from by
    have h := refWord7_any (hM.below hW) pn (by omega)
    rw [hwv, hwi] at h
    exact h)
  have HD := Lib.hid (fun W => show Calls Tryd.prog 31 #[.int .u32 vv] W fun e w' => e = .returned (.tuple #[.agg #[.int .i64 23, .int .i64 (xa : Int), .int .i64 (b : Int), .int .i64 im], .int .i64 0]) ∧ Below W.heap.size W w' from by
    have h := I.refDecode_any (w := W) I.mayC vv hv
    rw [hx, he] at h
    exact h)
  have HI := Lib.hid (fun W => refImm_any (w := W) im hi.1 hi.2)
  have HC := Lib.hid hc
  have HB0 := Lib.hid hb0
  have HX0 := Lib.hid hX
  have HR0 := Lib.hid hR
  have hpc := cp_pc hX
  have hlt0 := hX.lt
  rw [hpn] at hpc
  have HPN := Lib.hid hpn
  have hzm : (pn : Int).tmod 4 = (pn : Int) % 4 := Int.tmod_eq_emod_of_nonneg (by omega)
  have hpz : (pn : Int) % 4 = 0 := by rw [← hpn]; exact hz
  have hzb : ((pn : Int) % 4 != 0) = false := by simpa using hpz
  have HI0 := Lib.hid hi
  clear hz hpz hi hp0
  clear hb0 hX hR hM hc hwv hwi hv hx he hpn
  unfold c0A at *
  go_enter Tryd.func16, Tryd.ntmps16
  go_wp2_with fail
  refine (HW.out _ HB0.out).mono ?_
  rintro e W0 ⟨rfl, rfl⟩
  go_wp2_with fail
  refine (HD.out _).mono ?_
  rintro e W1 ⟨rfl, hb1⟩
  have HX1 := Lib.hid (HX0.out.below hb1 HX0.out.lt)
  have HR1 := Lib.hid (HR0.out.below hb1 HR0.out.lt)
  have HB1 := Lib.hid (bl_step HB0.out hb1)
  clear hpc hlt0 hb1 HX0 HR0 HB0 HW HD
  have HS1 := Lib.hid HB1.out.size
  have x0 := (cp_all HX1.out).1
  have x1 := (cp_all HX1.out).2.1
  have x2 := (cp_all HX1.out).2.2.1
  have x3 := (cp_all HX1.out).2.2.2.1
  have x4 := (cp_all HX1.out).2.2.2.2.1
  have x5 := (cp_all HX1.out).2.2.2.2.2.1
  have x6 := (cp_all HX1.out).2.2.2.2.2.2.1
  have x7 := (cp_all HX1.out).2.2.2.2.2.2.2.1
  have x8 := (cp_all HX1.out).2.2.2.2.2.2.2.2.1
  have x9 := (cp_all HX1.out).2.2.2.2.2.2.2.2.2.1
  have x10 := (cp_all HX1.out).2.2.2.2.2.2.2.2.2.2.1
  have xlt := (cp_all HX1.out).2.2.2.2.2.2.2.2.2.2.2
  rw [HPN.out] at x10
  go_upto_region 9 with (fail)
  clear x0 x1 x2 x3 x4 x5 x6 x7 x8 x9 x10 xlt
  have hnx : ((pn : Int) + 4) % 4294967296 = nextP c := by rw [← HPN.out]; rfl
  have HI2 := Lib.hid ((Blk.new W1 38 #[.int .i64 23, .int .i64 (xa : Int), .int .i64 (b : Int), .int .i64 im]).alloc (.cells (c.setPc (nextP c)).arr 28))
  have HN2 := Lib.hid (Blk.new (W1.alloc (.cells #[.int .i64 23, .int .i64 (xa : Int), .int .i64 (b : Int), .int .i64 im] 38)) 28 (c.setPc (nextP c)).arr)
  have HBn := Lib.hid (bl_new (bl_new (Below.refl W1.heap.size W1) (.cells #[.int .i64 23, .int .i64 (xa : Int), .int .i64 (b : Int), .int .i64 im] 38)) (.cells (c.setPc (nextP c)).arr 28))
  have HX2 := Lib.hid (HX1.out.below HBn.out HX1.out.lt)
  have HR2 := Lib.hid (HR1.out.below HBn.out HR1.out.lt)
  have HB2 := Lib.hid (bl_step HB1.out HBn.out)
  have HM2 := Lib.hid (HMM.out.below HB2.out)
  have HG := Lib.hid (show w.heap.size + 1 < W1.heap.size from HR1.out.lt)
  rw [World.size_alloc] at HN2
  clear HBn HX1 HR1 HB1
  unfold Cp.arr Cp.setPc at HI2 HN2 HX2 HR2 HB2 HM2
  rw [hnx]
  clear hnx
  dsimp only at HI2 HN2 HX2 HR2 HB2 HM2
  generalize (W1.alloc (.cells #[.int .i64 23, .int .i64 (xa : Int), .int .i64 (b : Int), .int .i64 im] 38)).alloc (.cells #[.int .u32 (c.r 0), .int .u32 (c.r 1), .int .u32 (c.r 2), .int .u32 (c.r 3), .int .u32 (c.r 4), .int .u32 (c.r 5), .int .u32 (c.r 6), .int .u32 (c.r 7), .complex .f64 (c.z 0).1 (c.z 0).2, .complex .f64 (c.z 1).1 (c.z 1).2, .int .u32 (nextP c)] 28) = W2 at *
  obtain ⟨gn, hgn⟩ : ∃ gn, W1.heap.size + 1 = gn := ⟨_, rfl⟩
  rw [hgn] at HN2 ⊢
  have HGN := Lib.hid hgn
  clear hgn
  generalize W1.heap.size = gi at *
  have i3 := (ccells HI2.out).2.2.2.1
  have ilt := (ccells HI2.out).2.2.2.2
  have n10 : W2.cell? ⟨gn, 10, none⟩ = some (.int .u32 (nextP c)) := cp_pc (show CpAt W2 gn (c.setPc (nextP c)) from HN2.out)
  have nlt := HN2.out.lt
  go_quiet ((go_at_call 32; exact Calls.quiet_of_same (HI.out _)))
  rw [show (nextP c + 4 * (im % 4294967296) % 4294967296) % 4294967296 = farP c im from rfl]
  have HI3 := Lib.hid (HI2.out.drewN nq)
  have HX3 := Lib.hid (show CpAt (W2.drewN nq) w.heap.size c from HX2.out.drewN nq)
  have HN3 := Lib.hid (show CpAt (W2.drewN nq) gn (c.setPc (nextP c)) from HN2.out.drewN nq)
  have HR3 := Lib.hid (HR2.out.drewN nq)
  have HM3 := Lib.hid (HM2.out.below (below_drewN (Below.refl _ W2) nq))
  have HB3 := Lib.hid (But.of_below (S := fun k => k = B) (below_drewN HB2.out nq))
  have HGX := Lib.hid (show gn ≠ w.heap.size ∧ gn ≠ w.heap.size + 1 ∧ gi ≠ gn ∧ w.heap.size ≤ gn ∧ (m ≠ [] → B < w.heap.size) from by
    have h1 := HG.out; have h2 := HGN.out
    exact ⟨by omega, by omega, by omega, by omega, HMM.out.lt⟩)
  clear i3 ilt n10 nlt HI2 HX2 HN2 HR2 HM2 HB2 HI hzm hzb
  generalize W2.drewN nq = W3 at *
  have i0 := (ccells HI3.out).1
  have ilt := (ccells HI3.out).2.2.2.2
  have i1 := (ccells HI3.out).2.1
  have ra := cp_reg HX3.out HA.out
  have xlt := HX3.out.lt
  have hai : (xa : Int) < 8 := by have := HA.out; omega
  have n10 : W3.cell? ⟨gn, 10, none⟩ = some (.int .u32 (nextP c)) := cp_pc HN3.out
  have nf10 := HN3.out.frozen 10
  have nlt := HN3.out.lt
  go_upto_region 40 with (fail)
  have HN4 := Lib.hid (show CpAt (W3.setCell ⟨gn, 10, none⟩ (.int .u32 (c.r xa))) gn c2 from by
    have h := (show CpAt W3 gn (c.setPc (nextP c)) from HN3.out).set_ 10 (.int .u32 (c.r xa))
    rw [arr_setPc, show (c.setPc (nextP c)).setPc (c.r xa) = c.setPc (c.r xa) from rfl, HC2.out] at h
    exact h)
  have HX4 := Lib.hid (show CpAt (W3.setCell ⟨gn, 10, none⟩ (.int .u32 (c.r xa))) w.heap.size c from (show CpAt W3 w.heap.size c from HX3.out).far (p := ⟨gn, 10, none⟩) (fun e => HGX.out.1 e.symm) _)
  have HI4 := Lib.hid (HI3.out.far (p := ⟨gn, 10, none⟩) HGX.out.2.2.1 (.int .u32 (c.r xa)))
  have HR4 := Lib.hid (HR3.out.far (p := ⟨gn, 10, none⟩) (fun e => HGX.out.2.1 e.symm) (.int .u32 (c.r xa)))
  have HM4 := Lib.hid (show ByIn (W3.setCell ⟨gn, 10, none⟩ (.int .u32 (c.r xa))) A B cap m from by
    by_cases hm : m = []
    · exact ⟨fun h => absurd hm h, HM3.out.cap, HM3.out.low, HM3.out.len⟩
    · exact HM3.out.but (But.setCell (S := fun k => k = gn) (But.refl _ W3) (p := ⟨gn, 10, none⟩) (.inl rfl) (.int .u32 (c.r xa))) (fun e : B = gn => by have := HGX.out.2.2.2.2 hm; have := HGX.out.2.2.2.1; omega))
  have HB4 := Lib.hid (HB3.out.setCell (p := ⟨gn, 10, none⟩) (.inr HGX.out.2.2.2.1) (.int .u32 (c.r xa)))
  clear i0 ilt i1 ra xlt hai n10 nf10 nlt HN3 HX3 HI3 HR3 HM3 HB3
  generalize W3.setCell ⟨gn, 10, none⟩ (.int .u32 (c.r xa)) = W4 at *
  clear HC2
  have x0 := (cp_all HN4.out).1
  have x1 := (cp_all HN4.out).2.1
  have x2 := (cp_all HN4.out).2.2.1
  have x3 := (cp_all HN4.out).2.2.2.1
  have x4 := (cp_all HN4.out).2.2.2.2.1
  have x5 := (cp_all HN4.out).2.2.2.2.2.1
  have x6 := (cp_all HN4.out).2.2.2.2.2.2.1
  have x7 := (cp_all HN4.out).2.2.2.2.2.2.2.1
  have x8 := (cp_all HN4.out).2.2.2.2.2.2.2.2.1
  have x9 := (cp_all HN4.out).2.2.2.2.2.2.2.2.2.1
  have x10 := (cp_all HN4.out).2.2.2.2.2.2.2.2.2.2.1
  have xlt := (cp_all HN4.out).2.2.2.2.2.2.2.2.2.2.2
  have r0 := (row11 HR4.out).1
  have r1 := (row11 HR4.out).2.1
  have r2 := (row11 HR4.out).2.2.1
  have r3 := (row11 HR4.out).2.2.2.1
  have r4 := (row11 HR4.out).2.2.2.2.1
  have r5 := (row11 HR4.out).2.2.2.2.2.1
  have r6 := (row11 HR4.out).2.2.2.2.2.2.1
  have r7 := (row11 HR4.out).2.2.2.2.2.2.2.1
  have r8 := (row11 HR4.out).2.2.2.2.2.2.2.2.1
  have r9 := (row11 HR4.out).2.2.2.2.2.2.2.2.2.1
  have r10 := (row11 HR4.out).2.2.2.2.2.2.2.2.2.2.1
  have rlt := (row11 HR4.out).2.2.2.2.2.2.2.2.2.2.2
  have rf0 := (HR4.out).frozen 0
  have rf1 := (HR4.out).frozen 1
  have rf2 := (HR4.out).frozen 2
  have rf3 := (HR4.out).frozen 3
  have rf4 := (HR4.out).frozen 4
  have rf5 := (HR4.out).frozen 5
  have rf6 := (HR4.out).frozen 6
  have rf7 := (HR4.out).frozen 7
  have rf8 := (HR4.out).frozen 8
  have rf9 := (HR4.out).frozen 9
  have rf10 := (HR4.out).frozen 10
  go_wp2
  refine bodyPost_ret (results_row_tmp Tryd.results16 _ rfl (set11_blk HR4.out (.int .u32 (c2.r 0)) (.int .u32 (c2.r 1)) (.int .u32 (c2.r 2)) (.int .u32 (c2.r 3)) (.int .u32 (c2.r 4)) (.int .u32 (c2.r 5)) (.int .u32 (c2.r 6)) (.int .u32 (c2.r 7)) (.complex .f64 (c2.z 0).1 (c2.z 0).2) (.complex .f64 (c2.z 1).1 (c2.z 1).2) (.int .u32 c2.pc)) Tryd.underlying28 rfl (by kernel_rfl)) rfl ⟨rfl, ?_, ?_⟩
  · by_cases hm : m = []
    · exact ⟨fun h => absurd hm h, HM4.out.cap, HM4.out.low, HM4.out.len⟩
    · exact HM4.out.but (set11_but (S := fun k => k = w.heap.size + 1) (g := w.heap.size + 1) (But.refl _ W4) (.inl rfl) (.int .u32 (c2.r 0)) (.int .u32 (c2.r 1)) (.int .u32 (c2.r 2)) (.int .u32 (c2.r 3)) (.int .u32 (c2.r 4)) (.int .u32 (c2.r 5)) (.int .u32 (c2.r 6)) (.int .u32 (c2.r 7)) (.complex .f64 (c2.z 0).1 (c2.z 0).2) (.complex .f64 (c2.z 1).1 (c2.z 1).2) (.int .u32 c2.pc)) (fun e : B = w.heap.size + 1 => by have := HGX.out.2.2.2.2 hm; omega)
  · exact set11_but HB4.out (.inr (by omega)) (.int .u32 (c2.r 0)) (.int .u32 (c2.r 1)) (.int .u32 (c2.r 2)) (.int .u32 (c2.r 3)) (.int .u32 (c2.r 4)) (.int .u32 (c2.r 5)) (.int .u32 (c2.r 6)) (.int .u32 (c2.r 7)) (.complex .f64 (c2.z 0).1 (c2.z 0).2) (.complex .f64 (c2.z 1).1 (c2.z 1).2) (.int .u32 c2.pc)

set_option maxRecDepth 100000 in
set_option maxHeartbeats 16000000 in
theorem rs_nop {w : World} {A : Option Addr} {B cap : Nat} {c : Cp} {m : List Int} (hM : ByIn w A B cap m) (hc : c.Ok) (vv : Int) (xa b : Nat) (im : Int) (hwv : (wordM m c.pc.toNat).getD 0 = vv) (hwi : (wordM m c.pc.toNat).isSome = true) (hv : I.RangeW vv) (hx : I.decO vv = ⟨0, (xa : Int), (b : Int), im⟩) (he : I.errI (I.decI vv) = 0) (hz : c.pc % 4 = 0) (hi : -32768 ≤ im ∧ im ≤ 32767) (c2 : Cp) (hc2 : c.setPc (nextP c) = c2) :
    Calls Tryd.prog 16 #[.agg c.arr, .slice A m.length cap] w (OutR w A B cap (c2, 0, m)) := by
  have HMM := Lib.hid hM
  have hp0 := hc.p0
  have HC2 := Lib.hid hc2
  clear hc2
  have hb0 := bl_new (bl_new (Below.refl w.heap.size w) (.cells c.arr 28)) (.cells c0A 28)
  have hX := (Blk.new w 28 c.arr).alloc (.cells c0A 28)
  have hR := Blk.new (w.alloc (.cells c.arr 28)) 28 c0A
  simp only [World.size_alloc] at hR
  obtain ⟨pn, hpn⟩ := Int.eq_ofNat_of_zero_le hc.p0
  have hp1 := hc.p1
  rw [hpn, Int.toNat_natCast] at hwv hwi
  have HW := Lib.hid (fun W (hW : Below w.heap.size w W) => show Calls Tryd.prog 30 #[.slice A m.length cap, .int .u32 (pn : Int)] W fun e w' => e = .returned (.tuple #[.int .u32 vv, .bool true]) ∧ w' = W from by
    have h := refWord7_any (hM.below hW) pn (by omega)
    rw [hwv, hwi] at h
    exact h)
  have HD := Lib.hid (fun W => show Calls Tryd.prog 31 #[.int .u32 vv] W fun e w' => e = .returned (.tuple #[.agg #[.int .i64 0, .int .i64 (xa : Int), .int .i64 (b : Int), .int .i64 im], .int .i64 0]) ∧ Below W.heap.size W w' from by
    have h := I.refDecode_any (w := W) I.mayC vv hv
    rw [hx, he] at h
    exact h)
  have HI := Lib.hid (fun W => refImm_any (w := W) im hi.1 hi.2)
  have HC := Lib.hid hc
  have HB0 := Lib.hid hb0
  have HX0 := Lib.hid hX
  have HR0 := Lib.hid hR
  have hpc := cp_pc hX
  have hlt0 := hX.lt
  rw [hpn] at hpc
  have HPN := Lib.hid hpn
  have hzm : (pn : Int).tmod 4 = (pn : Int) % 4 := Int.tmod_eq_emod_of_nonneg (by omega)
  have hpz : (pn : Int) % 4 = 0 := by rw [← hpn]; exact hz
  have hzb : ((pn : Int) % 4 != 0) = false := by simpa using hpz
  have HI0 := Lib.hid hi
  clear hz hpz hi hp0
  clear hb0 hX hR hM hc hwv hwi hv hx he hpn
  unfold c0A at *
  go_enter Tryd.func16, Tryd.ntmps16
  go_wp2_with fail
  refine (HW.out _ HB0.out).mono ?_
  rintro e W0 ⟨rfl, rfl⟩
  go_wp2_with fail
  refine (HD.out _).mono ?_
  rintro e W1 ⟨rfl, hb1⟩
  have HX1 := Lib.hid (HX0.out.below hb1 HX0.out.lt)
  have HR1 := Lib.hid (HR0.out.below hb1 HR0.out.lt)
  have HB1 := Lib.hid (bl_step HB0.out hb1)
  clear hpc hlt0 hb1 HX0 HR0 HB0 HW HD
  have HS1 := Lib.hid HB1.out.size
  have x0 := (cp_all HX1.out).1
  have x1 := (cp_all HX1.out).2.1
  have x2 := (cp_all HX1.out).2.2.1
  have x3 := (cp_all HX1.out).2.2.2.1
  have x4 := (cp_all HX1.out).2.2.2.2.1
  have x5 := (cp_all HX1.out).2.2.2.2.2.1
  have x6 := (cp_all HX1.out).2.2.2.2.2.2.1
  have x7 := (cp_all HX1.out).2.2.2.2.2.2.2.1
  have x8 := (cp_all HX1.out).2.2.2.2.2.2.2.2.1
  have x9 := (cp_all HX1.out).2.2.2.2.2.2.2.2.2.1
  have x10 := (cp_all HX1.out).2.2.2.2.2.2.2.2.2.2.1
  have xlt := (cp_all HX1.out).2.2.2.2.2.2.2.2.2.2.2
  rw [HPN.out] at x10
  go_upto_region 9 with (fail)
  clear x0 x1 x2 x3 x4 x5 x6 x7 x8 x9 x10 xlt
  have hnx : ((pn : Int) + 4) % 4294967296 = nextP c := by rw [← HPN.out]; rfl
  have HI2 := Lib.hid ((Blk.new W1 38 #[.int .i64 0, .int .i64 (xa : Int), .int .i64 (b : Int), .int .i64 im]).alloc (.cells (c.setPc (nextP c)).arr 28))
  have HN2 := Lib.hid (Blk.new (W1.alloc (.cells #[.int .i64 0, .int .i64 (xa : Int), .int .i64 (b : Int), .int .i64 im] 38)) 28 (c.setPc (nextP c)).arr)
  have HBn := Lib.hid (bl_new (bl_new (Below.refl W1.heap.size W1) (.cells #[.int .i64 0, .int .i64 (xa : Int), .int .i64 (b : Int), .int .i64 im] 38)) (.cells (c.setPc (nextP c)).arr 28))
  have HX2 := Lib.hid (HX1.out.below HBn.out HX1.out.lt)
  have HR2 := Lib.hid (HR1.out.below HBn.out HR1.out.lt)
  have HB2 := Lib.hid (bl_step HB1.out HBn.out)
  have HM2 := Lib.hid (HMM.out.below HB2.out)
  have HG := Lib.hid (show w.heap.size + 1 < W1.heap.size from HR1.out.lt)
  rw [World.size_alloc] at HN2
  clear HBn HX1 HR1 HB1
  unfold Cp.arr Cp.setPc at HI2 HN2 HX2 HR2 HB2 HM2
  rw [hnx]
  clear hnx
  dsimp only at HI2 HN2 HX2 HR2 HB2 HM2
  generalize (W1.alloc (.cells #[.int .i64 0, .int .i64 (xa : Int), .int .i64 (b : Int), .int .i64 im] 38)).alloc (.cells #[.int .u32 (c.r 0), .int .u32 (c.r 1), .int .u32 (c.r 2), .int .u32 (c.r 3), .int .u32 (c.r 4), .int .u32 (c.r 5), .int .u32 (c.r 6), .int .u32 (c.r 7), .complex .f64 (c.z 0).1 (c.z 0).2, .complex .f64 (c.z 1).1 (c.z 1).2, .int .u32 (nextP c)] 28) = W2 at *
  obtain ⟨gn, hgn⟩ : ∃ gn, W1.heap.size + 1 = gn := ⟨_, rfl⟩
  rw [hgn] at HN2 ⊢
  have HGN := Lib.hid hgn
  clear hgn
  generalize W1.heap.size = gi at *
  have i3 := (ccells HI2.out).2.2.2.1
  have ilt := (ccells HI2.out).2.2.2.2
  have n10 : W2.cell? ⟨gn, 10, none⟩ = some (.int .u32 (nextP c)) := cp_pc (show CpAt W2 gn (c.setPc (nextP c)) from HN2.out)
  have nlt := HN2.out.lt
  go_quiet ((go_at_call 32; exact Calls.quiet_of_same (HI.out _)))
  rw [show (nextP c + 4 * (im % 4294967296) % 4294967296) % 4294967296 = farP c im from rfl]
  have HI3 := Lib.hid (HI2.out.drewN nq)
  have HX3 := Lib.hid (show CpAt (W2.drewN nq) w.heap.size c from HX2.out.drewN nq)
  have HN3 := Lib.hid (show CpAt (W2.drewN nq) gn (c.setPc (nextP c)) from HN2.out.drewN nq)
  have HR3 := Lib.hid (HR2.out.drewN nq)
  have HM3 := Lib.hid (HM2.out.below (below_drewN (Below.refl _ W2) nq))
  have HB3 := Lib.hid (But.of_below (S := fun k => k = B) (below_drewN HB2.out nq))
  have HGX := Lib.hid (show gn ≠ w.heap.size ∧ gn ≠ w.heap.size + 1 ∧ gi ≠ gn ∧ w.heap.size ≤ gn ∧ (m ≠ [] → B < w.heap.size) from by
    have h1 := HG.out; have h2 := HGN.out
    exact ⟨by omega, by omega, by omega, by omega, HMM.out.lt⟩)
  clear i3 ilt n10 nlt HI2 HX2 HN2 HR2 HM2 HB2 HI hzm hzb
  generalize W2.drewN nq = W3 at *
  have i0 := (ccells HI3.out).1
  have ilt := (ccells HI3.out).2.2.2.2
  go_upto_region 40 with (fail)
  have HN3b := Lib.hid (show CpAt W3 gn c2 from by have h := HN3.out; rw [HC2.out] at h; exact h)
  clear i0 ilt HC2
  have x0 := (cp_all HN3b.out).1
  have x1 := (cp_all HN3b.out).2.1
  have x2 := (cp_all HN3b.out).2.2.1
  have x3 := (cp_all HN3b.out).2.2.2.1
  have x4 := (cp_all HN3b.out).2.2.2.2.1
  have x5 := (cp_all HN3b.out).2.2.2.2.2.1
  have x6 := (cp_all HN3b.out).2.2.2.2.2.2.1
  have x7 := (cp_all HN3b.out).2.2.2.2.2.2.2.1
  have x8 := (cp_all HN3b.out).2.2.2.2.2.2.2.2.1
  have x9 := (cp_all HN3b.out).2.2.2.2.2.2.2.2.2.1
  have x10 := (cp_all HN3b.out).2.2.2.2.2.2.2.2.2.2.1
  have xlt := (cp_all HN3b.out).2.2.2.2.2.2.2.2.2.2.2
  have r0 := (row11 HR3.out).1
  have r1 := (row11 HR3.out).2.1
  have r2 := (row11 HR3.out).2.2.1
  have r3 := (row11 HR3.out).2.2.2.1
  have r4 := (row11 HR3.out).2.2.2.2.1
  have r5 := (row11 HR3.out).2.2.2.2.2.1
  have r6 := (row11 HR3.out).2.2.2.2.2.2.1
  have r7 := (row11 HR3.out).2.2.2.2.2.2.2.1
  have r8 := (row11 HR3.out).2.2.2.2.2.2.2.2.1
  have r9 := (row11 HR3.out).2.2.2.2.2.2.2.2.2.1
  have r10 := (row11 HR3.out).2.2.2.2.2.2.2.2.2.2.1
  have rlt := (row11 HR3.out).2.2.2.2.2.2.2.2.2.2.2
  have rf0 := (HR3.out).frozen 0
  have rf1 := (HR3.out).frozen 1
  have rf2 := (HR3.out).frozen 2
  have rf3 := (HR3.out).frozen 3
  have rf4 := (HR3.out).frozen 4
  have rf5 := (HR3.out).frozen 5
  have rf6 := (HR3.out).frozen 6
  have rf7 := (HR3.out).frozen 7
  have rf8 := (HR3.out).frozen 8
  have rf9 := (HR3.out).frozen 9
  have rf10 := (HR3.out).frozen 10
  go_wp2
  refine bodyPost_ret (results_row_tmp Tryd.results16 _ rfl (set11_blk HR3.out (.int .u32 (c2.r 0)) (.int .u32 (c2.r 1)) (.int .u32 (c2.r 2)) (.int .u32 (c2.r 3)) (.int .u32 (c2.r 4)) (.int .u32 (c2.r 5)) (.int .u32 (c2.r 6)) (.int .u32 (c2.r 7)) (.complex .f64 (c2.z 0).1 (c2.z 0).2) (.complex .f64 (c2.z 1).1 (c2.z 1).2) (.int .u32 c2.pc)) Tryd.underlying28 rfl (by kernel_rfl)) rfl ⟨rfl, ?_, ?_⟩
  · by_cases hm : m = []
    · exact ⟨fun h => absurd hm h, HM3.out.cap, HM3.out.low, HM3.out.len⟩
    · exact HM3.out.but (set11_but (S := fun k => k = w.heap.size + 1) (g := w.heap.size + 1) (But.refl _ W3) (.inl rfl) (.int .u32 (c2.r 0)) (.int .u32 (c2.r 1)) (.int .u32 (c2.r 2)) (.int .u32 (c2.r 3)) (.int .u32 (c2.r 4)) (.int .u32 (c2.r 5)) (.int .u32 (c2.r 6)) (.int .u32 (c2.r 7)) (.complex .f64 (c2.z 0).1 (c2.z 0).2) (.complex .f64 (c2.z 1).1 (c2.z 1).2) (.int .u32 c2.pc)) (fun e : B = w.heap.size + 1 => by have := HGX.out.2.2.2.2 hm; omega)
  · exact set11_but HB3.out (.inr (by omega)) (.int .u32 (c2.r 0)) (.int .u32 (c2.r 1)) (.int .u32 (c2.r 2)) (.int .u32 (c2.r 3)) (.int .u32 (c2.r 4)) (.int .u32 (c2.r 5)) (.int .u32 (c2.r 6)) (.int .u32 (c2.r 7)) (.complex .f64 (c2.z 0).1 (c2.z 0).2) (.complex .f64 (c2.z 1).1 (c2.z 1).2) (.int .u32 c2.pc)

set_option maxRecDepth 100000 in
set_option maxHeartbeats 8000000 in
theorem rs_odd {w : World} {A : Option Addr} {B cap : Nat} {c : Cp} {m : List Int} (hM : ByIn w A B cap m) (hc : c.Ok) (vv : Int) (q : Bool) (hwv : (wordM m c.pc.toNat).getD 0 = vv) (hwi : (wordM m c.pc.toNat).isSome = q) (hz : ¬ c.pc % 4 = 0) :
    Calls Tryd.prog 16 #[.agg c.arr, .slice A m.length cap] w (OutR w A B cap (c, 2, m)) := by
  have HMM := Lib.hid hM
  have hb0 := bl_new (bl_new (Below.refl w.heap.size w) (.cells c.arr 28)) (.cells c0A 28)
  have hX := (Blk.new w 28 c.arr).alloc (.cells c0A 28)
  have hR := Blk.new (w.alloc (.cells c.arr 28)) 28 c0A
  simp only [World.size_alloc] at hR
  obtain ⟨pn, hpn⟩ := Int.eq_ofNat_of_zero_le hc.p0
  have hp1 := hc.p1
  rw [hpn, Int.toNat_natCast] at hwv hwi
  have HW := Lib.hid (fun W (hW : Below w.heap.size w W) => show Calls Tryd.prog 30 #[.slice A m.length cap, .int .u32 (pn : Int)] W fun e w' => e = .returned (.tuple #[.int .u32 vv, .bool q]) ∧ w' = W from by
    have h := refWord7_any (hM.below hW) pn (by omega)
    rw [hwv, hwi] at h
    exact h)
  have HB0 := Lib.hid hb0
  have HX0 := Lib.hid hX
  have HR0 := Lib.hid hR
  have hpc := cp_pc hX
  have hlt0 := hX.lt
  rw [hpn] at hpc
  have HPN := Lib.hid hpn
  have hzm : (pn : Int).tmod 4 = (pn : Int) % 4 := Int.tmod_eq_emod_of_nonneg (by omega)
  have hpz : ¬ (pn : Int) % 4 = 0 := by rw [← hpn]; exact hz
  have hzb : ((pn : Int) % 4 != 0) = true := by simpa using hpz
  clear hz hpz
  clear hb0 hX hR hM hc hwv hwi hpn 
  unfold c0A at *
  go_enter Tryd.func16, Tryd.ntmps16
  go_wp2_with fail
  refine (HW.out _ HB0.out).mono ?_
  rintro e W0 ⟨rfl, rfl⟩
  clear hpc
  have x0 := (cp_all HX0.out).1
  have x1 := (cp_all HX0.out).2.1
  have x2 := (cp_all HX0.out).2.2.1
  have x3 := (cp_all HX0.out).2.2.2.1
  have x4 := (cp_all HX0.out).2.2.2.2.1
  have x5 := (cp_all HX0.out).2.2.2.2.2.1
  have x6 := (cp_all HX0.out).2.2.2.2.2.2.1
  have x7 := (cp_all HX0.out).2.2.2.2.2.2.2.1
  have x8 := (cp_all HX0.out).2.2.2.2.2.2.2.2.1
  have x9 := (cp_all HX0.out).2.2.2.2.2.2.2.2.2.1
  have x10 := (cp_all HX0.out).2.2.2.2.2.2.2.2.2.2.1
  have xlt := (cp_all HX0.out).2.2.2.2.2.2.2.2.2.2.2
  rw [HPN.out] at x10
  go_upto_region 3 with (fail)
  clear hzm
  go_wp2
  have hw2 := Blk.new (w.alloc (.cells c.arr 28)) 28 #[.int .u32 (c.r 0), .int .u32 (c.r 1), .int .u32 (c.r 2), .int .u32 (c.r 3), .int .u32 (c.r 4), .int .u32 (c.r 5), .int .u32 (c.r 6), .int .u32 (c.r 7), .complex .f64 (c.z 0).1 (c.z 0).2, .complex .f64 (c.z 1).1 (c.z 1).2, .int .u32 (pn : Int)]
  rw [World.size_alloc] at hw2
  refine bodyPost_ret (results_row_tmp Tryd.results16 _ rfl hw2 Tryd.underlying28 rfl (by kernel_rfl)) rfl (OutR.of_below HMM.out (by rw [← HPN.out]; rfl) ?_)
  exact bl_new (bl_new (Below.refl w.heap.size w) _) _

set_option maxRecDepth 100000 in
set_option maxHeartbeats 8000000 in
theorem rs_none {w : World} {A : Option Addr} {B cap : Nat} {c : Cp} {m : List Int} (hM : ByIn w A B cap m) (hc : c.Ok) (vv : Int) (hwv : (wordM m c.pc.toNat).getD 0 = vv) (hwi : (wordM m c.pc.toNat).isSome = false) (hz : c.pc % 4 = 0) :
    Calls Tryd.prog 16 #[.agg c.arr, .slice A m.length cap] w (OutR w A B cap (c, 2, m)) := by
  have HMM := Lib.hid hM
  have hb0 := bl_new (bl_new (Below.refl w.heap.size w) (.cells c.arr 28)) (.cells c0A 28)
  have hX := (Blk.new w 28 c.arr).alloc (.cells c0A 28)
  have hR := Blk.new (w.alloc (.cells c.arr 28)) 28 c0A
  simp only [World.size_alloc] at hR
  obtain ⟨pn, hpn⟩ := Int.eq_ofNat_of_zero_le hc.p0
  have hp1 := hc.p1
  rw [hpn, Int.toNat_natCast] at hwv hwi
  have HW := Lib.hid (fun W (hW : Below w.heap.size w W) => show Calls Tryd.prog 30 #[.slice A m.length cap, .int .u32 (pn : Int)] W fun e w' => e = .returned (.tuple #[.int .u32 vv, .bool false]) ∧ w' = W from by
    have h := refWord7_any (hM.below hW) pn (by omega)
    rw [hwv, hwi] at h
    exact h)
  have HB0 := Lib.hid hb0
  have HX0 := Lib.hid hX
  have HR0 := Lib.hid hR
  have hpc := cp_pc hX
  have hlt0 := hX.lt
  rw [hpn] at hpc
  have HPN := Lib.hid hpn
  have hzm : (pn : Int).tmod 4 = (pn : Int) % 4 := Int.tmod_eq_emod_of_nonneg (by omega)
  have hpz : (pn : Int) % 4 = 0 := by rw [← hpn]; exact hz
  have hzb : ((pn : Int) % 4 != 0) = false := by simpa using hpz
  clear hz hpz
  clear hb0 hX hR hM hc hwv hwi hpn 
  unfold c0A at *
  go_enter Tryd.func16, Tryd.ntmps16
  go_wp2_with fail
  refine (HW.out _ HB0.out).mono ?_
  rintro e W0 ⟨rfl, rfl⟩
  clear hpc
  have x0 := (cp_all HX0.out).1
  have x1 := (cp_all HX0.out).2.1
  have x2 := (cp_all HX0.out).2.2.1
  have x3 := (cp_all HX0.out).2.2.2.1
  have x4 := (cp_all HX0.out).2.2.2.2.1
  have x5 := (cp_all HX0.out).2.2.2.2.2.1
  have x6 := (cp_all HX0.out).2.2.2.2.2.2.1
  have x7 := (cp_all HX0.out).2.2.2.2.2.2.2.1
  have x8 := (cp_all HX0.out).2.2.2.2.2.2.2.2.1
  have x9 := (cp_all HX0.out).2.2.2.2.2.2.2.2.2.1
  have x10 := (cp_all HX0.out).2.2.2.2.2.2.2.2.2.2.1
  have xlt := (cp_all HX0.out).2.2.2.2.2.2.2.2.2.2.2
  rw [HPN.out] at x10
  go_upto_region 3 with (fail)
  clear hzm
  go_wp2
  have hw2 := Blk.new (w.alloc (.cells c.arr 28)) 28 #[.int .u32 (c.r 0), .int .u32 (c.r 1), .int .u32 (c.r 2), .int .u32 (c.r 3), .int .u32 (c.r 4), .int .u32 (c.r 5), .int .u32 (c.r 6), .int .u32 (c.r 7), .complex .f64 (c.z 0).1 (c.z 0).2, .complex .f64 (c.z 1).1 (c.z 1).2, .int .u32 (pn : Int)]
  rw [World.size_alloc] at hw2
  refine bodyPost_ret (results_row_tmp Tryd.results16 _ rfl hw2 Tryd.underlying28 rfl (by kernel_rfl)) rfl (OutR.of_below HMM.out (by rw [← HPN.out]; rfl) ?_)
  exact bl_new (bl_new (Below.refl w.heap.size w) _) _

set_option maxRecDepth 100000 in
set_option maxHeartbeats 8000000 in
theorem rs_ill {w : World} {A : Option Addr} {B cap : Nat} {c : Cp} {m : List Int} (hM : ByIn w A B cap m) (hc : c.Ok) (vv : Int) (hwv : (wordM m c.pc.toNat).getD 0 = vv) (hwi : (wordM m c.pc.toNat).isSome = true) (op xa b im : Int) (hv : I.RangeW vv) (hx : I.decO vv = ⟨op, xa, b, im⟩) (he : I.errI (I.decI vv) = 30) (hz : c.pc % 4 = 0) :
    Calls Tryd.prog 16 #[.agg c.arr, .slice A m.length cap] w (OutR w A B cap (c, 3, m)) := by
  have HMM := Lib.hid hM
  have hb0 := bl_new (bl_new (Below.refl w.heap.size w) (.cells c.arr 28)) (.cells c0A 28)
  have hX := (Blk.new w 28 c.arr).alloc (.cells c0A 28)
  have hR := Blk.new (w.alloc (.cells c.arr 28)) 28 c0A
  simp only [World.size_alloc] at hR
  obtain ⟨pn, hpn⟩ := Int.eq_ofNat_of_zero_le hc.p0
  have hp1 := hc.p1
  rw [hpn, Int.toNat_natCast] at hwv hwi
  have HW := Lib.hid (fun W (hW : Below w.heap.size w W) => show Calls Tryd.prog 30 #[.slice A m.length cap, .int .u32 (pn : Int)] W fun e w' => e = .returned (.tuple #[.int .u32 vv, .bool true]) ∧ w' = W from by
    have h := refWord7_any (hM.below hW) pn (by omega)
    rw [hwv, hwi] at h
    exact h)
  have HD := Lib.hid (fun W => show Calls Tryd.prog 31 #[.int .u32 vv] W fun e w' => e = .returned (.tuple #[.agg #[.int .i64 op, .int .i64 xa, .int .i64 b, .int .i64 im], .int .i64 30]) ∧ Below W.heap.size W w' from by
    have h := I.refDecode_any (w := W) I.mayC vv hv
    rw [hx, he] at h
    exact h)
  have HB0 := Lib.hid hb0
  have HX0 := Lib.hid hX
  have HR0 := Lib.hid hR
  have hpc := cp_pc hX
  have hlt0 := hX.lt
  rw [hpn] at hpc
  have HPN := Lib.hid hpn
  have hzm : (pn : Int).tmod 4 = (pn : Int) % 4 := Int.tmod_eq_emod_of_nonneg (by omega)
  have hpz : (pn : Int) % 4 = 0 := by rw [← hpn]; exact hz
  have hzb : ((pn : Int) % 4 != 0) = false := by simpa using hpz
  clear hz hpz
  clear hb0 hX hR hM hc hwv hwi hpn hv hx he 
  unfold c0A at *
  go_enter Tryd.func16, Tryd.ntmps16
  go_wp2_with fail
  refine (HW.out _ HB0.out).mono ?_
  rintro e W0 ⟨rfl, rfl⟩
  go_wp2_with fail
  refine (HD.out _).mono ?_
  rintro e W1 ⟨rfl, hb1⟩
  have HX1 := Lib.hid (HX0.out.below hb1 HX0.out.lt)
  have HR1 := Lib.hid (HR0.out.below hb1 HR0.out.lt)
  have HB1 := Lib.hid (bl_step HB0.out hb1)
  clear hpc hlt0 hb1 HX0 HR0 HB0 HW HD
  go_upto_region 6 with (fail)
  have HX2 := Lib.hid (HX1.out.alloc (.cells #[.int .i64 op, .int .i64 xa, .int .i64 b, .int .i64 im] 38))
  have HR2 := Lib.hid (HR1.out.alloc (.cells #[.int .i64 op, .int .i64 xa, .int .i64 b, .int .i64 im] 38))
  have HB2 := Lib.hid (bl_new HB1.out (.cells #[.int .i64 op, .int .i64 xa, .int .i64 b, .int .i64 im] 38))
  clear HX1 HR1 HB1
  generalize W1.alloc (.cells #[.int .i64 op, .int .i64 xa, .int .i64 b, .int .i64 im] 38) = W2 at *
  have x0 := (cp_all HX2.out).1
  have x1 := (cp_all HX2.out).2.1
  have x2 := (cp_all HX2.out).2.2.1
  have x3 := (cp_all HX2.out).2.2.2.1
  have x4 := (cp_all HX2.out).2.2.2.2.1
  have x5 := (cp_all HX2.out).2.2.2.2.2.1
  have x6 := (cp_all HX2.out).2.2.2.2.2.2.1
  have x7 := (cp_all HX2.out).2.2.2.2.2.2.2.1
  have x8 := (cp_all HX2.out).2.2.2.2.2.2.2.2.1
  have x9 := (cp_all HX2.out).2.2.2.2.2.2.2.2.2.1
  have x10 := (cp_all HX2.out).2.2.2.2.2.2.2.2.2.2.1
  have xlt := (cp_all HX2.out).2.2.2.2.2.2.2.2.2.2.2
  have r0 := (row11 HR2.out).1
  have r1 := (row11 HR2.out).2.1
  have r2 := (row11 HR2.out).2.2.1
  have r3 := (row11 HR2.out).2.2.2.1
  have r4 := (row11 HR2.out).2.2.2.2.1
  have r5 := (row11 HR2.out).2.2.2.2.2.1
  have r6 := (row11 HR2.out).2.2.2.2.2.2.1
  have r7 := (row11 HR2.out).2.2.2.2.2.2.2.1
  have r8 := (row11 HR2.out).2.2.2.2.2.2.2.2.1
  have r9 := (row11 HR2.out).2.2.2.2.2.2.2.2.2.1
  have r10 := (row11 HR2.out).2.2.2.2.2.2.2.2.2.2.1
  have rlt := (row11 HR2.out).2.2.2.2.2.2.2.2.2.2.2
  have rf0 := (HR2.out).frozen 0
  have rf1 := (HR2.out).frozen 1
  have rf2 := (HR2.out).frozen 2
  have rf3 := (HR2.out).frozen 3
  have rf4 := (HR2.out).frozen 4
  have rf5 := (HR2.out).frozen 5
  have rf6 := (HR2.out).frozen 6
  have rf7 := (HR2.out).frozen 7
  have rf8 := (HR2.out).frozen 8
  have rf9 := (HR2.out).frozen 9
  have rf10 := (HR2.out).frozen 10
  go_wp2
  refine bodyPost_ret (results_row_tmp Tryd.results16 _ rfl (set11_blk HR2.out (.int .u32 (c.r 0)) (.int .u32 (c.r 1)) (.int .u32 (c.r 2)) (.int .u32 (c.r 3)) (.int .u32 (c.r 4)) (.int .u32 (c.r 5)) (.int .u32 (c.r 6)) (.int .u32 (c.r 7)) (.complex .f64 (c.z 0).1 (c.z 0).2) (.complex .f64 (c.z 1).1 (c.z 1).2) (.int .u32 c.pc)) Tryd.underlying28 rfl (by kernel_rfl)) rfl (OutR.of_below HMM.out rfl ?_)
  repeat (refine Below.setCell ?_ (by show w.heap.size ≤ w.heap.size + 1; omega) _)
  exact HB2.out
end Go.Proofs.YtoglmemmdolbmaaDoor

/-
  The document's Step, walked: on Gaussian registers. Condition: the bytes lie in a block, registers are words.
-/
import Derived.Deep.QuietTactic
import Derived.BigQuiet
import Derived.StillTailTactics
import Derived.Test.YtoglmemmdolbmaaDoorCr6b
namespace Go.Proofs.YtoglmemmdolbmaaDoor
open Go.RowKit
set_option linter.unusedVariables false
set_option linter.unusedSimpArgs false
attribute [local go_sem] Oper.semAt_some
attribute [local go_sem] run_store_complex
attribute [local irreducible] floatOfInt wz


set_option maxRecDepth 100000 in
set_option maxHeartbeats 16000000 in
theorem rs_zset {w : World} {A : Option Addr} {B cap : Nat} {c : Cp} {m : List Int} (hM : ByIn w A B cap m) (hc : c.Ok) (vv : Int) (xa b : Nat) (im : Int) (hwv : (wordM m c.pc.toNat).getD 0 = vv) (hwi : (wordM m c.pc.toNat).isSome = true) (hv : I.RangeW vv) (hx : I.decO vv = ⟨25, (xa : Int), (b : Int), im⟩) (he : I.errI (I.decI vv) = 0) (hz : c.pc % 4 = 0) (hi : -32768 ≤ im ∧ im ≤ 32767) (ha : xa < 2) (hb : b + 1 < 8) (z : Nat × Nat) (hz2 : zmk (wrap32 (c.r b)) (wrap32 (c.r (b + 1))) = z) (c2 : Cp) (hc2 : (c.setZ xa z).setPc (nextP c) = c2) :
    Calls Tryd.prog 16 #[.agg c.arr, .slice A m.length cap] w (OutR w A B cap (c2, 0, m)) := by
  have HMM := Lib.hid hM
  have hp0 := hc.p0
  have HA := Lib.hid ha
  clear ha
  have HC2 := Lib.hid hc2
  clear hc2
  have HBB := Lib.hid hb
  have HF := Lib.hid (fun W => show Calls Tryd.prog 38 #[.int .u32 (c.r b), .int .u32 (c.r (b + 1))] W fun e w' => e = .returned (.complex .f64 z.1 z.2) ∧ w' = W from by
    have h := rFromWords_any (w := W) (c.r b) (c.r (b + 1)) (hc.r b) (hc.r (b + 1))
    rw [mk_zmk, hz2] at h
    exact h.mono fun e w' ⟨h1, h2⟩ => ⟨h1, h2.symm⟩)
  clear hb hz2
  have hb0 := bl_new (bl_new (Below.refl w.heap.size w) (.cells c.arr 28)) (.cells c0A 28)
  have hX := (Blk.new w 28 c.arr).alloc (.cells c0A 28)
  have hR := Blk.new (w.alloc (.cells c.arr 28)) 28 c0A
  simp only [World.size_alloc] at hR
  obtain ⟨pn, hpn⟩ := Int.eq_ofNat_of_zero_le hc.p0
  have hp1 := hc.p1
  rw [hpn, Int.toNat_natCast] at hwv hwi
  have HW := Lib.hid (fun W (hW : Below w.heap.size w W) => show Calls Tryd.prog 30 #[.slice A m.length cap, .int .u32 (pn : Int)] W fun e w' => e = .returned (.tuple #[.int .u32 vv, .bool true]) ∧ w' = W from by
    have h := refWord7_any (hM.below hW) pn (by omega)
    rw [hwv, hwi] at h
    exact h)
  have HD := Lib.hid (fun W => show Calls Tryd.prog 31 #[.int .u32 vv] W fun e w' => e = .returned (.tuple #[.agg #[.int .i64 25, .int .i64 (xa : Int), .int .i64 (b : Int), .int .i64 im], .int .i64 0]) ∧ Below W.heap.size W w' from by
    have h := I.refDecode_any (w := W) I.mayC vv hv
    rw [hx, he] at h
    exact h)
  have HI := Lib.hid (fun W => refImm_any (w := W) im hi.1 hi.2)
  have HC := Lib.hid hc
  have HB0 := Lib.hid hb0
  have HX0 := Lib.hid hX
  have HR0 := Lib.hid hR
  have hpc := cp_pc hX
  have hlt0 := hX.lt
  rw [hpn] at hpc
  have HPN := Lib.hid hpn
  have hzm : (pn : Int).tmod 4 = (pn : Int) % 4 := Int.tmod_eq_emod_of_nonneg (by omega)
  have hpz : (pn : Int) % 4 = 0 := by rw [← hpn]; exact hz
  have hzb : ((pn : Int) % 4 != 0) = false := by simpa using hpz
  have HI0 := Lib.hid hi
  clear hz hpz hi hp0
  clear hb0 hX hR hM hc hwv hwi hv hx he hpn
  unfold c0A at *
  go_enter Tryd.func16, Tryd.ntmps16
  go_wp2_with fail
  refine (HW.out _ HB0.out).mono ?_
  rintro e W0 ⟨rfl, rfl⟩
  go_wp2_with fail
  refine (HD.out _).mono ?_
  rintro e W1 ⟨rfl, hb1⟩
  have HX1 := Lib.hid (HX0.out.below hb1 HX0.out.lt)
  have HR1 := Lib.hid (HR0.out.below hb1 HR0.out.lt)
  have HB1 := Lib.hid (bl_step HB0.out hb1)
  clear hpc hlt0 hb1 HX0 HR0 HB0 HW HD
  have HS1 := Lib.hid HB1.out.size
  have x0 := (cp_all HX1.out).1
  have x1 := (cp_all HX1.out).2.1
  have x2 := (cp_all HX1.out).2.2.1
  have x3 := (cp_all HX1.out).2.2.2.1
  have x4 := (cp_all HX1.out).2.2.2.2.1
  have x5 := (cp_all HX1.out).2.2.2.2.2.1
  have x6 := (cp_all HX1.out).2.2.2.2.2.2.1
  have x7 := (cp_all HX1.out).2.2.2.2.2.2.2.1
  have x8 := (cp_all HX1.out).2.2.2.2.2.2.2.2.1
  have x9 := (cp_all HX1.out).2.2.2.2.2.2.2.2.2.1
  have x10 := (cp_all HX1.out).2.2.2.2.2.2.2.2.2.2.1
  have xlt := (cp_all HX1.out).2.2.2.2.2.2.2.2.2.2.2
  rw [HPN.out] at x10
  go_upto_region 9 with (fail)
  clear x0 x1 x2 x3 x4 x5 x6 x7 x8 x9 x10 xlt
  have hnx : ((pn : Int) + 4) % 4294967296 = nextP c := by rw [← HPN.out]; rfl
  have HI2 := Lib.hid ((Blk.new W1 38 #[.int .i64 25, .int .i64 (xa : Int), .int .i64 (b : Int), .int .i64 im]).alloc (.cells (c.setPc (nextP c)).arr 28))
  have HN2 := Lib.hid (Blk.new (W1.alloc (.cells #[.int .i64 25, .int .i64 (xa : Int), .int .i64 (b : Int), .int .i64 im] 38)) 28 (c.setPc (nextP c)).arr)
  have HBn := Lib.hid (bl_new (bl_new (Below.refl W1.heap.size W1) (.cells #[.int .i64 25, .int .i64 (xa : Int), .int .i64 (b : Int), .int .i64 im] 38)) (.cells (c.setPc (nextP c)).arr 28))
  have HX2 := Lib.hid (HX1.out.below HBn.out HX1.out.lt)
  have HR2 := Lib.hid (HR1.out.below HBn.out HR1.out.lt)
  have HB2 := Lib.hid (bl_step HB1.out HBn.out)
  have HM2 := Lib.hid (HMM.out.below HB2.out)
  have HG := Lib.hid (show w.heap.size + 1 < W1.heap.size from HR1.out.lt)
  rw [World.size_alloc] at HN2
  clear HBn HX1 HR1 HB1
  unfold Cp.arr Cp.setPc at HI2 HN2 HX2 HR2 HB2 HM2
  rw [hnx]
  clear hnx
  dsimp only at HI2 HN2 HX2 HR2 HB2 HM2
  generalize (W1.alloc (.cells #[.int .i64 25, .int .i64 (xa : Int), .int .i64 (b : Int), .int .i64 im] 38)).alloc (.cells #[.int .u32 (c.r 0), .int .u32 (c.r 1), .int .u32 (c.r 2), .int .u32 (c.r 3), .int .u32 (c.r 4), .int .u32 (c.r 5), .int .u32 (c.r 6), .int .u32 (c.r 7), .complex .f64 (c.z 0).1 (c.z 0).2, .complex .f64 (c.z 1).1 (c.z 1).2, .int .u32 (nextP c)] 28) = W2 at *
  obtain ⟨gn, hgn⟩ : ∃ gn, W1.heap.size + 1 = gn := ⟨_, rfl⟩
  rw [hgn] at HN2 ⊢
  have HGN := Lib.hid hgn
  clear hgn
  generalize W1.heap.size = gi at *
  have i3 := (ccells HI2.out).2.2.2.1
  have ilt := (ccells HI2.out).2.2.2.2
  have n10 : W2.cell? ⟨gn, 10, none⟩ = some (.int .u32 (nextP c)) := cp_pc (show CpAt W2 gn (c.setPc (nextP c)) from HN2.out)
  have nlt := HN2.out.lt
  go_quiet ((go_at_call 32; exact Calls.quiet_of_same (HI.out _)))
  rw [show (nextP c + 4 * (im % 4294967296) % 4294967296) % 4294967296 = farP c im from rfl]
  have HI3 := Lib.hid (HI2.out.drewN nq)
  have HX3 := Lib.hid (show CpAt (W2.drewN nq) w.heap.size c from HX2.out.drewN nq)
  have HN3 := Lib.hid (show CpAt (W2.drewN nq) gn (c.setPc (nextP c)) from HN2.out.drewN nq)
  have HR3 := Lib.hid (HR2.out.drewN nq)
  have HM3 := Lib.hid (HM2.out.below (below_drewN (Below.refl _ W2) nq))
  have HB3 := Lib.hid (But.of_below (S := fun k => k = B) (below_drewN HB2.out nq))
  have HGX := Lib.hid (show gn ≠ w.heap.size ∧ gn ≠ w.heap.size + 1 ∧ gi ≠ gn ∧ w.heap.size ≤ gn ∧ (m ≠ [] → B < w.heap.size) from by
    have h1 := HG.out; have h2 := HGN.out
    exact ⟨by omega, by omega, by omega, by omega, HMM.out.lt⟩)
  clear i3 ilt n10 nlt HI2 HX2 HN2 HR2 HM2 HB2 HI hzm hzb
  generalize W2.drewN nq = W3 at *
  have i0 := (ccells HI3.out).1
  have ilt := (ccells HI3.out).2.2.2.2
  go_upto_region 28 with (fail)
  have i1 := (ccells HI3.out).2.1
  have i2 := (ccells HI3.out).2.2.1
  have rb := cp_reg HX3.out (k := b) (by have := HBB.out; omega)
  have rb1 := cp_reg HX3.out (k := b + 1) HBB.out
  have xlt := HX3.out.lt
  have nz := cp_z HN3.out HA.out
  have nfz := HN3.out.frozen (8 + xa)
  have nlt := HN3.out.lt
  have hai : (xa : Int) < 2 := by have := HA.out; omega
  have hbi : (b : Int) < 8 := by have := HBB.out; omega
  have hbj : (b : Int) + 1 < 8 := by have := HBB.out; omega
  have hbk : (0 : Int) ≤ (b : Int) + 1 := by omega
  have hbt : ((b : Int) + 1).toNat = b + 1 := by omega
  have hbw : IntKind.i64.wrap ((b : Int) + 1) = (b : Int) + 1 := by rw [IntKind.wrap_i64]; have := HBB.out; omega
  clear i0
  go_still_tail 16, (by kernel_rfl)
  still_call (HF.out _)
  repeat still_step
  refine wpStill_nil ?_
  change wpList _ _ _ _ _ W3.drew
  have HN4 := Lib.hid (HN3.out.drew)
  have HX4 := Lib.hid (HX3.out.drew)
  have HI4 := Lib.hid (HI3.out.drew)
  have HR4 := Lib.hid (HR3.out.drew)
  have HM4 := Lib.hid (HM3.out.drew)
  have HB4 := Lib.hid (HB3.out.drew)
  clear i1 ilt
  clear HN3 HX3 HI3 HR3 HM3 HB3 nlt i2 rb rb1 xlt nz nfz hai hbi hbj hbk hbt hbw
  generalize W3.drew = W4 at *
  have nlt := HN4.out.lt
  have nz := cp_z HN4.out HA.out
  have nfz := HN4.out.frozen (8 + xa)
  go_upto_region 40 with (fail)
  have HN5 := Lib.hid (show CpAt (W4.setCell ⟨gn, (8 + xa), none⟩ (.complex .f64 z.1 z.2)) gn c2 from by
    have h := (show CpAt W4 gn (c.setPc (nextP c)) from HN4.out).set_ (8 + xa) (.complex .f64 z.1 z.2)
    rw [arr_setZ _ HA.out, show (c.setPc (nextP c)).setZ xa z = (c.setZ xa z).setPc (nextP c) from rfl, HC2.out] at h
    exact h)
  have HX5 := Lib.hid (show CpAt (W4.setCell ⟨gn, (8 + xa), none⟩ (.complex .f64 z.1 z.2)) w.heap.size c from (show CpAt W4 w.heap.size c from HX4.out).far (p := ⟨gn, (8 + xa), none⟩) (fun e => HGX.out.1 e.symm) _)
  have HI5 := Lib.hid (HI4.out.far (p := ⟨gn, (8 + xa), none⟩) HGX.out.2.2.1 (.complex .f64 z.1 z.2))
  have HR5 := Lib.hid (HR4.out.far (p := ⟨gn, (8 + xa), none⟩) (fun e => HGX.out.2.1 e.symm) (.complex .f64 z.1 z.2))
  have HM5 := Lib.hid (show ByIn (W4.setCell ⟨gn, (8 + xa), none⟩ (.complex .f64 z.1 z.2)) A B cap m from by
    by_cases hm : m = []
    · exact ⟨fun h => absurd hm h, HM4.out.cap, HM4.out.low, HM4.out.len⟩
    · exact HM4.out.but (But.setCell (S := fun k => k = gn) (But.refl _ W4) (p := ⟨gn, (8 + xa), none⟩) (.inl rfl) (.complex .f64 z.1 z.2)) (fun e : B = gn => by have := HGX.out.2.2.2.2 hm; have := HGX.out.2.2.2.1; omega))
  have HB5 := Lib.hid (HB4.out.setCell (p := ⟨gn, (8 + xa), none⟩) (.inr HGX.out.2.2.2.1) (.complex .f64 z.1 z.2))
  clear nz nfz nlt HN4 HX4 HI4 HR4 HM4 HB4
  generalize W4.setCell ⟨gn, (8 + xa), none⟩ (.complex .f64 z.1 z.2) = W5 at *
  clear HC2 HBB HF
  have x0 := (cp_all HN5.out).1
  have x1 := (cp_all HN5.out).2.1
  have x2 := (cp_all HN5.out).2.2.1
  have x3 := (cp_all HN5.out).2.2.2.1
  have x4 := (cp_all HN5.out).2.2.2.2.1
  have x5 := (cp_all HN5.out).2.2.2.2.2.1
  have x6 := (cp_all HN5.out).2.2.2.2.2.2.1
  have x7 := (cp_all HN5.out).2.2.2.2.2.2.2.1
  have x8 := (cp_all HN5.out).2.2.2.2.2.2.2.2.1
  have x9 := (cp_all HN5.out).2.2.2.2.2.2.2.2.2.1
  have x10 := (cp_all HN5.out).2.2.2.2.2.2.2.2.2.2.1
  have xlt := (cp_all HN5.out).2.2.2.2.2.2.2.2.2.2.2
  have r0 := (row11 HR5.out).1
  have r1 := (row11 HR5.out).2.1
  have r2 := (row11 HR5.out).2.2.1
  have r3 := (row11 HR5.out).2.2.2.1
  have r4 := (row11 HR5.out).2.2.2.2.1
  have r5 := (row11 HR5.out).2.2.2.2.2.1
  have r6 := (row11 HR5.out).2.2.2.2.2.2.1
  have r7 := (row11 HR5.out).2.2.2.2.2.2.2.1
  have r8 := (row11 HR5.out).2.2.2.2.2.2.2.2.1
  have r9 := (row11 HR5.out).2.2.2.2.2.2.2.2.2.1
  have r10 := (row11 HR5.out).2.2.2.2.2.2.2.2.2.2.1
  have rlt := (row11 HR5.out).2.2.2.2.2.2.2.2.2.2.2
  have rf0 := (HR5.out).frozen 0
  have rf1 := (HR5.out).frozen 1
  have rf2 := (HR5.out).frozen 2
  have rf3 := (HR5.out).frozen 3
  have rf4 := (HR5.out).frozen 4
  have rf5 := (HR5.out).frozen 5
  have rf6 := (HR5.out).frozen 6
  have rf7 := (HR5.out).frozen 7
  have rf8 := (HR5.out).frozen 8
  have rf9 := (HR5.out).frozen 9
  have rf10 := (HR5.out).frozen 10
  go_wp2
  refine bodyPost_ret (results_row_tmp Tryd.results16 _ rfl (set11_blk HR5.out (.int .u32 (c2.r 0)) (.int .u32 (c2.r 1)) (.int .u32 (c2.r 2)) (.int .u32 (c2.r 3)) (.int .u32 (c2.r 4)) (.int .u32 (c2.r 5)) (.int .u32 (c2.r 6)) (.int .u32 (c2.r 7)) (.complex .f64 (c2.z 0).1 (c2.z 0).2) (.complex .f64 (c2.z 1).1 (c2.z 1).2) (.int .u32 c2.pc)) Tryd.underlying28 rfl (by kernel_rfl)) rfl ⟨rfl, ?_, ?_⟩
  · by_cases hm : m = []
    · exact ⟨fun h => absurd hm h, HM5.out.cap, HM5.out.low, HM5.out.len⟩
    · exact HM5.out.but (set11_but (S := fun k => k = w.heap.size + 1) (g := w.heap.size + 1) (But.refl _ W5) (.inl rfl) (.int .u32 (c2.r 0)) (.int .u32 (c2.r 1)) (.int .u32 (c2.r 2)) (.int .u32 (c2.r 3)) (.int .u32 (c2.r 4)) (.int .u32 (c2.r 5)) (.int .u32 (c2.r 6)) (.int .u32 (c2.r 7)) (.complex .f64 (c2.z 0).1 (c2.z 0).2) (.complex .f64 (c2.z 1).1 (c2.z 1).2) (.int .u32 c2.pc)) (fun e : B = w.heap.size + 1 => by have := HGX.out.2.2.2.2 hm; omega)
  · exact set11_but HB5.out (.inr (by omega)) (.int .u32 (c2.r 0)) (.int .u32 (c2.r 1)) (.int .u32 (c2.r 2)) (.int .u32 (c2.r 3)) (.int .u32 (c2.r 4)) (.int .u32 (c2.r 5)) (.int .u32 (c2.r 6)) (.int .u32 (c2.r 7)) (.complex .f64 (c2.z 0).1 (c2.z 0).2) (.complex .f64 (c2.z 1).1 (c2.z 1).2) (.int .u32 c2.pc)

set_option maxRecDepth 100000 in
set_option maxHeartbeats 16000000 in
theorem rs_zget {w : World} {A : Option Addr} {B cap : Nat} {c : Cp} {m : List Int} (hM : ByIn w A B cap m) (hc : c.Ok) (vv : Int) (xa b : Nat) (im : Int) (hwv : (wordM m c.pc.toNat).getD 0 = vv) (hwi : (wordM m c.pc.toNat).isSome = true) (hv : I.RangeW vv) (hx : I.decO vv = ⟨26, (xa : Int), (b : Int), im⟩) (he : I.errI (I.decI vv) = 0) (hz : c.pc % 4 = 0) (hi : -32768 ≤ im ∧ im ≤ 32767) (ha : xa < 2) (hb : b + 1 < 8) (v1 v2 : Int) (hv1 : zre (c.z xa) % 4294967296 = v1) (hv2 : zim (c.z xa) % 4294967296 = v2) (c1 c2 : Cp) (hc1 : (c.setPc (nextP c)).setR b v1 = c1) (hc2 : c1.setR (b + 1) v2 = c2) :
    Calls Tryd.prog 16 #[.agg c.arr, .slice A m.length cap] w (OutR w A B cap (c2, 0, m)) := by
  have HMM := Lib.hid hM
  have hp0 := hc.p0
  have HA := Lib.hid ha
  clear ha
  have HC2 := Lib.hid hc2
  clear hc2
  have HC1 := Lib.hid hc1
  clear hc1
  have HBB := Lib.hid hb
  have HF := Lib.hid (fun W => show Calls Tryd.prog 39 #[.complex .f64 (c.z xa).1 (c.z xa).2] W fun e w' => e = .returned (.tuple #[.int .u32 v1, .int .u32 v2]) ∧ W = w' from by
    have h := rWords_z (w := W) (c.z xa)
    rw [hv1, hv2] at h
    exact h)
  clear hb hv1 hv2
  have hb0 := bl_new (bl_new (Below.refl w.heap.size w) (.cells c.arr 28)) (.cells c0A 28)
  have hX := (Blk.new w 28 c.arr).alloc (.cells c0A 28)
  have hR := Blk.new (w.alloc (.cells c.arr 28)) 28 c0A
  simp only [World.size_alloc] at hR
  obtain ⟨pn, hpn⟩ := Int.eq_ofNat_of_zero_le hc.p0
  have hp1 := hc.p1
  rw [hpn, Int.toNat_natCast] at hwv hwi
  have HW := Lib.hid (fun W (hW : Below w.heap.size w W) => show Calls Tryd.prog 30 #[.slice A m.length cap, .int .u32 (pn : Int)] W fun e w' => e = .returned (.tuple #[.int .u32 vv, .bool true]) ∧ w' = W from by
    have h := refWord7_any (hM.below hW) pn (by omega)
    rw [hwv, hwi] at h
    exact h)
  have HD := Lib.hid (fun W => show Calls Tryd.prog 31 #[.int .u32 vv] W fun e w' => e = .returned (.tuple #[.agg #[.int .i64 26, .int .i64 (xa : Int), .int .i64 (b : Int), .int .i64 im], .int .i64 0]) ∧ Below W.heap.size W w' from by
    have h := I.refDecode_any (w := W) I.mayC vv hv
    rw [hx, he] at h
    exact h)
  have HI := Lib.hid (fun W => refImm_any (w := W) im hi.1 hi.2)
  have HC := Lib.hid hc
  have HB0 := Lib.hid hb0
  have HX0 := Lib.hid hX
  have HR0 := Lib.hid hR
  have hpc := cp_pc hX
  have hlt0 := hX.lt
  rw [hpn] at hpc
  have HPN := Lib.hid hpn
  have hzm : (pn : Int).tmod 4 = (pn : Int) % 4 := Int.tmod_eq_emod_of_nonneg (by omega)
  have hpz : (pn : Int) % 4 = 0 := by rw [← hpn]; exact hz
  have hzb : ((pn : Int) % 4 != 0) = false := by simpa using hpz
  have HI0 := Lib.hid hi
  clear hz hpz hi hp0
  clear hb0 hX hR hM hc hwv hwi hv hx he hpn
  unfold c0A at *
  go_enter Tryd.func16, Tryd.ntmps16
  go_wp2_with fail
  refine (HW.out _ HB0.out).mono ?_
  rintro e W0 ⟨rfl, rfl⟩
  go_wp2_with fail
  refine (HD.out _).mono ?_
  rintro e W1 ⟨rfl, hb1⟩
  have HX1 := Lib.hid (HX0.out.below hb1 HX0.out.lt)
  have HR1 := Lib.hid (HR0.out.below hb1 HR0.out.lt)
  have HB1 := Lib.hid (bl_step HB0.out hb1)
  clear hpc hlt0 hb1 HX0 HR0 HB0 HW HD
  have HS1 := Lib.hid HB1.out.size
  have x0 := (cp_all HX1.out).1
  have x1 := (cp_all HX1.out).2.1
  have x2 := (cp_all HX1.out).2.2.1
  have x3 := (cp_all HX1.out).2.2.2.1
  have x4 := (cp_all HX1.out).2.2.2.2.1
  have x5 := (cp_all HX1.out).2.2.2.2.2.1
  have x6 := (cp_all HX1.out).2.2.2.2.2.2.1
  have x7 := (cp_all HX1.out).2.2.2.2.2.2.2.1
  have x8 := (cp_all HX1.out).2.2.2.2.2.2.2.2.1
  have x9 := (cp_all HX1.out).2.2.2.2.2.2.2.2.2.1
  have x10 := (cp_all HX1.out).2.2.2.2.2.2.2.2.2.2.1
  have xlt := (cp_all HX1.out).2.2.2.2.2.2.2.2.2.2.2
  rw [HPN.out] at x10
  go_upto_region 9 with (fail)
  clear x0 x1 x2 x3 x4 x5 x6 x7 x8 x9 x10 xlt
  have hnx : ((pn : Int) + 4) % 4294967296 = nextP c := by rw [← HPN.out]; rfl
  have HI2 := Lib.hid ((Blk.new W1 38 #[.int .i64 26, .int .i64 (xa : Int), .int .i64 (b : Int), .int .i64 im]).alloc (.cells (c.setPc (nextP c)).arr 28))
  have HN2 := Lib.hid (Blk.new (W1.alloc (.cells #[.int .i64 26, .int .i64 (xa : Int), .int .i64 (b : Int), .int .i64 im] 38)) 28 (c.setPc (nextP c)).arr)
  have HBn := Lib.hid (bl_new (bl_new (Below.refl W1.heap.size W1) (.cells #[.int .i64 26, .int .i64 (xa : Int), .int .i64 (b : Int), .int .i64 im] 38)) (.cells (c.setPc (nextP c)).arr 28))
  have HX2 := Lib.hid (HX1.out.below HBn.out HX1.out.lt)
  have HR2 := Lib.hid (HR1.out.below HBn.out HR1.out.lt)
  have HB2 := Lib.hid (bl_step HB1.out HBn.out)
  have HM2 := Lib.hid (HMM.out.below HB2.out)
  have HG := Lib.hid (show w.heap.size + 1 < W1.heap.size from HR1.out.lt)
  rw [World.size_alloc] at HN2
  clear HBn HX1 HR1 HB1
  unfold Cp.arr Cp.setPc at HI2 HN2 HX2 HR2 HB2 HM2
  rw [hnx]
  clear hnx
  dsimp only at HI2 HN2 HX2 HR2 HB2 HM2
  generalize (W1.alloc (.cells #[.int .i64 26, .int .i64 (xa : Int), .int .i64 (b : Int), .int .i64 im] 38)).alloc (.cells #[.int .u32 (c.r 0), .int .u32 (c.r 1), .int .u32 (c.r 2), .int .u32 (c.r 3), .int .u32 (c.r 4), .int .u32 (c.r 5), .int .u32 (c.r 6), .int .u32 (c.r 7), .complex .f64 (c.z 0).1 (c.z 0).2, .complex .f64 (c.z 1).1 (c.z 1).2, .int .u32 (nextP c)] 28) = W2 at *
  obtain ⟨gn, hgn⟩ : ∃ gn, W1.heap.size + 1 = gn := ⟨_, rfl⟩
  rw [hgn] at HN2 ⊢
  have HGN := Lib.hid hgn
  clear hgn
  generalize W1.heap.size = gi at *
  have i3 := (ccells HI2.out).2.2.2.1
  have ilt := (ccells HI2.out).2.2.2.2
  have n10 : W2.cell? ⟨gn, 10, none⟩ = some (.int .u32 (nextP c)) := cp_pc (show CpAt W2 gn (c.setPc (nextP c)) from HN2.out)
  have nlt := HN2.out.lt
  go_quiet ((go_at_call 32; exact Calls.quiet_of_same (HI.out _)))
  rw [show (nextP c + 4 * (im % 4294967296) % 4294967296) % 4294967296 = farP c im from rfl]
  have HI3 := Lib.hid (HI2.out.drewN nq)
  have HX3 := Lib.hid (show CpAt (W2.drewN nq) w.heap.size c from HX2.out.drewN nq)
  have HN3 := Lib.hid (show CpAt (W2.drewN nq) gn (c.setPc (nextP c)) from HN2.out.drewN nq)
  have HR3 := Lib.hid (HR2.out.drewN nq)
  have HM3 := Lib.hid (HM2.out.below (below_drewN (Below.refl _ W2) nq))
  have HB3 := Lib.hid (But.of_below (S := fun k => k = B) (below_drewN HB2.out nq))
  have HGX := Lib.hid (show gn ≠ w.heap.size ∧ gn ≠ w.heap.size + 1 ∧ gi ≠ gn ∧ w.heap.size ≤ gn ∧ (m ≠ [] → B < w.heap.size) from by
    have h1 := HG.out; have h2 := HGN.out
    exact ⟨by omega, by omega, by omega, by omega, HMM.out.lt⟩)
  clear i3 ilt n10 nlt HI2 HX2 HN2 HR2 HM2 HB2 HI hzm hzb
  generalize W2.drewN nq = W3 at *
  have i0 := (ccells HI3.out).1
  have ilt := (ccells HI3.out).2.2.2.2
  go_upto_region 30 with (fail)
  clear i0 ilt
  refine wp_region_held_drew (S := fun W => Blk W gi 38 #[.int .i64 26, .int .i64 (xa : Int), .int .i64 (b : Int), .int .i64 im] ∧ CpAt W w.heap.size c) (by kernel_rfl) ⟨HI3.out.drew, HX3.out.drew⟩ (fun hS => ?_)
  have HN4 := Lib.hid (HN3.out.drew)
  have HR4 := Lib.hid (HR3.out.drew)
  have HM4 := Lib.hid (HM3.out.drew)
  have HB4 := Lib.hid (HB3.out.drew)
  clear HI3 HX3 HN3 HR3 HM3 HB3
  generalize W3.drew = W4 at *
  refine wpAnyH_take (i := 0) (v := ?_) rfl (by kernel_rfl) (by kernel_rfl) (by kernel_rfl) (fun _ _ _ h => h) (Or.inl ⟨by kernel_rfl, ?_⟩) hS ?_
  rotate_left 1
  · intro w0 hT
    have i0 := (ccells hT.1).1
    have i1 := (ccells hT.1).2.1
    have i2 := (ccells hT.1).2.2.1
    have i3 := (ccells hT.1).2.2.2.1
    have ilt := (ccells hT.1).2.2.2.2
    have xlt := hT.2.lt
    go_simp
    all_goals with_reducible rfl
  refine wpAnyH_take (i := 1) (v := ?_) rfl (by kernel_rfl) (by kernel_rfl) (by kernel_rfl) (fun _ _ _ h => h) (Or.inl ⟨by kernel_rfl, ?_⟩) hS ?_
  rotate_left 1
  · intro w0 hT
    have i0 := (ccells hT.1).1
    have i1 := (ccells hT.1).2.1
    have i2 := (ccells hT.1).2.2.1
    have i3 := (ccells hT.1).2.2.2.1
    have ilt := (ccells hT.1).2.2.2.2
    have xlt := hT.2.lt
    go_simp
    all_goals with_reducible rfl
  refine wpAnyH_take (i := 2) (v := ?_) rfl (by kernel_rfl) (by kernel_rfl) (by kernel_rfl) (fun _ _ _ h => h) (Or.inl ⟨by kernel_rfl, ?_⟩) hS ?_
  rotate_left 1
  · intro w0 hT
    have i0 := (ccells hT.1).1
    have i1 := (ccells hT.1).2.1
    have i2 := (ccells hT.1).2.2.1
    have i3 := (ccells hT.1).2.2.2.1
    have ilt := (ccells hT.1).2.2.2.2
    have xlt := hT.2.lt
    go_simp
    all_goals with_reducible rfl
  refine wpAnyH_take (i := 3) (v := ?_) rfl (by kernel_rfl) (by kernel_rfl) (by kernel_rfl) (fun _ _ _ h => h) (Or.inl ⟨by kernel_rfl, ?_⟩) hS ?_
  rotate_left 1
  · intro w0 hT
    have i0 := (ccells hT.1).1
    have i1 := (ccells hT.1).2.1
    have i2 := (ccells hT.1).2.2.1
    have i3 := (ccells hT.1).2.2.2.1
    have ilt := (ccells hT.1).2.2.2.2
    have xlt := hT.2.lt
    go_simp
    all_goals with_reducible rfl
  refine wpAnyH_take (i := 4) (v := ?_) rfl (by kernel_rfl) (by kernel_rfl) (by kernel_rfl) (fun _ _ _ h => h) (Or.inl ⟨by kernel_rfl, ?_⟩) hS ?_
  rotate_left 1
  · intro w0 hT
    have i0 := (ccells hT.1).1
    have i1 := (ccells hT.1).2.1
    have i2 := (ccells hT.1).2.2.1
    have i3 := (ccells hT.1).2.2.2.1
    have ilt := (ccells hT.1).2.2.2.2
    have xlt := hT.2.lt
    have hbi : (b : Int) < 8 := by have := HBB.out; omega
    have hbj : (b : Int) + 1 < 8 := by have := HBB.out; omega
    have hbk : (0 : Int) ≤ (b : Int) + 1 := by omega
    have hbt : ((b : Int) + 1).toNat = b + 1 := by omega
    have hbw : IntKind.i64.wrap ((b : Int) + 1) = (b : Int) + 1 := by rw [IntKind.wrap_i64]; have := HBB.out; omega
    go_simp
    all_goals with_reducible rfl
  refine wpAnyH_take (i := 5) (v := ?_) rfl (by kernel_rfl) (by kernel_rfl) (by kernel_rfl) (fun _ _ _ h => h) (Or.inl ⟨by kernel_rfl, ?_⟩) hS ?_
  rotate_left 1
  · intro w0 hT
    have i0 := (ccells hT.1).1
    have i1 := (ccells hT.1).2.1
    have i2 := (ccells hT.1).2.2.1
    have i3 := (ccells hT.1).2.2.2.1
    have ilt := (ccells hT.1).2.2.2.2
    have xlt := hT.2.lt
    go_simp
    all_goals with_reducible rfl
  refine wpAnyH_take (i := 6) (v := ?_) rfl (by kernel_rfl) (by kernel_rfl) (by kernel_rfl) (fun _ _ _ h => h) (Or.inl ⟨by kernel_rfl, ?_⟩) hS ?_
  rotate_left 1
  · intro w0 hT
    have i0 := (ccells hT.1).1
    have i1 := (ccells hT.1).2.1
    have i2 := (ccells hT.1).2.2.1
    have i3 := (ccells hT.1).2.2.2.1
    have ilt := (ccells hT.1).2.2.2.2
    have xlt := hT.2.lt
    go_simp
    all_goals with_reducible rfl
  refine wpAnyH_take (i := 7) (v := ?_) rfl (by kernel_rfl) (by kernel_rfl) (by kernel_rfl) (fun _ _ _ h => h) (Or.inl ⟨by kernel_rfl, ?_⟩) hS ?_
  rotate_left 1
  · intro w0 hT
    have i0 := (ccells hT.1).1
    have i1 := (ccells hT.1).2.1
    have i2 := (ccells hT.1).2.2.1
    have i3 := (ccells hT.1).2.2.2.1
    have ilt := (ccells hT.1).2.2.2.2
    have xlt := hT.2.lt
    go_simp
    all_goals with_reducible rfl
  refine wpAnyH_take (i := 8) (v := ?_) rfl (by kernel_rfl) (by kernel_rfl) (by kernel_rfl) (fun _ _ _ h => h) (Or.inl ⟨by kernel_rfl, ?_⟩) hS ?_
  rotate_left 1
  · intro w0 hT
    have i0 := (ccells hT.1).1
    have i1 := (ccells hT.1).2.1
    have i2 := (ccells hT.1).2.2.1
    have i3 := (ccells hT.1).2.2.2.1
    have ilt := (ccells hT.1).2.2.2.2
    have xlt := hT.2.lt
    have hai : (xa : Int) < 2 := by have := HA.out; omega
    have za := cp_z hT.2 HA.out
    go_simp
    all_goals with_reducible rfl
  refine wpAnyH_take (i := 9) (v := ?_) rfl (by kernel_rfl) (by kernel_rfl) (by kernel_rfl) (fun _ _ _ h => h) (Or.inl ⟨by kernel_rfl, ?_⟩) hS ?_
  rotate_left 1
  · intro w0 hT
    have i0 := (ccells hT.1).1
    have i1 := (ccells hT.1).2.1
    have i2 := (ccells hT.1).2.2.1
    have i3 := (ccells hT.1).2.2.2.1
    have ilt := (ccells hT.1).2.2.2.2
    have xlt := hT.2.lt
    have hai : (xa : Int) < 2 := by have := HA.out; omega
    have za := cp_z hT.2 HA.out
    go_simp
    all_goals with_reducible rfl
  refine wpAnyH_take (i := 14) (v := ?_) rfl (by kernel_rfl) (by kernel_rfl) (by kernel_rfl) (fun _ _ _ h => h) (Or.inl ⟨by kernel_rfl, ?_⟩) hS ?_
  rotate_left 1
  · intro w0 hT
    have i0 := (ccells hT.1).1
    have i1 := (ccells hT.1).2.1
    have i2 := (ccells hT.1).2.2.1
    have i3 := (ccells hT.1).2.2.2.1
    have ilt := (ccells hT.1).2.2.2.2
    have xlt := hT.2.lt
    go_simp
    all_goals with_reducible rfl
  refine wpAnyH_take (i := 17) (v := ?_) rfl (by kernel_rfl) (by kernel_rfl) (by kernel_rfl) (fun _ _ _ h => h) (Or.inl ⟨by kernel_rfl, ?_⟩) hS ?_
  rotate_left 1
  · intro w0 hT
    have i0 := (ccells hT.1).1
    have i1 := (ccells hT.1).2.1
    have i2 := (ccells hT.1).2.2.1
    have i3 := (ccells hT.1).2.2.2.1
    have ilt := (ccells hT.1).2.2.2.2
    have xlt := hT.2.lt
    go_simp
    all_goals with_reducible rfl
  refine wpAnyH_ready (rs := [10]) (by kernel_rfl) (by simp) ?_
  refine AllReadyH.cons rfl (fun K hK => ?_) AllReadyH.nil
  go_simp
  refine (HF.out _).mono ?_
  rintro e _ ⟨rfl, rfl⟩
  refine hK.out _ _ hS (fun hS => ?_)
  clear hK K
  refine wpAnyH_take (i := 11) (v := ?_) rfl (by kernel_rfl) (by kernel_rfl) (by kernel_rfl) (fun _ _ _ h => h) (Or.inl ⟨by kernel_rfl, ?_⟩) hS ?_
  rotate_left 1
  · intro w0 hT
    have i0 := (ccells hT.1).1
    have i1 := (ccells hT.1).2.1
    have i2 := (ccells hT.1).2.2.1
    have i3 := (ccells hT.1).2.2.2.1
    have ilt := (ccells hT.1).2.2.2.2
    have xlt := hT.2.lt
    go_simp
    all_goals with_reducible rfl
  refine wpAnyH_take (i := 12) (v := ?_) rfl (by kernel_rfl) (by kernel_rfl) (by kernel_rfl) (fun _ _ _ h => h) (Or.inl ⟨by kernel_rfl, ?_⟩) hS ?_
  rotate_left 1
  · intro w0 hT
    have i0 := (ccells hT.1).1
    have i1 := (ccells hT.1).2.1
    have i2 := (ccells hT.1).2.2.1
    have i3 := (ccells hT.1).2.2.2.1
    have ilt := (ccells hT.1).2.2.2.2
    have xlt := hT.2.lt
    go_simp
    all_goals with_reducible rfl
  refine wpAnyH_take (i := 13) (v := ?_) rfl (by kernel_rfl) (by kernel_rfl) (by kernel_rfl) (fun _ _ _ h => h) (Or.inl ⟨by kernel_rfl, ?_⟩) hS ?_
  rotate_left 1
  · intro w0 hT
    have i0 := (ccells hT.1).1
    have i1 := (ccells hT.1).2.1
    have i2 := (ccells hT.1).2.2.1
    have i3 := (ccells hT.1).2.2.2.1
    have ilt := (ccells hT.1).2.2.2.2
    have xlt := hT.2.lt
    go_simp
    all_goals with_reducible rfl
  refine wpAnyH_take (i := 15) (v := ?_) rfl (by kernel_rfl) (by kernel_rfl) (by kernel_rfl) (fun _ _ _ h => h) (Or.inl ⟨by kernel_rfl, ?_⟩) hS ?_
  rotate_left 1
  · intro w0 hT
    have i0 := (ccells hT.1).1
    have i1 := (ccells hT.1).2.1
    have i2 := (ccells hT.1).2.2.1
    have i3 := (ccells hT.1).2.2.2.1
    have ilt := (ccells hT.1).2.2.2.2
    have xlt := hT.2.lt
    have hbi : (b : Int) < 8 := by have := HBB.out; omega
    have hbj : (b : Int) + 1 < 8 := by have := HBB.out; omega
    have hbk : (0 : Int) ≤ (b : Int) + 1 := by omega
    have hbt : ((b : Int) + 1).toNat = b + 1 := by omega
    have hbw : IntKind.i64.wrap ((b : Int) + 1) = (b : Int) + 1 := by rw [IntKind.wrap_i64]; have := HBB.out; omega
    go_simp
    all_goals with_reducible rfl
  refine wpAnyH_ready (rs := [16]) (by kernel_rfl) (by simp) ?_
  refine AllReadyH.cons rfl (fun K hK => ?_) AllReadyH.nil
  have nz := cp_reg HN4.out (k := b) (by have := HBB.out; omega)
  have nfz := HN4.out.frozen b
  have nlt := HN4.out.lt
  go_simp
  refine hK.out _ _ ⟨hS.1.far (p := ⟨gn, b, none⟩) HGX.out.2.2.1 _, (show CpAt W4 w.heap.size c from hS.2).far (p := ⟨gn, b, none⟩) (fun e => HGX.out.1 e.symm) _⟩ (fun hS => ?_)
  clear hK K
  have HN5 := Lib.hid (show CpAt (W4.setCell ⟨gn, b, none⟩ (.int .u32 v1)) gn c1 from by
    have h := (show CpAt W4 gn (c.setPc (nextP c)) from HN4.out).set_ b (.int .u32 v1)
    rw [arr_setR _ (by have := HBB.out; omega), HC1.out] at h
    exact h)
  have HR5 := Lib.hid (HR4.out.far (p := ⟨gn, b, none⟩) (fun e => HGX.out.2.1 e.symm) (.int .u32 v1))
  have HM5 := Lib.hid (show ByIn (W4.setCell ⟨gn, b, none⟩ (.int .u32 v1)) A B cap m from by
    by_cases hm : m = []
    · exact ⟨fun h => absurd hm h, HM4.out.cap, HM4.out.low, HM4.out.len⟩
    · exact HM4.out.but (But.setCell (S := fun k => k = gn) (But.refl _ W4) (p := ⟨gn, b, none⟩) (.inl rfl) (.int .u32 v1)) (fun e : B = gn => by have := HGX.out.2.2.2.2 hm; have := HGX.out.2.2.2.1; omega))
  have HB5 := Lib.hid (HB4.out.setCell (p := ⟨gn, b, none⟩) (.inr HGX.out.2.2.2.1) (.int .u32 v1))
  clear nz nfz nlt HN4 HR4 HM4 HB4
  generalize W4.setCell ⟨gn, b, none⟩ (.int .u32 v1) = W5 at *
  refine wpAnyH_take (i := 18) (v := ?_) rfl (by kernel_rfl) (by kernel_rfl) (by kernel_rfl) (fun _ _ _ h => h) (Or.inl ⟨by kernel_rfl, ?_⟩) hS ?_
  rotate_left 1
  · intro w0 hT
    have i0 := (ccells hT.1).1
    have i1 := (ccells hT.1).2.1
    have i2 := (ccells hT.1).2.2.1
    have i3 := (ccells hT.1).2.2.2.1
    have ilt := (ccells hT.1).2.2.2.2
    have xlt := hT.2.lt
    have hbi : (b : Int) < 8 := by have := HBB.out; omega
    have hbj : (b : Int) + 1 < 8 := by have := HBB.out; omega
    have hbk : (0 : Int) ≤ (b : Int) + 1 := by omega
    have hbt : ((b : Int) + 1).toNat = b + 1 := by omega
    have hbw : IntKind.i64.wrap ((b : Int) + 1) = (b : Int) + 1 := by rw [IntKind.wrap_i64]; have := HBB.out; omega
    go_simp
    all_goals with_reducible rfl
  refine wpAnyH_ready (rs := [19]) (by kernel_rfl) (by simp) ?_
  refine AllReadyH.cons rfl (fun K hK => ?_) AllReadyH.nil
  have nz := cp_reg HN5.out (k := b + 1) HBB.out
  have nfz := HN5.out.frozen (b + 1)
  have nlt := HN5.out.lt
  go_simp
  refine hK.out _ _ ⟨hS.1.far (p := ⟨gn, (b + 1), none⟩) HGX.out.2.2.1 _, (show CpAt W5 w.heap.size c from hS.2).far (p := ⟨gn, (b + 1), none⟩) (fun e => HGX.out.1 e.symm) _⟩ (fun hS => ?_)
  clear hK K
  have HN6 := Lib.hid (show CpAt (W5.setCell ⟨gn, (b + 1), none⟩ (.int .u32 v2)) gn c2 from by
    have h := (show CpAt W5 gn c1 from HN5.out).set_ (b + 1) (.int .u32 v2)
    rw [arr_setR _ HBB.out, HC2.out] at h
    exact h)
  have HR6 := Lib.hid (HR5.out.far (p := ⟨gn, (b + 1), none⟩) (fun e => HGX.out.2.1 e.symm) (.int .u32 v2))
  have HM6 := Lib.hid (show ByIn (W5.setCell ⟨gn, (b + 1), none⟩ (.int .u32 v2)) A B cap m from by
    by_cases hm : m = []
    · exact ⟨fun h => absurd hm h, HM5.out.cap, HM5.out.low, HM5.out.len⟩
    · exact HM5.out.but (But.setCell (S := fun k => k = gn) (But.refl _ W5) (p := ⟨gn, (b + 1), none⟩) (.inl rfl) (.int .u32 v2)) (fun e : B = gn => by have := HGX.out.2.2.2.2 hm; have := HGX.out.2.2.2.1; omega))
  have HB6 := Lib.hid (HB5.out.setCell (p := ⟨gn, (b + 1), none⟩) (.inr HGX.out.2.2.2.1) (.int .u32 v2))
  clear nz nfz nlt HN5 HR5 HM5 HB5
  generalize W5.setCell ⟨gn, (b + 1), none⟩ (.int .u32 v2) = W6 at *
  refine wpAnyH_done (by kernel_rfl) ?_ _
  go_simp
  go_upto_region 40 with (fail)
  clear HC1 HC2 HBB HF
  have x0 := (cp_all HN6.out).1
  have x1 := (cp_all HN6.out).2.1
  have x2 := (cp_all HN6.out).2.2.1
  have x3 := (cp_all HN6.out).2.2.2.1
  have x4 := (cp_all HN6.out).2.2.2.2.1
  have x5 := (cp_all HN6.out).2.2.2.2.2.1
  have x6 := (cp_all HN6.out).2.2.2.2.2.2.1
  have x7 := (cp_all HN6.out).2.2.2.2.2.2.2.1
  have x8 := (cp_all HN6.out).2.2.2.2.2.2.2.2.1
  have x9 := (cp_all HN6.out).2.2.2.2.2.2.2.2.2.1
  have x10 := (cp_all HN6.out).2.2.2.2.2.2.2.2.2.2.1
  have xlt := (cp_all HN6.out).2.2.2.2.2.2.2.2.2.2.2
  have r0 := (row11 HR6.out).1
  have r1 := (row11 HR6.out).2.1
  have r2 := (row11 HR6.out).2.2.1
  have r3 := (row11 HR6.out).2.2.2.1
  have r4 := (row11 HR6.out).2.2.2.2.1
  have r5 := (row11 HR6.out).2.2.2.2.2.1
  have r6 := (row11 HR6.out).2.2.2.2.2.2.1
  have r7 := (row11 HR6.out).2.2.2.2.2.2.2.1
  have r8 := (row11 HR6.out).2.2.2.2.2.2.2.2.1
  have r9 := (row11 HR6.out).2.2.2.2.2.2.2.2.2.1
  have r10 := (row11 HR6.out).2.2.2.2.2.2.2.2.2.2.1
  have rlt := (row11 HR6.out).2.2.2.2.2.2.2.2.2.2.2
  have rf0 := (HR6.out).frozen 0
  have rf1 := (HR6.out).frozen 1
  have rf2 := (HR6.out).frozen 2
  have rf3 := (HR6.out).frozen 3
  have rf4 := (HR6.out).frozen 4
  have rf5 := (HR6.out).frozen 5
  have rf6 := (HR6.out).frozen 6
  have rf7 := (HR6.out).frozen 7
  have rf8 := (HR6.out).frozen 8
  have rf9 := (HR6.out).frozen 9
  have rf10 := (HR6.out).frozen 10
  go_wp2
  refine bodyPost_ret (results_row_tmp Tryd.results16 _ rfl (set11_blk HR6.out (.int .u32 (c2.r 0)) (.int .u32 (c2.r 1)) (.int .u32 (c2.r 2)) (.int .u32 (c2.r 3)) (.int .u32 (c2.r 4)) (.int .u32 (c2.r 5)) (.int .u32 (c2.r 6)) (.int .u32 (c2.r 7)) (.complex .f64 (c2.z 0).1 (c2.z 0).2) (.complex .f64 (c2.z 1).1 (c2.z 1).2) (.int .u32 c2.pc)) Tryd.underlying28 rfl (by kernel_rfl)) rfl ⟨rfl, ?_, ?_⟩
  · by_cases hm : m = []
    · exact ⟨fun h => absurd hm h, HM6.out.cap, HM6.out.low, HM6.out.len⟩
    · exact HM6.out.but (set11_but (S := fun k => k = w.heap.size + 1) (g := w.heap.size + 1) (But.refl _ W6) (.inl rfl) (.int .u32 (c2.r 0)) (.int .u32 (c2.r 1)) (.int .u32 (c2.r 2)) (.int .u32 (c2.r 3)) (.int .u32 (c2.r 4)) (.int .u32 (c2.r 5)) (.int .u32 (c2.r 6)) (.int .u32 (c2.r 7)) (.complex .f64 (c2.z 0).1 (c2.z 0).2) (.complex .f64 (c2.z 1).1 (c2.z 1).2) (.int .u32 c2.pc)) (fun e : B = w.heap.size + 1 => by have := HGX.out.2.2.2.2 hm; omega)
  · exact set11_but HB6.out (.inr (by omega)) (.int .u32 (c2.r 0)) (.int .u32 (c2.r 1)) (.int .u32 (c2.r 2)) (.int .u32 (c2.r 3)) (.int .u32 (c2.r 4)) (.int .u32 (c2.r 5)) (.int .u32 (c2.r 6)) (.int .u32 (c2.r 7)) (.complex .f64 (c2.z 0).1 (c2.z 0).2) (.complex .f64 (c2.z 1).1 (c2.z 1).2) (.int .u32 c2.pc)

set_option maxRecDepth 100000 in
set_option maxHeartbeats 16000000 in
theorem rs_zadd {w : World} {A : Option Addr} {B cap : Nat} {c : Cp} {m : List Int} (hM : ByIn w A B cap m) (hc : c.Ok) (vv : Int) (xa b : Nat) (im : Int) (hwv : (wordM m c.pc.toNat).getD 0 = vv) (hwi : (wordM m c.pc.toNat).isSome = true) (hv : I.RangeW vv) (hx : I.decO vv = ⟨27, (xa : Int), (b : Int), im⟩) (he : I.errI (I.decI vv) = 0) (hz : c.pc % 4 = 0) (hi : -32768 ≤ im ∧ im ≤ 32767) (ha : xa < 2) (hb : b < 2) (z : Nat × Nat) (hz2 : zmk (zre (c.z xa) + zre (c.z b)) (zim (c.z xa) + zim (c.z b)) = z) (c2 : Cp) (hc2 : (c.setZ xa z).setPc (nextP c) = c2) :
    Calls Tryd.prog 16 #[.agg c.arr, .slice A m.length cap] w (OutR w A B cap (c2, 0, m)) := by
  have HMM := Lib.hid hM
  have hp0 := hc.p0
  have HA := Lib.hid ha
  clear ha
  have HC2 := Lib.hid hc2
  clear hc2
  have HBB := Lib.hid hb
  have HF := Lib.hid (fun W => show Calls Tryd.prog 40 #[.complex .f64 (c.z xa).1 (c.z xa).2, .complex .f64 (c.z b).1 (c.z b).2] W fun e w' => e = .returned (.complex .f64 z.1 z.2) ∧ w' = W from by
    have h := rAdd_any (w := W) (c.z xa).1 (c.z xa).2 (c.z b).1 (c.z b).2
    rw [mk_zmk] at h
    rw [← hz2]
    exact h.mono fun e w' ⟨h1, h2⟩ => ⟨h1, h2.symm⟩)
  clear hb hz2
  have hb0 := bl_new (bl_new (Below.refl w.heap.size w) (.cells c.arr 28)) (.cells c0A 28)
  have hX := (Blk.new w 28 c.arr).alloc (.cells c0A 28)
  have hR := Blk.new (w.alloc (.cells c.arr 28)) 28 c0A
  simp only [World.size_alloc] at hR
  obtain ⟨pn, hpn⟩ := Int.eq_ofNat_of_zero_le hc.p0
  have hp1 := hc.p1
  rw [hpn, Int.toNat_natCast] at hwv hwi
  have HW := Lib.hid (fun W (hW : Below w.heap.size w W) => show Calls Tryd.prog 30 #[.slice A m.length cap, .int .u32 (pn : Int)] W fun e w' => e = .returned (.tuple #[.int .u32 vv, .bool true]) ∧ w' = W from by
    have h := refWord7_any (hM.below hW) pn (by omega)
    rw [hwv, hwi] at h
    exact h)
  have HD := Lib.hid (fun W => show Calls Tryd.prog 31 #[.int .u32 vv] W fun e w' => e = .returned (.tuple #[.agg #[.int .i64 27, .int .i64 (xa : Int), .int .i64 (b : Int), .int .i64 im], .int .i64 0]) ∧ Below W.heap.size W w' from by
    have h := I.refDecode_any (w := W) I.mayC vv hv
    rw [hx, he] at h
    exact h)
  have HI := Lib.hid (fun W => refImm_any (w := W) im hi.1 hi.2)
  have HC := Lib.hid hc
  have HB0 := Lib.hid hb0
  have HX0 := Lib.hid hX
  have HR0 := Lib.hid hR
  have hpc := cp_pc hX
  have hlt0 := hX.lt
  rw [hpn] at hpc
  have HPN := Lib.hid hpn
  have hzm : (pn : Int).tmod 4 = (pn : Int) % 4 := Int.tmod_eq_emod_of_nonneg (by omega)
  have hpz : (pn : Int) % 4 = 0 := by rw [← hpn]; exact hz
  have hzb : ((pn : Int) % 4 != 0) = false := by simpa using hpz
  have HI0 := Lib.hid hi
  clear hz hpz hi hp0
  clear hb0 hX hR hM hc hwv hwi hv hx he hpn
  unfold c0A at *
  go_enter Tryd.func16, Tryd.ntmps16
  go_wp2_with fail
  refine (HW.out _ HB0.out).mono ?_
  rintro e W0 ⟨rfl, rfl⟩
  go_wp2_with fail
  refine (HD.out _).mono ?_
  rintro e W1 ⟨rfl, hb1⟩
  have HX1 := Lib.hid (HX0.out.below hb1 HX0.out.lt)
  have HR1 := Lib.hid (HR0.out.below hb1 HR0.out.lt)
  have HB1 := Lib.hid (bl_step HB0.out hb1)
  clear hpc hlt0 hb1 HX0 HR0 HB0 HW HD
  have HS1 := Lib.hid HB1.out.size
  have x0 := (cp_all HX1.out).1
  have x1 := (cp_all HX1.out).2.1
  have x2 := (cp_all HX1.out).2.2.1
  have x3 := (cp_all HX1.out).2.2.2.1
  have x4 := (cp_all HX1.out).2.2.2.2.1
  have x5 := (cp_all HX1.out).2.2.2.2.2.1
  have x6 := (cp_all HX1.out).2.2.2.2.2.2.1
  have x7 := (cp_all HX1.out).2.2.2.2.2.2.2.1
  have x8 := (cp_all HX1.out).2.2.2.2.2.2.2.2.1
  have x9 := (cp_all HX1.out).2.2.2.2.2.2.2.2.2.1
  have x10 := (cp_all HX1.out).2.2.2.2.2.2.2.2.2.2.1
  have xlt := (cp_all HX1.out).2.2.2.2.2.2.2.2.2.2.2
  rw [HPN.out] at x10
  go_upto_region 9 with (fail)
  clear x0 x1 x2 x3 x4 x5 x6 x7 x8 x9 x10 xlt
  have hnx : ((pn : Int) + 4) % 4294967296 = nextP c := by rw [← HPN.out]; rfl
  have HI2 := Lib.hid ((Blk.new W1 38 #[.int .i64 27, .int .i64 (xa : Int), .int .i64 (b : Int), .int .i64 im]).alloc (.cells (c.setPc (nextP c)).arr 28))
  have HN2 := Lib.hid (Blk.new (W1.alloc (.cells #[.int .i64 27, .int .i64 (xa : Int), .int .i64 (b : Int), .int .i64 im] 38)) 28 (c.setPc (nextP c)).arr)
  have HBn := Lib.hid (bl_new (bl_new (Below.refl W1.heap.size W1) (.cells #[.int .i64 27, .int .i64 (xa : Int), .int .i64 (b : Int), .int .i64 im] 38)) (.cells (c.setPc (nextP c)).arr 28))
  have HX2 := Lib.hid (HX1.out.below HBn.out HX1.out.lt)
  have HR2 := Lib.hid (HR1.out.below HBn.out HR1.out.lt)
  have HB2 := Lib.hid (bl_step HB1.out HBn.out)
  have HM2 := Lib.hid (HMM.out.below HB2.out)
  have HG := Lib.hid (show w.heap.size + 1 < W1.heap.size from HR1.out.lt)
  rw [World.size_alloc] at HN2
  clear HBn HX1 HR1 HB1
  unfold Cp.arr Cp.setPc at HI2 HN2 HX2 HR2 HB2 HM2
  rw [hnx]
  clear hnx
  dsimp only at HI2 HN2 HX2 HR2 HB2 HM2
  generalize (W1.alloc (.cells #[.int .i64 27, .int .i64 (xa : Int), .int .i64 (b : Int), .int .i64 im] 38)).alloc (.cells #[.int .u32 (c.r 0), .int .u32 (c.r 1), .int .u32 (c.r 2), .int .u32 (c.r 3), .int .u32 (c.r 4), .int .u32 (c.r 5), .int .u32 (c.r 6), .int .u32 (c.r 7), .complex .f64 (c.z 0).1 (c.z 0).2, .complex .f64 (c.z 1).1 (c.z 1).2, .int .u32 (nextP c)] 28) = W2 at *
  obtain ⟨gn, hgn⟩ : ∃ gn, W1.heap.size + 1 = gn := ⟨_, rfl⟩
  rw [hgn] at HN2 ⊢
  have HGN := Lib.hid hgn
  clear hgn
  generalize W1.heap.size = gi at *
  have i3 := (ccells HI2.out).2.2.2.1
  have ilt := (ccells HI2.out).2.2.2.2
  have n10 : W2.cell? ⟨gn, 10, none⟩ = some (.int .u32 (nextP c)) := cp_pc (show CpAt W2 gn (c.setPc (nextP c)) from HN2.out)
  have nlt := HN2.out.lt
  go_quiet ((go_at_call 32; exact Calls.quiet_of_same (HI.out _)))
  rw [show (nextP c + 4 * (im % 4294967296) % 4294967296) % 4294967296 = farP c im from rfl]
  have HI3 := Lib.hid (HI2.out.drewN nq)
  have HX3 := Lib.hid (show CpAt (W2.drewN nq) w.heap.size c from HX2.out.drewN nq)
  have HN3 := Lib.hid (show CpAt (W2.drewN nq) gn (c.setPc (nextP c)) from HN2.out.drewN nq)
  have HR3 := Lib.hid (HR2.out.drewN nq)
  have HM3 := Lib.hid (HM2.out.below (below_drewN (Below.refl _ W2) nq))
  have HB3 := Lib.hid (But.of_below (S := fun k => k = B) (below_drewN HB2.out nq))
  have HGX := Lib.hid (show gn ≠ w.heap.size ∧ gn ≠ w.heap.size + 1 ∧ gi ≠ gn ∧ w.heap.size ≤ gn ∧ (m ≠ [] → B < w.heap.size) from by
    have h1 := HG.out; have h2 := HGN.out
    exact ⟨by omega, by omega, by omega, by omega, HMM.out.lt⟩)
  clear i3 ilt n10 nlt HI2 HX2 HN2 HR2 HM2 HB2 HI hzm hzb
  generalize W2.drewN nq = W3 at *
  have i0 := (ccells HI3.out).1
  have ilt := (ccells HI3.out).2.2.2.2
  go_upto_region 32 with (fail)
  have i1 := (ccells HI3.out).2.1
  have i2 := (ccells HI3.out).2.2.1
  have za := cp_z HX3.out HA.out
  have zb := cp_z HX3.out HBB.out
  have xlt := HX3.out.lt
  have nlt := HN3.out.lt
  have hai : (xa : Int) < 2 := by have := HA.out; omega
  have hbi : (b : Int) < 2 := by have := HBB.out; omega
  clear i0
  go_still_tail 15, (by kernel_rfl)
  still_call (HF.out _)
  repeat still_step
  refine wpStill_nil ?_
  change wpList _ _ _ _ _ W3.drew
  have HN4 := Lib.hid (HN3.out.drew)
  have HX4 := Lib.hid (HX3.out.drew)
  have HI4 := Lib.hid (HI3.out.drew)
  have HR4 := Lib.hid (HR3.out.drew)
  have HM4 := Lib.hid (HM3.out.drew)
  have HB4 := Lib.hid (HB3.out.drew)
  clear i1 ilt
  clear HN3 HX3 HI3 HR3 HM3 HB3 nlt i2 za zb xlt hai hbi
  generalize W3.drew = W4 at *
  have nlt := HN4.out.lt
  have nz := cp_z HN4.out HA.out
  have nfz := HN4.out.frozen (8 + xa)
  go_upto_region 40 with (fail)
  have HN5 := Lib.hid (show CpAt (W4.setCell ⟨gn, (8 + xa), none⟩ (.complex .f64 z.1 z.2)) gn c2 from by
    have h := (show CpAt W4 gn (c.setPc (nextP c)) from HN4.out).set_ (8 + xa) (.complex .f64 z.1 z.2)
    rw [arr_setZ _ HA.out, show (c.setPc (nextP c)).setZ xa z = (c.setZ xa z).setPc (nextP c) from rfl, HC2.out] at h
    exact h)
  have HX5 := Lib.hid (show CpAt (W4.setCell ⟨gn, (8 + xa), none⟩ (.complex .f64 z.1 z.2)) w.heap.size c from (show CpAt W4 w.heap.size c from HX4.out).far (p := ⟨gn, (8 + xa), none⟩) (fun e => HGX.out.1 e.symm) _)
  have HI5 := Lib.hid (HI4.out.far (p := ⟨gn, (8 + xa), none⟩) HGX.out.2.2.1 (.complex .f64 z.1 z.2))
  have HR5 := Lib.hid (HR4.out.far (p := ⟨gn, (8 + xa), none⟩) (fun e => HGX.out.2.1 e.symm) (.complex .f64 z.1 z.2))
  have HM5 := Lib.hid (show ByIn (W4.setCell ⟨gn, (8 + xa), none⟩ (.complex .f64 z.1 z.2)) A B cap m from by
    by_cases hm : m = []
    · exact ⟨fun h => absurd hm h, HM4.out.cap, HM4.out.low, HM4.out.len⟩
    · exact HM4.out.but (But.setCell (S := fun k => k = gn) (But.refl _ W4) (p := ⟨gn, (8 + xa), none⟩) (.inl rfl) (.complex .f64 z.1 z.2)) (fun e : B = gn => by have := HGX.out.2.2.2.2 hm; have := HGX.out.2.2.2.1; omega))
  have HB5 := Lib.hid (HB4.out.setCell (p := ⟨gn, (8 + xa), none⟩) (.inr HGX.out.2.2.2.1) (.complex .f64 z.1 z.2))
  clear nz nfz nlt HN4 HX4 HI4 HR4 HM4 HB4
  generalize W4.setCell ⟨gn, (8 + xa), none⟩ (.complex .f64 z.1 z.2) = W5 at *
  clear HC2 HBB HF
  have x0 := (cp_all HN5.out).1
  have x1 := (cp_all HN5.out).2.1
  have x2 := (cp_all HN5.out).2.2.1
  have x3 := (cp_all HN5.out).2.2.2.1
  have x4 := (cp_all HN5.out).2.2.2.2.1
  have x5 := (cp_all HN5.out).2.2.2.2.2.1
  have x6 := (cp_all HN5.out).2.2.2.2.2.2.1
  have x7 := (cp_all HN5.out).2.2.2.2.2.2.2.1
  have x8 := (cp_all HN5.out).2.2.2.2.2.2.2.2.1
  have x9 := (cp_all HN5.out).2.2.2.2.2.2.2.2.2.1
  have x10 := (cp_all HN5.out).2.2.2.2.2.2.2.2.2.2.1
  have xlt := (cp_all HN5.out).2.2.2.2.2.2.2.2.2.2.2
  have r0 := (row11 HR5.out).1
  have r1 := (row11 HR5.out).2.1
  have r2 := (row11 HR5.out).2.2.1
  have r3 := (row11 HR5.out).2.2.2.1
  have r4 := (row11 HR5.out).2.2.2.2.1
  have r5 := (row11 HR5.out).2.2.2.2.2.1
  have r6 := (row11 HR5.out).2.2.2.2.2.2.1
  have r7 := (row11 HR5.out).2.2.2.2.2.2.2.1
  have r8 := (row11 HR5.out).2.2.2.2.2.2.2.2.1
  have r9 := (row11 HR5.out).2.2.2.2.2.2.2.2.2.1
  have r10 := (row11 HR5.out).2.2.2.2.2.2.2.2.2.2.1
  have rlt := (row11 HR5.out).2.2.2.2.2.2.2.2.2.2.2
  have rf0 := (HR5.out).frozen 0
  have rf1 := (HR5.out).frozen 1
  have rf2 := (HR5.out).frozen 2
  have rf3 := (HR5.out).frozen 3
  have rf4 := (HR5.out).frozen 4
  have rf5 := (HR5.out).frozen 5
  have rf6 := (HR5.out).frozen 6
  have rf7 := (HR5.out).frozen 7
  have rf8 := (HR5.out).frozen 8
  have rf9 := (HR5.out).frozen 9
  have rf10 := (HR5.out).frozen 10
  go_wp2
  refine bodyPost_ret (results_row_tmp Tryd.results16 _ rfl (set11_blk HR5.out (.int .u32 (c2.r 0)) (.int .u32 (c2.r 1)) (.int .u32 (c2.r 2)) (.int .u32 (c2.r 3)) (.int .u32 (c2.r 4)) (.int .u32 (c2.r 5)) (.int .u32 (c2.r 6)) (.int .u32 (c2.r 7)) (.complex .f64 (c2.z 0).1 (c2.z 0).2) (.complex .f64 (c2.z 1).1 (c2.z 1).2) (.int .u32 c2.pc)) Tryd.underlying28 rfl (by kernel_rfl)) rfl ⟨rfl, ?_, ?_⟩
  · by_cases hm : m = []
    · exact ⟨fun h => absurd hm h, HM5.out.cap, HM5.out.low, HM5.out.len⟩
    · exact HM5.out.but (set11_but (S := fun k => k = w.heap.size + 1) (g := w.heap.size + 1) (But.refl _ W5) (.inl rfl) (.int .u32 (c2.r 0)) (.int .u32 (c2.r 1)) (.int .u32 (c2.r 2)) (.int .u32 (c2.r 3)) (.int .u32 (c2.r 4)) (.int .u32 (c2.r 5)) (.int .u32 (c2.r 6)) (.int .u32 (c2.r 7)) (.complex .f64 (c2.z 0).1 (c2.z 0).2) (.complex .f64 (c2.z 1).1 (c2.z 1).2) (.int .u32 c2.pc)) (fun e : B = w.heap.size + 1 => by have := HGX.out.2.2.2.2 hm; omega)
  · exact set11_but HB5.out (.inr (by omega)) (.int .u32 (c2.r 0)) (.int .u32 (c2.r 1)) (.int .u32 (c2.r 2)) (.int .u32 (c2.r 3)) (.int .u32 (c2.r 4)) (.int .u32 (c2.r 5)) (.int .u32 (c2.r 6)) (.int .u32 (c2.r 7)) (.complex .f64 (c2.z 0).1 (c2.z 0).2) (.complex .f64 (c2.z 1).1 (c2.z 1).2) (.int .u32 c2.pc)

set_option maxRecDepth 100000 in
set_option maxHeartbeats 16000000 in
theorem rs_zmul {w : World} {A : Option Addr} {B cap : Nat} {c : Cp} {m : List Int} (hM : ByIn w A B cap m) (hc : c.Ok) (vv : Int) (xa b : Nat) (im : Int) (hwv : (wordM m c.pc.toNat).getD 0 = vv) (hwi : (wordM m c.pc.toNat).isSome = true) (hv : I.RangeW vv) (hx : I.decO vv = ⟨28, (xa : Int), (b : Int), im⟩) (he : I.errI (I.decI vv) = 0) (hz : c.pc % 4 = 0) (hi : -32768 ≤ im ∧ im ≤ 32767) (ha : xa < 2) (hb : b < 2) (z : Nat × Nat) (hz2 : zmk (zre (c.z xa) * zre (c.z b) - zim (c.z xa) * zim (c.z b)) (zre (c.z xa) * zim (c.z b) + zim (c.z xa) * zre (c.z b)) = z) (c2 : Cp) (hc2 : (c.setZ xa z).setPc (nextP c) = c2) :
    Calls Tryd.prog 16 #[.agg c.arr, .slice A m.length cap] w (OutR w A B cap (c2, 0, m)) := by
  have HMM := Lib.hid hM
  have hp0 := hc.p0
  have HA := Lib.hid ha
  clear ha
  have HC2 := Lib.hid hc2
  clear hc2
  have HBB := Lib.hid hb
  have HF := Lib.hid (fun W => show Calls Tryd.prog 41 #[.complex .f64 (c.z xa).1 (c.z xa).2, .complex .f64 (c.z b).1 (c.z b).2] W fun e w' => e = .returned (.complex .f64 z.1 z.2) ∧ w' = W from by
    have h := rMul_any (w := W) (c.z xa).1 (c.z xa).2 (c.z b).1 (c.z b).2
    rw [mk_zmk] at h
    rw [← hz2]
    exact h.mono fun e w' ⟨h1, h2⟩ => ⟨h1, h2.symm⟩)
  clear hb hz2
  have hb0 := bl_new (bl_new (Below.refl w.heap.size w) (.cells c.arr 28)) (.cells c0A 28)
  have hX := (Blk.new w 28 c.arr).alloc (.cells c0A 28)
  have hR := Blk.new (w.alloc (.cells c.arr 28)) 28 c0A
  simp only [World.size_alloc] at hR
  obtain ⟨pn, hpn⟩ := Int.eq_ofNat_of_zero_le hc.p0
  have hp1 := hc.p1
  rw [hpn, Int.toNat_natCast] at hwv hwi
  have HW := Lib.hid (fun W (hW : Below w.heap.size w W) => show Calls Tryd.prog 30 #[.slice A m.length cap, .int .u32 (pn : Int)] W fun e w' => e = .returned (.tuple #[.int .u32 vv, .bool true]) ∧ w' = W from by
    have h := refWord7_any (hM.below hW) pn (by omega)
    rw [hwv, hwi] at h
    exact h)
  have HD := Lib.hid (fun W => show Calls Tryd.prog 31 #[.int .u32 vv] W fun e w' => e = .returned (.tuple #[.agg #[.int .i64 28, .int .i64 (xa : Int), .int .i64 (b : Int), .int .i64 im], .int .i64 0]) ∧ Below W.heap.size W w' from by
    have h := I.refDecode_any (w := W) I.mayC vv hv
    rw [hx, he] at h
    exact h)
  have HI := Lib.hid (fun W => refImm_any (w := W) im hi.1 hi.2)
  have HC := Lib.hid hc
  have HB0 := Lib.hid hb0
  have HX0 := Lib.hid hX
  have HR0 := Lib.hid hR
  have hpc := cp_pc hX
  have hlt0 := hX.lt
  rw [hpn] at hpc
  have HPN := Lib.hid hpn
  have hzm : (pn : Int).tmod 4 = (pn : Int) % 4 := Int.tmod_eq_emod_of_nonneg (by omega)
  have hpz : (pn : Int) % 4 = 0 := by rw [← hpn]; exact hz
  have hzb : ((pn : Int) % 4 != 0) = false := by simpa using hpz
  have HI0 := Lib.hid hi
  clear hz hpz hi hp0
  clear hb0 hX hR hM hc hwv hwi hv hx he hpn
  unfold c0A at *
  go_enter Tryd.func16, Tryd.ntmps16
  go_wp2_with fail
  refine (HW.out _ HB0.out).mono ?_
  rintro e W0 ⟨rfl, rfl⟩
  go_wp2_with fail
  refine (HD.out _).mono ?_
  rintro e W1 ⟨rfl, hb1⟩
  have HX1 := Lib.hid (HX0.out.below hb1 HX0.out.lt)
  have HR1 := Lib.hid (HR0.out.below hb1 HR0.out.lt)
  have HB1 := Lib.hid (bl_step HB0.out hb1)
  clear hpc hlt0 hb1 HX0 HR0 HB0 HW HD
  have HS1 := Lib.hid HB1.out.size
  have x0 := (cp_all HX1.out).1
  have x1 := (cp_all HX1.out).2.1
  have x2 := (cp_all HX1.out).2.2.1
  have x3 := (cp_all HX1.out).2.2.2.1
  have x4 := (cp_all HX1.out).2.2.2.2.1
  have x5 := (cp_all HX1.out).2.2.2.2.2.1
  have x6 := (cp_all HX1.out).2.2.2.2.2.2.1
  have x7 := (cp_all HX1.out).2.2.2.2.2.2.2.1
  have x8 := (cp_all HX1.out).2.2.2.2.2.2.2.2.1
  have x9 := (cp_all HX1.out).2.2.2.2.2.2.2.2.2.1
  have x10 := (cp_all HX1.out).2.2.2.2.2.2.2.2.2.2.1
  have xlt := (cp_all HX1.out).2.2.2.2.2.2.2.2.2.2.2
  rw [HPN.out] at x10
  go_upto_region 9 with (fail)
  clear x0 x1 x2 x3 x4 x5 x6 x7 x8 x9 x10 xlt
  have hnx : ((pn : Int) + 4) % 4294967296 = nextP c := by rw [← HPN.out]; rfl
  have HI2 := Lib.hid ((Blk.new W1 38 #[.int .i64 28, .int .i64 (xa : Int), .int .i64 (b : Int), .int .i64 im]).alloc (.cells (c.setPc (nextP c)).arr 28))
  have HN2 := Lib.hid (Blk.new (W1.alloc (.cells #[.int .i64 28, .int .i64 (xa : Int), .int .i64 (b : Int), .int .i64 im] 38)) 28 (c.setPc (nextP c)).arr)
  have HBn := Lib.hid (bl_new (bl_new (Below.refl W1.heap.size W1) (.cells #[.int .i64 28, .int .i64 (xa : Int), .int .i64 (b : Int), .int .i64 im] 38)) (.cells (c.setPc (nextP c)).arr 28))
  have HX2 := Lib.hid (HX1.out.below HBn.out HX1.out.lt)
  have HR2 := Lib.hid (HR1.out.below HBn.out HR1.out.lt)
  have HB2 := Lib.hid (bl_step HB1.out HBn.out)
  have HM2 := Lib.hid (HMM.out.below HB2.out)
  have HG := Lib.hid (show w.heap.size + 1 < W1.heap.size from HR1.out.lt)
  rw [World.size_alloc] at HN2
  clear HBn HX1 HR1 HB1
  unfold Cp.arr Cp.setPc at HI2 HN2 HX2 HR2 HB2 HM2
  rw [hnx]
  clear hnx
  dsimp only at HI2 HN2 HX2 HR2 HB2 HM2
  generalize (W1.alloc (.cells #[.int .i64 28, .int .i64 (xa : Int), .int .i64 (b : Int), .int .i64 im] 38)).alloc (.cells #[.int .u32 (c.r 0), .int .u32 (c.r 1), .int .u32 (c.r 2), .int .u32 (c.r 3), .int .u32 (c.r 4), .int .u32 (c.r 5), .int .u32 (c.r 6), .int .u32 (c.r 7), .complex .f64 (c.z 0).1 (c.z 0).2, .complex .f64 (c.z 1).1 (c.z 1).2, .int .u32 (nextP c)] 28) = W2 at *
  obtain ⟨gn, hgn⟩ : ∃ gn, W1.heap.size + 1 = gn := ⟨_, rfl⟩
  rw [hgn] at HN2 ⊢
  have HGN := Lib.hid hgn
  clear hgn
  generalize W1.heap.size = gi at *
  have i3 := (ccells HI2.out).2.2.2.1
  have ilt := (ccells HI2.out).2.2.2.2
  have n10 : W2.cell? ⟨gn, 10, none⟩ = some (.int .u32 (nextP c)) := cp_pc (show CpAt W2 gn (c.setPc (nextP c)) from HN2.out)
  have nlt := HN2.out.lt
  go_quiet ((go_at_call 32; exact Calls.quiet_of_same (HI.out _)))
  rw [show (nextP c + 4 * (im % 4294967296) % 4294967296) % 4294967296 = farP c im from rfl]
  have HI3 := Lib.hid (HI2.out.drewN nq)
  have HX3 := Lib.hid (show CpAt (W2.drewN nq) w.heap.size c from HX2.out.drewN nq)
  have HN3 := Lib.hid (show CpAt (W2.drewN nq) gn (c.setPc (nextP c)) from HN2.out.drewN nq)
  have HR3 := Lib.hid (HR2.out.drewN nq)
  have HM3 := Lib.hid (HM2.out.below (below_drewN (Below.refl _ W2) nq))
  have HB3 := Lib.hid (But.of_below (S := fun k => k = B) (below_drewN HB2.out nq))
  have HGX := Lib.hid (show gn ≠ w.heap.size ∧ gn ≠ w.heap.size + 1 ∧ gi ≠ gn ∧ w.heap.size ≤ gn ∧ (m ≠ [] → B < w.heap.size) from by
    have h1 := HG.out; have h2 := HGN.out
    exact ⟨by omega, by omega, by omega, by omega, HMM.out.lt⟩)
  clear i3 ilt n10 nlt HI2 HX2 HN2 HR2 HM2 HB2 HI hzm hzb
  generalize W2.drewN nq = W3 at *
  have i0 := (ccells HI3.out).1
  have ilt := (ccells HI3.out).2.2.2.2
  go_upto_region 34 with (fail)
  have i1 := (ccells HI3.out).2.1
  have i2 := (ccells HI3.out).2.2.1
  have za := cp_z HX3.out HA.out
  have zb := cp_z HX3.out HBB.out
  have xlt := HX3.out.lt
  have nlt := HN3.out.lt
  have hai : (xa : Int) < 2 := by have := HA.out; omega
  have hbi : (b : Int) < 2 := by have := HBB.out; omega
  clear i0
  go_still_tail 15, (by kernel_rfl)
  still_call (HF.out _)
  repeat still_step
  refine wpStill_nil ?_
  change wpList _ _ _ _ _ W3.drew
  have HN4 := Lib.hid (HN3.out.drew)
  have HX4 := Lib.hid (HX3.out.drew)
  have HI4 := Lib.hid (HI3.out.drew)
  have HR4 := Lib.hid (HR3.out.drew)
  have HM4 := Lib.hid (HM3.out.drew)
  have HB4 := Lib.hid (HB3.out.drew)
  clear i1 ilt
  clear HN3 HX3 HI3 HR3 HM3 HB3 nlt i2 za zb xlt hai hbi
  generalize W3.drew = W4 at *
  have nlt := HN4.out.lt
  have nz := cp_z HN4.out HA.out
  have nfz := HN4.out.frozen (8 + xa)
  go_upto_region 40 with (fail)
  have HN5 := Lib.hid (show CpAt (W4.setCell ⟨gn, (8 + xa), none⟩ (.complex .f64 z.1 z.2)) gn c2 from by
    have h := (show CpAt W4 gn (c.setPc (nextP c)) from HN4.out).set_ (8 + xa) (.complex .f64 z.1 z.2)
    rw [arr_setZ _ HA.out, show (c.setPc (nextP c)).setZ xa z = (c.setZ xa z).setPc (nextP c) from rfl, HC2.out] at h
    exact h)
  have HX5 := Lib.hid (show CpAt (W4.setCell ⟨gn, (8 + xa), none⟩ (.complex .f64 z.1 z.2)) w.heap.size c from (show CpAt W4 w.heap.size c from HX4.out).far (p := ⟨gn, (8 + xa), none⟩) (fun e => HGX.out.1 e.symm) _)
  have HI5 := Lib.hid (HI4.out.far (p := ⟨gn, (8 + xa), none⟩) HGX.out.2.2.1 (.complex .f64 z.1 z.2))
  have HR5 := Lib.hid (HR4.out.far (p := ⟨gn, (8 + xa), none⟩) (fun e => HGX.out.2.1 e.symm) (.complex .f64 z.1 z.2))
  have HM5 := Lib.hid (show ByIn (W4.setCell ⟨gn, (8 + xa), none⟩ (.complex .f64 z.1 z.2)) A B cap m from by
    by_cases hm : m = []
    · exact ⟨fun h => absurd hm h, HM4.out.cap, HM4.out.low, HM4.out.len⟩
    · exact HM4.out.but (But.setCell (S := fun k => k = gn) (But.refl _ W4) (p := ⟨gn, (8 + xa), none⟩) (.inl rfl) (.complex .f64 z.1 z.2)) (fun e : B = gn => by have := HGX.out.2.2.2.2 hm; have := HGX.out.2.2.2.1; omega))
  have HB5 := Lib.hid (HB4.out.setCell (p := ⟨gn, (8 + xa), none⟩) (.inr HGX.out.2.2.2.1) (.complex .f64 z.1 z.2))
  clear nz nfz nlt HN4 HX4 HI4 HR4 HM4 HB4
  generalize W4.setCell ⟨gn, (8 + xa), none⟩ (.complex .f64 z.1 z.2) = W5 at *
  clear HC2 HBB HF
  have x0 := (cp_all HN5.out).1
  have x1 := (cp_all HN5.out).2.1
  have x2 := (cp_all HN5.out).2.2.1
  have x3 := (cp_all HN5.out).2.2.2.1
  have x4 := (cp_all HN5.out).2.2.2.2.1
  have x5 := (cp_all HN5.out).2.2.2.2.2.1
  have x6 := (cp_all HN5.out).2.2.2.2.2.2.1
  have x7 := (cp_all HN5.out).2.2.2.2.2.2.2.1
  have x8 := (cp_all HN5.out).2.2.2.2.2.2.2.2.1
  have x9 := (cp_all HN5.out).2.2.2.2.2.2.2.2.2.1
  have x10 := (cp_all HN5.out).2.2.2.2.2.2.2.2.2.2.1
  have xlt := (cp_all HN5.out).2.2.2.2.2.2.2.2.2.2.2
  have r0 := (row11 HR5.out).1
  have r1 := (row11 HR5.out).2.1
  have r2 := (row11 HR5.out).2.2.1
  have r3 := (row11 HR5.out).2.2.2.1
  have r4 := (row11 HR5.out).2.2.2.2.1
  have r5 := (row11 HR5.out).2.2.2.2.2.1
  have r6 := (row11 HR5.out).2.2.2.2.2.2.1
  have r7 := (row11 HR5.out).2.2.2.2.2.2.2.1
  have r8 := (row11 HR5.out).2.2.2.2.2.2.2.2.1
  have r9 := (row11 HR5.out).2.2.2.2.2.2.2.2.2.1
  have r10 := (row11 HR5.out).2.2.2.2.2.2.2.2.2.2.1
  have rlt := (row11 HR5.out).2.2.2.2.2.2.2.2.2.2.2
  have rf0 := (HR5.out).frozen 0
  have rf1 := (HR5.out).frozen 1
  have rf2 := (HR5.out).frozen 2
  have rf3 := (HR5.out).frozen 3
  have rf4 := (HR5.out).frozen 4
  have rf5 := (HR5.out).frozen 5
  have rf6 := (HR5.out).frozen 6
  have rf7 := (HR5.out).frozen 7
  have rf8 := (HR5.out).frozen 8
  have rf9 := (HR5.out).frozen 9
  have rf10 := (HR5.out).frozen 10
  go_wp2
  refine bodyPost_ret (results_row_tmp Tryd.results16 _ rfl (set11_blk HR5.out (.int .u32 (c2.r 0)) (.int .u32 (c2.r 1)) (.int .u32 (c2.r 2)) (.int .u32 (c2.r 3)) (.int .u32 (c2.r 4)) (.int .u32 (c2.r 5)) (.int .u32 (c2.r 6)) (.int .u32 (c2.r 7)) (.complex .f64 (c2.z 0).1 (c2.z 0).2) (.complex .f64 (c2.z 1).1 (c2.z 1).2) (.int .u32 c2.pc)) Tryd.underlying28 rfl (by kernel_rfl)) rfl ⟨rfl, ?_, ?_⟩
  · by_cases hm : m = []
    · exact ⟨fun h => absurd hm h, HM5.out.cap, HM5.out.low, HM5.out.len⟩
    · exact HM5.out.but (set11_but (S := fun k => k = w.heap.size + 1) (g := w.heap.size + 1) (But.refl _ W5) (.inl rfl) (.int .u32 (c2.r 0)) (.int .u32 (c2.r 1)) (.int .u32 (c2.r 2)) (.int .u32 (c2.r 3)) (.int .u32 (c2.r 4)) (.int .u32 (c2.r 5)) (.int .u32 (c2.r 6)) (.int .u32 (c2.r 7)) (.complex .f64 (c2.z 0).1 (c2.z 0).2) (.complex .f64 (c2.z 1).1 (c2.z 1).2) (.int .u32 c2.pc)) (fun e : B = w.heap.size + 1 => by have := HGX.out.2.2.2.2 hm; omega)
  · exact set11_but HB5.out (.inr (by omega)) (.int .u32 (c2.r 0)) (.int .u32 (c2.r 1)) (.int .u32 (c2.r 2)) (.int .u32 (c2.r 3)) (.int .u32 (c2.r 4)) (.int .u32 (c2.r 5)) (.int .u32 (c2.r 6)) (.int .u32 (c2.r 7)) (.complex .f64 (c2.z 0).1 (c2.z 0).2) (.complex .f64 (c2.z 1).1 (c2.z 1).2) (.int .u32 c2.pc)

set_option maxRecDepth 100000 in
set_option maxHeartbeats 16000000 in
theorem rs_zconj {w : World} {A : Option Addr} {B cap : Nat} {c : Cp} {m : List Int} (hM : ByIn w A B cap m) (hc : c.Ok) (vv : Int) (xa b : Nat) (im : Int) (hwv : (wordM m c.pc.toNat).getD 0 = vv) (hwi : (wordM m c.pc.toNat).isSome = true) (hv : I.RangeW vv) (hx : I.decO vv = ⟨29, (xa : Int), (b : Int), im⟩) (he : I.errI (I.decI vv) = 0) (hz : c.pc % 4 = 0) (hi : -32768 ≤ im ∧ im ≤ 32767) (ha : xa < 2) (z : Nat × Nat) (hz2 : zmk (zre (c.z xa)) (-zim (c.z xa)) = z) (c2 : Cp) (hc2 : (c.setZ xa z).setPc (nextP c) = c2) :
    Calls Tryd.prog 16 #[.agg c.arr, .slice A m.length cap] w (OutR w A B cap (c2, 0, m)) := by
  have HMM := Lib.hid hM
  have hp0 := hc.p0
  have HA := Lib.hid ha
  clear ha
  have HC2 := Lib.hid hc2
  clear hc2
  obtain ⟨P, hP⟩ : ∃ P, zre (c.z xa) = P := ⟨_, rfl⟩
  obtain ⟨Q, hQ⟩ : ∃ Q, zim (c.z xa) = Q := ⟨_, rfl⟩
  have hrr := zre_range (c.z xa)
  obtain ⟨t, ht⟩ : ∃ t, isP (c.z xa).1 (c.z xa).2 = t := ⟨_, rfl⟩
  have HF := Lib.hid (fun W => show Calls Tryd.prog 42 #[.complex .f64 (c.z xa).1 (c.z xa).2] W fun e w' => e = .returned (.tuple #[.int .i64 P, .int .i64 Q, .bool t]) ∧ W = w' from by
    have h := rParts_z (w := W) (c.z xa)
    rw [ht, hP, hQ] at h
    exact h)
  have HG2 := Lib.hid (fun W => show Calls Tryd.prog 43 #[.int .i64 P, .int .i64 (-Q)] W fun e w' => e = .returned (.complex .f64 z.1 z.2) ∧ w' = W from by
    have h := rMake_any (w := W) P (-Q)
    rw [mk_zmk] at h
    rw [← hz2, hP, hQ]
    exact h.mono fun e w' ⟨h1, h2⟩ => ⟨h1, h2.symm⟩)
  have hq0 : -524288 ≤ Q := by rw [← hQ]; exact hrr.1
  have hq1 : Q ≤ 524287 := by rw [← hQ]; exact hrr.2
  clear hz2 hP hQ hrr ht
  have hb0 := bl_new (bl_new (Below.refl w.heap.size w) (.cells c.arr 28)) (.cells c0A 28)
  have hX := (Blk.new w 28 c.arr).alloc (.cells c0A 28)
  have hR := Blk.new (w.alloc (.cells c.arr 28)) 28 c0A
  simp only [World.size_alloc] at hR
  obtain ⟨pn, hpn⟩ := Int.eq_ofNat_of_zero_le hc.p0
  have hp1 := hc.p1
  rw [hpn, Int.toNat_natCast] at hwv hwi
  have HW := Lib.hid (fun W (hW : Below w.heap.size w W) => show Calls Tryd.prog 30 #[.slice A m.length cap, .int .u32 (pn : Int)] W fun e w' => e = .returned (.tuple #[.int .u32 vv, .bool true]) ∧ w' = W from by
    have h := refWord7_any (hM.below hW) pn (by omega)
    rw [hwv, hwi] at h
    exact h)
  have HD := Lib.hid (fun W => show Calls Tryd.prog 31 #[.int .u32 vv] W fun e w' => e = .returned (.tuple #[.agg #[.int .i64 29, .int .i64 (xa : Int), .int .i64 (b : Int), .int .i64 im], .int .i64 0]) ∧ Below W.heap.size W w' from by
    have h := I.refDecode_any (w := W) I.mayC vv hv
    rw [hx, he] at h
    exact h)
  have HI := Lib.hid (fun W => refImm_any (w := W) im hi.1 hi.2)
  have HC := Lib.hid hc
  have HB0 := Lib.hid hb0
  have HX0 := Lib.hid hX
  have HR0 := Lib.hid hR
  have hpc := cp_pc hX
  have hlt0 := hX.lt
  rw [hpn] at hpc
  have HPN := Lib.hid hpn
  have hzm : (pn : Int).tmod 4 = (pn : Int) % 4 := Int.tmod_eq_emod_of_nonneg (by omega)
  have hpz : (pn : Int) % 4 = 0 := by rw [← hpn]; exact hz
  have hzb : ((pn : Int) % 4 != 0) = false := by simpa using hpz
  have HI0 := Lib.hid hi
  clear hz hpz hi hp0
  clear hb0 hX hR hM hc hwv hwi hv hx he hpn
  unfold c0A at *
  go_enter Tryd.func16, Tryd.ntmps16
  go_wp2_with fail
  refine (HW.out _ HB0.out).mono ?_
  rintro e W0 ⟨rfl, rfl⟩
  go_wp2_with fail
  refine (HD.out _).mono ?_
  rintro e W1 ⟨rfl, hb1⟩
  have HX1 := Lib.hid (HX0.out.below hb1 HX0.out.lt)
  have HR1 := Lib.hid (HR0.out.below hb1 HR0.out.lt)
  have HB1 := Lib.hid (bl_step HB0.out hb1)
  clear hpc hlt0 hb1 HX0 HR0 HB0 HW HD
  have HS1 := Lib.hid HB1.out.size
  have x0 := (cp_all HX1.out).1
  have x1 := (cp_all HX1.out).2.1
  have x2 := (cp_all HX1.out).2.2.1
  have x3 := (cp_all HX1.out).2.2.2.1
  have x4 := (cp_all HX1.out).2.2.2.2.1
  have x5 := (cp_all HX1.out).2.2.2.2.2.1
  have x6 := (cp_all HX1.out).2.2.2.2.2.2.1
  have x7 := (cp_all HX1.out).2.2.2.2.2.2.2.1
  have x8 := (cp_all HX1.out).2.2.2.2.2.2.2.2.1
  have x9 := (cp_all HX1.out).2.2.2.2.2.2.2.2.2.1
  have x10 := (cp_all HX1.out).2.2.2.2.2.2.2.2.2.2.1
  have xlt := (cp_all HX1.out).2.2.2.2.2.2.2.2.2.2.2
  rw [HPN.out] at x10
  go_upto_region 9 with (fail)
  clear x0 x1 x2 x3 x4 x5 x6 x7 x8 x9 x10 xlt
  have hnx : ((pn : Int) + 4) % 4294967296 = nextP c := by rw [← HPN.out]; rfl
  have HI2 := Lib.hid ((Blk.new W1 38 #[.int .i64 29, .int .i64 (xa : Int), .int .i64 (b : Int), .int .i64 im]).alloc (.cells (c.setPc (nextP c)).arr 28))
  have HN2 := Lib.hid (Blk.new (W1.alloc (.cells #[.int .i64 29, .int .i64 (xa : Int), .int .i64 (b : Int), .int .i64 im] 38)) 28 (c.setPc (nextP c)).arr)
  have HBn := Lib.hid (bl_new (bl_new (Below.refl W1.heap.size W1) (.cells #[.int .i64 29, .int .i64 (xa : Int), .int .i64 (b : Int), .int .i64 im] 38)) (.cells (c.setPc (nextP c)).arr 28))
  have HX2 := Lib.hid (HX1.out.below HBn.out HX1.out.lt)
  have HR2 := Lib.hid (HR1.out.below HBn.out HR1.out.lt)
  have HB2 := Lib.hid (bl_step HB1.out HBn.out)
  have HM2 := Lib.hid (HMM.out.below HB2.out)
  have HG := Lib.hid (show w.heap.size + 1 < W1.heap.size from HR1.out.lt)
  rw [World.size_alloc] at HN2
  clear HBn HX1 HR1 HB1
  unfold Cp.arr Cp.setPc at HI2 HN2 HX2 HR2 HB2 HM2
  rw [hnx]
  clear hnx
  dsimp only at HI2 HN2 HX2 HR2 HB2 HM2
  generalize (W1.alloc (.cells #[.int .i64 29, .int .i64 (xa : Int), .int .i64 (b : Int), .int .i64 im] 38)).alloc (.cells #[.int .u32 (c.r 0), .int .u32 (c.r 1), .int .u32 (c.r 2), .int .u32 (c.r 3), .int .u32 (c.r 4), .int .u32 (c.r 5), .int .u32 (c.r 6), .int .u32 (c.r 7), .complex .f64 (c.z 0).1 (c.z 0).2, .complex .f64 (c.z 1).1 (c.z 1).2, .int .u32 (nextP c)] 28) = W2 at *
  obtain ⟨gn, hgn⟩ : ∃ gn, W1.heap.size + 1 = gn := ⟨_, rfl⟩
  rw [hgn] at HN2 ⊢
  have HGN := Lib.hid hgn
  clear hgn
  generalize W1.heap.size = gi at *
  have i3 := (ccells HI2.out).2.2.2.1
  have ilt := (ccells HI2.out).2.2.2.2
  have n10 : W2.cell? ⟨gn, 10, none⟩ = some (.int .u32 (nextP c)) := cp_pc (show CpAt W2 gn (c.setPc (nextP c)) from HN2.out)
  have nlt := HN2.out.lt
  go_quiet ((go_at_call 32; exact Calls.quiet_of_same (HI.out _)))
  rw [show (nextP c + 4 * (im % 4294967296) % 4294967296) % 4294967296 = farP c im from rfl]
  have HI3 := Lib.hid (HI2.out.drewN nq)
  have HX3 := Lib.hid (show CpAt (W2.drewN nq) w.heap.size c from HX2.out.drewN nq)
  have HN3 := Lib.hid (show CpAt (W2.drewN nq) gn (c.setPc (nextP c)) from HN2.out.drewN nq)
  have HR3 := Lib.hid (HR2.out.drewN nq)
  have HM3 := Lib.hid (HM2.out.below (below_drewN (Below.refl _ W2) nq))
  have HB3 := Lib.hid (But.of_below (S := fun k => k = B) (below_drewN HB2.out nq))
  have HGX := Lib.hid (show gn ≠ w.heap.size ∧ gn ≠ w.heap.size + 1 ∧ gi ≠ gn ∧ w.heap.size ≤ gn ∧ (m ≠ [] → B < w.heap.size) from by
    have h1 := HG.out; have h2 := HGN.out
    exact ⟨by omega, by omega, by omega, by omega, HMM.out.lt⟩)
  clear i3 ilt n10 nlt HI2 HX2 HN2 HR2 HM2 HB2 HI hzm hzb
  generalize W2.drewN nq = W3 at *
  have i0 := (ccells HI3.out).1
  have ilt := (ccells HI3.out).2.2.2.2
  have i1 := (ccells HI3.out).2.1
  have za := cp_z HX3.out HA.out
  have xlt := HX3.out.lt
  have hai : (xa : Int) < 2 := by have := HA.out; omega
  go_wp2_with fail
  refine (HF.out _).mono ?_
  rintro e _ ⟨rfl, rfl⟩
  go_upto_region 37 with (fail)
  have nlt := HN3.out.lt
  have hqn : IntKind.i64.wrap (-Q) = -Q := by rw [IntKind.wrap_i64]; omega
  clear i0
  go_still_tail 8, (by kernel_rfl)
  still_call (HG2.out _)
  repeat still_step
  refine wpStill_nil ?_
  change wpList _ _ _ _ _ W3.drew
  have HN4 := Lib.hid (HN3.out.drew)
  have HX4 := Lib.hid (HX3.out.drew)
  have HI4 := Lib.hid (HI3.out.drew)
  have HR4 := Lib.hid (HR3.out.drew)
  have HM4 := Lib.hid (HM3.out.drew)
  have HB4 := Lib.hid (HB3.out.drew)
  clear i1 ilt
  clear HN3 HX3 HI3 HR3 HM3 HB3 nlt za xlt hai hqn
  generalize W3.drew = W4 at *
  have nlt := HN4.out.lt
  have nz := cp_z HN4.out HA.out
  have nfz := HN4.out.frozen (8 + xa)
  go_upto_region 40 with (fail)
  have HN5 := Lib.hid (show CpAt (W4.setCell ⟨gn, (8 + xa), none⟩ (.complex .f64 z.1 z.2)) gn c2 from by
    have h := (show CpAt W4 gn (c.setPc (nextP c)) from HN4.out).set_ (8 + xa) (.complex .f64 z.1 z.2)
    rw [arr_setZ _ HA.out, show (c.setPc (nextP c)).setZ xa z = (c.setZ xa z).setPc (nextP c) from rfl, HC2.out] at h
    exact h)
  have HX5 := Lib.hid (show CpAt (W4.setCell ⟨gn, (8 + xa), none⟩ (.complex .f64 z.1 z.2)) w.heap.size c from (show CpAt W4 w.heap.size c from HX4.out).far (p := ⟨gn, (8 + xa), none⟩) (fun e => HGX.out.1 e.symm) _)
  have HI5 := Lib.hid (HI4.out.far (p := ⟨gn, (8 + xa), none⟩) HGX.out.2.2.1 (.complex .f64 z.1 z.2))
  have HR5 := Lib.hid (HR4.out.far (p := ⟨gn, (8 + xa), none⟩) (fun e => HGX.out.2.1 e.symm) (.complex .f64 z.1 z.2))
  have HM5 := Lib.hid (show ByIn (W4.setCell ⟨gn, (8 + xa), none⟩ (.complex .f64 z.1 z.2)) A B cap m from by
    by_cases hm : m = []
    · exact ⟨fun h => absurd hm h, HM4.out.cap, HM4.out.low, HM4.out.len⟩
    · exact HM4.out.but (But.setCell (S := fun k => k = gn) (But.refl _ W4) (p := ⟨gn, (8 + xa), none⟩) (.inl rfl) (.complex .f64 z.1 z.2)) (fun e : B = gn => by have := HGX.out.2.2.2.2 hm; have := HGX.out.2.2.2.1; omega))
  have HB5 := Lib.hid (HB4.out.setCell (p := ⟨gn, (8 + xa), none⟩) (.inr HGX.out.2.2.2.1) (.complex .f64 z.1 z.2))
  clear nz nfz nlt HN4 HX4 HI4 HR4 HM4 HB4
  generalize W4.setCell ⟨gn, (8 + xa), none⟩ (.complex .f64 z.1 z.2) = W5 at *
  clear HC2 HF HG2
  have x0 := (cp_all HN5.out).1
  have x1 := (cp_all HN5.out).2.1
  have x2 := (cp_all HN5.out).2.2.1
  have x3 := (cp_all HN5.out).2.2.2.1
  have x4 := (cp_all HN5.out).2.2.2.2.1
  have x5 := (cp_all HN5.out).2.2.2.2.2.1
  have x6 := (cp_all HN5.out).2.2.2.2.2.2.1
  have x7 := (cp_all HN5.out).2.2.2.2.2.2.2.1
  have x8 := (cp_all HN5.out).2.2.2.2.2.2.2.2.1
  have x9 := (cp_all HN5.out).2.2.2.2.2.2.2.2.2.1
  have x10 := (cp_all HN5.out).2.2.2.2.2.2.2.2.2.2.1
  have xlt := (cp_all HN5.out).2.2.2.2.2.2.2.2.2.2.2
  have r0 := (row11 HR5.out).1
  have r1 := (row11 HR5.out).2.1
  have r2 := (row11 HR5.out).2.2.1
  have r3 := (row11 HR5.out).2.2.2.1
  have r4 := (row11 HR5.out).2.2.2.2.1
  have r5 := (row11 HR5.out).2.2.2.2.2.1
  have r6 := (row11 HR5.out).2.2.2.2.2.2.1
  have r7 := (row11 HR5.out).2.2.2.2.2.2.2.1
  have r8 := (row11 HR5.out).2.2.2.2.2.2.2.2.1
  have r9 := (row11 HR5.out).2.2.2.2.2.2.2.2.2.1
  have r10 := (row11 HR5.out).2.2.2.2.2.2.2.2.2.2.1
  have rlt := (row11 HR5.out).2.2.2.2.2.2.2.2.2.2.2
  have rf0 := (HR5.out).frozen 0
  have rf1 := (HR5.out).frozen 1
  have rf2 := (HR5.out).frozen 2
  have rf3 := (HR5.out).frozen 3
  have rf4 := (HR5.out).frozen 4
  have rf5 := (HR5.out).frozen 5
  have rf6 := (HR5.out).frozen 6
  have rf7 := (HR5.out).frozen 7
  have rf8 := (HR5.out).frozen 8
  have rf9 := (HR5.out).frozen 9
  have rf10 := (HR5.out).frozen 10
  go_wp2
  refine bodyPost_ret (results_row_tmp Tryd.results16 _ rfl (set11_blk HR5.out (.int .u32 (c2.r 0)) (.int .u32 (c2.r 1)) (.int .u32 (c2.r 2)) (.int .u32 (c2.r 3)) (.int .u32 (c2.r 4)) (.int .u32 (c2.r 5)) (.int .u32 (c2.r 6)) (.int .u32 (c2.r 7)) (.complex .f64 (c2.z 0).1 (c2.z 0).2) (.complex .f64 (c2.z 1).1 (c2.z 1).2) (.int .u32 c2.pc)) Tryd.underlying28 rfl (by kernel_rfl)) rfl ⟨rfl, ?_, ?_⟩
  · by_cases hm : m = []
    · exact ⟨fun h => absurd hm h, HM5.out.cap, HM5.out.low, HM5.out.len⟩
    · exact HM5.out.but (set11_but (S := fun k => k = w.heap.size + 1) (g := w.heap.size + 1) (But.refl _ W5) (.inl rfl) (.int .u32 (c2.r 0)) (.int .u32 (c2.r 1)) (.int .u32 (c2.r 2)) (.int .u32 (c2.r 3)) (.int .u32 (c2.r 4)) (.int .u32 (c2.r 5)) (.int .u32 (c2.r 6)) (.int .u32 (c2.r 7)) (.complex .f64 (c2.z 0).1 (c2.z 0).2) (.complex .f64 (c2.z 1).1 (c2.z 1).2) (.int .u32 c2.pc)) (fun e : B = w.heap.size + 1 => by have := HGX.out.2.2.2.2 hm; omega)
  · exact set11_but HB5.out (.inr (by omega)) (.int .u32 (c2.r 0)) (.int .u32 (c2.r 1)) (.int .u32 (c2.r 2)) (.int .u32 (c2.r 3)) (.int .u32 (c2.r 4)) (.int .u32 (c2.r 5)) (.int .u32 (c2.r 6)) (.int .u32 (c2.r 7)) (.complex .f64 (c2.z 0).1 (c2.z 0).2) (.complex .f64 (c2.z 1).1 (c2.z 1).2) (.int .u32 c2.pc)
end Go.Proofs.YtoglmemmdolbmaaDoor

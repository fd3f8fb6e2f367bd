/-
  The document's Step, walked: on registers, on memory. Condition: the bytes lie in a block, registers are words.
-/
import Derived.Deep.QuietTactic
import Derived.BigQuiet
import Derived.StillTailTactics
import Derived.Test.YtoglmemmdolbmaaDoorCr6b
namespace Go.Proofs.YtoglmemmdolbmaaDoor
open Go.RowKit
set_option linter.unusedVariables false
set_option linter.unusedSimpArgs false
attribute [local go_sem] Oper.semAt_some
attribute [local go_sem] run_store_complex
attribute [local irreducible] floatOfInt wz


set_option maxRecDepth 100000 in
set_option maxHeartbeats 16000000 in
theorem rs_count {w : World} {A : Option Addr} {B cap : Nat} {c : Cp} {m : List Int} (hM : ByIn w A B cap m) (hc : c.Ok) (vv : Int) (op : Int) (xa b : Nat) (im : Int) (hwv : (wordM m c.pc.toNat).getD 0 = vv) (hwi : (wordM m c.pc.toNat).isSome = true) (hv : I.RangeW vv) (hx : I.decO vv = ⟨op, (xa : Int), (b : Int), im⟩) (he : I.errI (I.decI vv) = 0) (hz : c.pc % 4 = 0) (hi : -32768 ≤ im ∧ im ≤ 32767) (ha : xa < 8) (hb : b < 8) (h1 : 1 ≤ op) (h14 : op ≤ 14) (v : Int) (hv2 : (countP op im (c.r xa) (c.r b)).getD 0 = v) (c2 : Cp) (hc2 : (c.setR xa v).setPc (nextP c) = c2) :
    Calls Tryd.prog 16 #[.agg c.arr, .slice A m.length cap] w (OutR w A B cap (c2, 0, m)) := by
  have HMM := Lib.hid hM
  have hp0 := hc.p0
  have HA := Lib.hid ha
  clear ha
  have HC2 := Lib.hid hc2
  clear hc2
  have HBB := Lib.hid hb
  have HF := Lib.hid (fun W => show Calls Tryd.prog 44 #[.agg #[.int .i64 op, .int .i64 (xa : Int), .int .i64 (b : Int), .int .i64 im], .int .u32 (c.r xa), .int .u32 (c.r b)] W fun e w' => e = .returned (.int .u32 v) ∧ Below W.heap.size W w' from by
    have h := refCount7_any (w := W) op (xa : Int) (b : Int) im (c.r xa) (c.r b) h1 h14 hi (hc.r xa) (hc.r b)
    rw [hv2] at h
    exact h)
  have HOP := Lib.hid (And.intro h1 h14)
  clear hb hv2 h1 h14
  have hb0 := bl_new (bl_new (Below.refl w.heap.size w) (.cells c.arr 28)) (.cells c0A 28)
  have hX := (Blk.new w 28 c.arr).alloc (.cells c0A 28)
  have hR := Blk.new (w.alloc (.cells c.arr 28)) 28 c0A
  simp only [World.size_alloc] at hR
  obtain ⟨pn, hpn⟩ := Int.eq_ofNat_of_zero_le hc.p0
  have hp1 := hc.p1
  rw [hpn, Int.toNat_natCast] at hwv hwi
  have HW := Lib.hid (fun W (hW : Below w.heap.size w W) => show Calls Tryd.prog 30 #[.slice A m.length cap, .int .u32 (pn : Int)] W fun e w' => e = .returned (.tuple #[.int .u32 vv, .bool true]) ∧ w' = W from by
    have h := refWord7_any (hM.below hW) pn (by omega)
    rw [hwv, hwi] at h
    exact h)
  have HD := Lib.hid (fun W => show Calls Tryd.prog 31 #[.int .u32 vv] W fun e w' => e = .returned (.tuple #[.agg #[.int .i64 op, .int .i64 (xa : Int), .int .i64 (b : Int), .int .i64 im], .int .i64 0]) ∧ Below W.heap.size W w' from by
    have h := I.refDecode_any (w := W) I.mayC vv hv
    rw [hx, he] at h
    exact h)
  have HI := Lib.hid (fun W => refImm_any (w := W) im hi.1 hi.2)
  have HC := Lib.hid hc
  have HB0 := Lib.hid hb0
  have HX0 := Lib.hid hX
  have HR0 := Lib.hid hR
  have hpc := cp_pc hX
  have hlt0 := hX.lt
  rw [hpn] at hpc
  have HPN := Lib.hid hpn
  have hzm : (pn : Int).tmod 4 = (pn : Int) % 4 := Int.tmod_eq_emod_of_nonneg (by omega)
  have hpz : (pn : Int) % 4 = 0 := by rw [← hpn]; exact hz
  have hzb : ((pn : Int) % 4 != 0) = false := by simpa using hpz
  have HI0 := Lib.hid hi
  clear hz hpz hi hp0
  clear hb0 hX hR hM hc hwv hwi hv hx he hpn
  unfold c0A at *
  go_enter Tryd.func16, Tryd.ntmps16
  go_wp2_with fail
  refine (HW.out _ HB0.out).mono ?_
  rintro e W0 ⟨rfl, rfl⟩
  go_wp2_with fail
  refine (HD.out _).mono ?_
  rintro e W1 ⟨rfl, hb1⟩
  have HX1 := Lib.hid (HX0.out.below hb1 HX0.out.lt)
  have HR1 := Lib.hid (HR0.out.below hb1 HR0.out.lt)
  have HB1 := Lib.hid (bl_step HB0.out hb1)
  clear hpc hlt0 hb1 HX0 HR0 HB0 HW HD
  have HS1 := Lib.hid HB1.out.size
  have x0 := (cp_all HX1.out).1
  have x1 := (cp_all HX1.out).2.1
  have x2 := (cp_all HX1.out).2.2.1
  have x3 := (cp_all HX1.out).2.2.2.1
  have x4 := (cp_all HX1.out).2.2.2.2.1
  have x5 := (cp_all HX1.out).2.2.2.2.2.1
  have x6 := (cp_all HX1.out).2.2.2.2.2.2.1
  have x7 := (cp_all HX1.out).2.2.2.2.2.2.2.1
  have x8 := (cp_all HX1.out).2.2.2.2.2.2.2.2.1
  have x9 := (cp_all HX1.out).2.2.2.2.2.2.2.2.2.1
  have x10 := (cp_all HX1.out).2.2.2.2.2.2.2.2.2.2.1
  have xlt := (cp_all HX1.out).2.2.2.2.2.2.2.2.2.2.2
  rw [HPN.out] at x10
  go_upto_region 9 with (fail)
  clear x0 x1 x2 x3 x4 x5 x6 x7 x8 x9 x10 xlt
  have hnx : ((pn : Int) + 4) % 4294967296 = nextP c := by rw [← HPN.out]; rfl
  have HI2 := Lib.hid ((Blk.new W1 38 #[.int .i64 op, .int .i64 (xa : Int), .int .i64 (b : Int), .int .i64 im]).alloc (.cells (c.setPc (nextP c)).arr 28))
  have HN2 := Lib.hid (Blk.new (W1.alloc (.cells #[.int .i64 op, .int .i64 (xa : Int), .int .i64 (b : Int), .int .i64 im] 38)) 28 (c.setPc (nextP c)).arr)
  have HBn := Lib.hid (bl_new (bl_new (Below.refl W1.heap.size W1) (.cells #[.int .i64 op, .int .i64 (xa : Int), .int .i64 (b : Int), .int .i64 im] 38)) (.cells (c.setPc (nextP c)).arr 28))
  have HX2 := Lib.hid (HX1.out.below HBn.out HX1.out.lt)
  have HR2 := Lib.hid (HR1.out.below HBn.out HR1.out.lt)
  have HB2 := Lib.hid (bl_step HB1.out HBn.out)
  have HM2 := Lib.hid (HMM.out.below HB2.out)
  have HG := Lib.hid (show w.heap.size + 1 < W1.heap.size from HR1.out.lt)
  rw [World.size_alloc] at HN2
  clear HBn HX1 HR1 HB1
  unfold Cp.arr Cp.setPc at HI2 HN2 HX2 HR2 HB2 HM2
  rw [hnx]
  clear hnx
  dsimp only at HI2 HN2 HX2 HR2 HB2 HM2
  generalize (W1.alloc (.cells #[.int .i64 op, .int .i64 (xa : Int), .int .i64 (b : Int), .int .i64 im] 38)).alloc (.cells #[.int .u32 (c.r 0), .int .u32 (c.r 1), .int .u32 (c.r 2), .int .u32 (c.r 3), .int .u32 (c.r 4), .int .u32 (c.r 5), .int .u32 (c.r 6), .int .u32 (c.r 7), .complex .f64 (c.z 0).1 (c.z 0).2, .complex .f64 (c.z 1).1 (c.z 1).2, .int .u32 (nextP c)] 28) = W2 at *
  obtain ⟨gn, hgn⟩ : ∃ gn, W1.heap.size + 1 = gn := ⟨_, rfl⟩
  rw [hgn] at HN2 ⊢
  have HGN := Lib.hid hgn
  clear hgn
  generalize W1.heap.size = gi at *
  have i3 := (ccells HI2.out).2.2.2.1
  have ilt := (ccells HI2.out).2.2.2.2
  have n10 : W2.cell? ⟨gn, 10, none⟩ = some (.int .u32 (nextP c)) := cp_pc (show CpAt W2 gn (c.setPc (nextP c)) from HN2.out)
  have nlt := HN2.out.lt
  go_quiet ((go_at_call 32; exact Calls.quiet_of_same (HI.out _)))
  rw [show (nextP c + 4 * (im % 4294967296) % 4294967296) % 4294967296 = farP c im from rfl]
  have HI3 := Lib.hid (HI2.out.drewN nq)
  have HX3 := Lib.hid (show CpAt (W2.drewN nq) w.heap.size c from HX2.out.drewN nq)
  have HN3 := Lib.hid (show CpAt (W2.drewN nq) gn (c.setPc (nextP c)) from HN2.out.drewN nq)
  have HR3 := Lib.hid (HR2.out.drewN nq)
  have HM3 := Lib.hid (HM2.out.below (below_drewN (Below.refl _ W2) nq))
  have HB3 := Lib.hid (But.of_below (S := fun k => k = B) (below_drewN HB2.out nq))
  have HGX := Lib.hid (show gn ≠ w.heap.size ∧ gn ≠ w.heap.size + 1 ∧ gi ≠ gn ∧ w.heap.size ≤ gn ∧ (m ≠ [] → B < w.heap.size) from by
    have h1 := HG.out; have h2 := HGN.out
    exact ⟨by omega, by omega, by omega, by omega, HMM.out.lt⟩)
  clear i3 ilt n10 nlt HI2 HX2 HN2 HR2 HM2 HB2 HI hzm hzb
  generalize W2.drewN nq = W3 at *
  have i0 := (ccells HI3.out).1
  have ilt := (ccells HI3.out).2.2.2.2
  have q24 : (op == 24) = false := beq_eq_false_iff_ne.2 (by have := HOP.out; omega)
  have q19 : (op == 19) = false := beq_eq_false_iff_ne.2 (by have := HOP.out; omega)
  have q20 : (op == 20) = false := beq_eq_false_iff_ne.2 (by have := HOP.out; omega)
  have q21 : (op == 21) = false := beq_eq_false_iff_ne.2 (by have := HOP.out; omega)
  have q22 : (op == 22) = false := beq_eq_false_iff_ne.2 (by have := HOP.out; omega)
  have q23 : (op == 23) = false := beq_eq_false_iff_ne.2 (by have := HOP.out; omega)
  have q25 : (op == 25) = false := beq_eq_false_iff_ne.2 (by have := HOP.out; omega)
  have q26 : (op == 26) = false := beq_eq_false_iff_ne.2 (by have := HOP.out; omega)
  have q27 : (op == 27) = false := beq_eq_false_iff_ne.2 (by have := HOP.out; omega)
  have q28 : (op == 28) = false := beq_eq_false_iff_ne.2 (by have := HOP.out; omega)
  have q29 : (op == 29) = false := beq_eq_false_iff_ne.2 (by have := HOP.out; omega)
  have q15 : ¬ 15 ≤ op := by have := HOP.out; omega
  have q0 : 0 < op := by have := HOP.out; omega
  go_upto_region 39 with (fail)
  clear i0 ilt q24 q19 q20 q21 q22 q23 q25 q26 q27 q28 q29 q15 q0
  refine wp_region_held_drew (S := fun W => Blk W gi 38 #[.int .i64 op, .int .i64 (xa : Int), .int .i64 (b : Int), .int .i64 im] ∧ CpAt W w.heap.size c) (by kernel_rfl) ⟨HI3.out.drew, HX3.out.drew⟩ (fun hS => ?_)
  have HN4 := Lib.hid (HN3.out.drew)
  have HR4 := Lib.hid (HR3.out.drew)
  have HM4 := Lib.hid (HM3.out.drew)
  have HB4 := Lib.hid (HB3.out.drew)
  clear HI3 HX3 HN3 HR3 HM3 HB3
  generalize W3.drew = W4 at *
  refine wpAnyH_take (i := 0) (v := ?_) rfl (by kernel_rfl) (by kernel_rfl) (by kernel_rfl) (fun _ _ _ h => h) (Or.inl ⟨by kernel_rfl, ?_⟩) hS ?_
  rotate_left 1
  · intro w0 hT
    have i0 := (ccells hT.1).1
    have i1 := (ccells hT.1).2.1
    have i2 := (ccells hT.1).2.2.1
    have i3 := (ccells hT.1).2.2.2.1
    have ilt := (ccells hT.1).2.2.2.2
    have xlt := hT.2.lt
    go_simp
    all_goals with_reducible rfl
  refine wpAnyH_take (i := 1) (v := ?_) rfl (by kernel_rfl) (by kernel_rfl) (by kernel_rfl) (fun _ _ _ h => h) (Or.inl ⟨by kernel_rfl, ?_⟩) hS ?_
  rotate_left 1
  · intro w0 hT
    have i0 := (ccells hT.1).1
    have i1 := (ccells hT.1).2.1
    have i2 := (ccells hT.1).2.2.1
    have i3 := (ccells hT.1).2.2.2.1
    have ilt := (ccells hT.1).2.2.2.2
    have xlt := hT.2.lt
    go_simp
    all_goals with_reducible rfl
  refine wpAnyH_take (i := 2) (v := ?_) rfl (by kernel_rfl) (by kernel_rfl) (by kernel_rfl) (fun _ _ _ h => h) (Or.inl ⟨by kernel_rfl, ?_⟩) hS ?_
  rotate_left 1
  · intro w0 hT
    have i0 := (ccells hT.1).1
    have i1 := (ccells hT.1).2.1
    have i2 := (ccells hT.1).2.2.1
    have i3 := (ccells hT.1).2.2.2.1
    have ilt := (ccells hT.1).2.2.2.2
    have xlt := hT.2.lt
    go_simp
    all_goals with_reducible rfl
  refine wpAnyH_take (i := 3) (v := ?_) rfl (by kernel_rfl) (by kernel_rfl) (by kernel_rfl) (fun _ _ _ h => h) (Or.inl ⟨by kernel_rfl, ?_⟩) hS ?_
  rotate_left 1
  · intro w0 hT
    have i0 := (ccells hT.1).1
    have i1 := (ccells hT.1).2.1
    have i2 := (ccells hT.1).2.2.1
    have i3 := (ccells hT.1).2.2.2.1
    have ilt := (ccells hT.1).2.2.2.2
    have xlt := hT.2.lt
    go_simp
    all_goals with_reducible rfl
  refine wpAnyH_take (i := 4) (v := ?_) rfl (by kernel_rfl) (by kernel_rfl) (by kernel_rfl) (fun _ _ _ h => h) (Or.inl ⟨by kernel_rfl, ?_⟩) hS ?_
  rotate_left 1
  · intro w0 hT
    have i0 := (ccells hT.1).1
    have i1 := (ccells hT.1).2.1
    have i2 := (ccells hT.1).2.2.1
    have i3 := (ccells hT.1).2.2.2.1
    have ilt := (ccells hT.1).2.2.2.2
    have xlt := hT.2.lt
    go_simp
    all_goals with_reducible rfl
  refine wpAnyH_take (i := 5) (v := ?_) rfl (by kernel_rfl) (by kernel_rfl) (by kernel_rfl) (fun _ _ _ h => h) (Or.inl ⟨by kernel_rfl, ?_⟩) hS ?_
  rotate_left 1
  · intro w0 hT
    have i0 := (ccells hT.1).1
    have i1 := (ccells hT.1).2.1
    have i2 := (ccells hT.1).2.2.1
    have i3 := (ccells hT.1).2.2.2.1
    have ilt := (ccells hT.1).2.2.2.2
    have xlt := hT.2.lt
    go_simp
    all_goals with_reducible rfl
  refine wpAnyH_take (i := 6) (v := ?_) rfl (by kernel_rfl) (by kernel_rfl) (by kernel_rfl) (fun _ _ _ h => h) (Or.inl ⟨by kernel_rfl, ?_⟩) hS ?_
  rotate_left 1
  · intro w0 hT
    have i0 := (ccells hT.1).1
    have i1 := (ccells hT.1).2.1
    have i2 := (ccells hT.1).2.2.1
    have i3 := (ccells hT.1).2.2.2.1
    have ilt := (ccells hT.1).2.2.2.2
    have xlt := hT.2.lt
    have hai : (xa : Int) < 8 := by have := HA.out; omega
    have rxa := cp_reg hT.2 HA.out
    go_simp
    all_goals with_reducible rfl
  refine wpAnyH_take (i := 7) (v := ?_) rfl (by kernel_rfl) (by kernel_rfl) (by kernel_rfl) (fun _ _ _ h => h) (Or.inl ⟨by kernel_rfl, ?_⟩) hS ?_
  rotate_left 1
  · intro w0 hT
    have i0 := (ccells hT.1).1
    have i1 := (ccells hT.1).2.1
    have i2 := (ccells hT.1).2.2.1
    have i3 := (ccells hT.1).2.2.2.1
    have ilt := (ccells hT.1).2.2.2.2
    have xlt := hT.2.lt
    have hai : (xa : Int) < 8 := by have := HA.out; omega
    have rxa := cp_reg hT.2 HA.out
    go_simp
    all_goals with_reducible rfl
  refine wpAnyH_take (i := 8) (v := ?_) rfl (by kernel_rfl) (by kernel_rfl) (by kernel_rfl) (fun _ _ _ h => h) (Or.inl ⟨by kernel_rfl, ?_⟩) hS ?_
  rotate_left 1
  · intro w0 hT
    have i0 := (ccells hT.1).1
    have i1 := (ccells hT.1).2.1
    have i2 := (ccells hT.1).2.2.1
    have i3 := (ccells hT.1).2.2.2.1
    have ilt := (ccells hT.1).2.2.2.2
    have xlt := hT.2.lt
    go_simp
    all_goals with_reducible rfl
  refine wpAnyH_take (i := 9) (v := ?_) rfl (by kernel_rfl) (by kernel_rfl) (by kernel_rfl) (fun _ _ _ h => h) (Or.inl ⟨by kernel_rfl, ?_⟩) hS ?_
  rotate_left 1
  · intro w0 hT
    have i0 := (ccells hT.1).1
    have i1 := (ccells hT.1).2.1
    have i2 := (ccells hT.1).2.2.1
    have i3 := (ccells hT.1).2.2.2.1
    have ilt := (ccells hT.1).2.2.2.2
    have xlt := hT.2.lt
    go_simp
    all_goals with_reducible rfl
  refine wpAnyH_take (i := 10) (v := ?_) rfl (by kernel_rfl) (by kernel_rfl) (by kernel_rfl) (fun _ _ _ h => h) (Or.inl ⟨by kernel_rfl, ?_⟩) hS ?_
  rotate_left 1
  · intro w0 hT
    have i0 := (ccells hT.1).1
    have i1 := (ccells hT.1).2.1
    have i2 := (ccells hT.1).2.2.1
    have i3 := (ccells hT.1).2.2.2.1
    have ilt := (ccells hT.1).2.2.2.2
    have xlt := hT.2.lt
    go_simp
    all_goals with_reducible rfl
  refine wpAnyH_take (i := 11) (v := ?_) rfl (by kernel_rfl) (by kernel_rfl) (by kernel_rfl) (fun _ _ _ h => h) (Or.inl ⟨by kernel_rfl, ?_⟩) hS ?_
  rotate_left 1
  · intro w0 hT
    have i0 := (ccells hT.1).1
    have i1 := (ccells hT.1).2.1
    have i2 := (ccells hT.1).2.2.1
    have i3 := (ccells hT.1).2.2.2.1
    have ilt := (ccells hT.1).2.2.2.2
    have xlt := hT.2.lt
    have hbi : (b : Int) < 8 := by have := HBB.out; omega
    have rxb := cp_reg hT.2 HBB.out
    go_simp
    all_goals with_reducible rfl
  refine wpAnyH_take (i := 12) (v := ?_) rfl (by kernel_rfl) (by kernel_rfl) (by kernel_rfl) (fun _ _ _ h => h) (Or.inl ⟨by kernel_rfl, ?_⟩) hS ?_
  rotate_left 1
  · intro w0 hT
    have i0 := (ccells hT.1).1
    have i1 := (ccells hT.1).2.1
    have i2 := (ccells hT.1).2.2.1
    have i3 := (ccells hT.1).2.2.2.1
    have ilt := (ccells hT.1).2.2.2.2
    have xlt := hT.2.lt
    have hbi : (b : Int) < 8 := by have := HBB.out; omega
    have rxb := cp_reg hT.2 HBB.out
    go_simp
    all_goals with_reducible rfl
  refine wpAnyH_take (i := 14) (v := ?_) rfl (by kernel_rfl) (by kernel_rfl) (by kernel_rfl) (fun _ _ _ h => h) (Or.inl ⟨by kernel_rfl, ?_⟩) hS ?_
  rotate_left 1
  · intro w0 hT
    have i0 := (ccells hT.1).1
    have i1 := (ccells hT.1).2.1
    have i2 := (ccells hT.1).2.2.1
    have i3 := (ccells hT.1).2.2.2.1
    have ilt := (ccells hT.1).2.2.2.2
    have xlt := hT.2.lt
    go_simp
    all_goals with_reducible rfl
  refine wpAnyH_ready (rs := [13]) (by kernel_rfl) (by simp) ?_
  refine AllReadyH.cons rfl (fun K hK => ?_) AllReadyH.nil
  go_simp
  refine (HF.out _).mono ?_
  rintro e W5 ⟨rfl, hb⟩
  have HN5 := Lib.hid (HN4.out.below hb HN4.out.lt)
  have HR5 := Lib.hid (HR4.out.below hb HR4.out.lt)
  have HM5 := Lib.hid (HM4.out.below hb)
  have HB5 := Lib.hid (HB4.out.thenBelow hb HB4.out.size)
  refine hK.out _ _ ⟨hS.1.below hb hS.1.lt, hS.2.below hb hS.2.lt⟩ (fun hS => ?_)
  clear hK K hb HN4 HR4 HM4 HB4
  refine wpAnyH_take (i := 15) (v := ?_) rfl (by kernel_rfl) (by kernel_rfl) (by kernel_rfl) (fun _ _ _ h => h) (Or.inl ⟨by kernel_rfl, ?_⟩) hS ?_
  rotate_left 1
  · intro w0 hT
    have i0 := (ccells hT.1).1
    have i1 := (ccells hT.1).2.1
    have i2 := (ccells hT.1).2.2.1
    have i3 := (ccells hT.1).2.2.2.1
    have ilt := (ccells hT.1).2.2.2.2
    have xlt := hT.2.lt
    have hai : (xa : Int) < 8 := by have := HA.out; omega
    have rxa := cp_reg hT.2 HA.out
    go_simp
    all_goals with_reducible rfl
  refine wpAnyH_ready (rs := [16]) (by kernel_rfl) (by simp) ?_
  refine AllReadyH.cons rfl (fun K hK => ?_) AllReadyH.nil
  have nz := cp_reg HN5.out HA.out
  have nfz := HN5.out.frozen xa
  have nlt := HN5.out.lt
  go_simp
  refine hK.out _ _ ⟨hS.1.far (p := ⟨gn, xa, none⟩) HGX.out.2.2.1 _, (show CpAt W5 w.heap.size c from hS.2).far (p := ⟨gn, xa, none⟩) (fun e => HGX.out.1 e.symm) _⟩ (fun hS => ?_)
  clear hK K
  have HN6 := Lib.hid (show CpAt (W5.setCell ⟨gn, xa, none⟩ (.int .u32 v)) gn c2 from by
    have h := (show CpAt W5 gn (c.setPc (nextP c)) from HN5.out).set_ xa (.int .u32 v)
    rw [arr_setR _ HA.out, show (c.setPc (nextP c)).setR xa v = (c.setR xa v).setPc (nextP c) from rfl, HC2.out] at h
    exact h)
  have HR6 := Lib.hid (HR5.out.far (p := ⟨gn, xa, none⟩) (fun e => HGX.out.2.1 e.symm) (.int .u32 v))
  have HM6 := Lib.hid (show ByIn (W5.setCell ⟨gn, xa, none⟩ (.int .u32 v)) A B cap m from by
    by_cases hm : m = []
    · exact ⟨fun h => absurd hm h, HM5.out.cap, HM5.out.low, HM5.out.len⟩
    · exact HM5.out.but (But.setCell (S := fun k => k = gn) (But.refl _ W5) (p := ⟨gn, xa, none⟩) (.inl rfl) (.int .u32 v)) (fun e : B = gn => by have := HGX.out.2.2.2.2 hm; have := HGX.out.2.2.2.1; omega))
  have HB6 := Lib.hid (HB5.out.setCell (p := ⟨gn, xa, none⟩) (.inr HGX.out.2.2.2.1) (.int .u32 v))
  clear nz nfz nlt HN5 HR5 HM5 HB5
  generalize W5.setCell ⟨gn, xa, none⟩ (.int .u32 v) = W6 at *
  refine wpAnyH_done (by kernel_rfl) ?_ _
  go_simp
  go_upto_region 40 with (fail)
  clear HC2 HBB HF HOP
  have x0 := (cp_all HN6.out).1
  have x1 := (cp_all HN6.out).2.1
  have x2 := (cp_all HN6.out).2.2.1
  have x3 := (cp_all HN6.out).2.2.2.1
  have x4 := (cp_all HN6.out).2.2.2.2.1
  have x5 := (cp_all HN6.out).2.2.2.2.2.1
  have x6 := (cp_all HN6.out).2.2.2.2.2.2.1
  have x7 := (cp_all HN6.out).2.2.2.2.2.2.2.1
  have x8 := (cp_all HN6.out).2.2.2.2.2.2.2.2.1
  have x9 := (cp_all HN6.out).2.2.2.2.2.2.2.2.2.1
  have x10 := (cp_all HN6.out).2.2.2.2.2.2.2.2.2.2.1
  have xlt := (cp_all HN6.out).2.2.2.2.2.2.2.2.2.2.2
  have r0 := (row11 HR6.out).1
  have r1 := (row11 HR6.out).2.1
  have r2 := (row11 HR6.out).2.2.1
  have r3 := (row11 HR6.out).2.2.2.1
  have r4 := (row11 HR6.out).2.2.2.2.1
  have r5 := (row11 HR6.out).2.2.2.2.2.1
  have r6 := (row11 HR6.out).2.2.2.2.2.2.1
  have r7 := (row11 HR6.out).2.2.2.2.2.2.2.1
  have r8 := (row11 HR6.out).2.2.2.2.2.2.2.2.1
  have r9 := (row11 HR6.out).2.2.2.2.2.2.2.2.2.1
  have r10 := (row11 HR6.out).2.2.2.2.2.2.2.2.2.2.1
  have rlt := (row11 HR6.out).2.2.2.2.2.2.2.2.2.2.2
  have rf0 := (HR6.out).frozen 0
  have rf1 := (HR6.out).frozen 1
  have rf2 := (HR6.out).frozen 2
  have rf3 := (HR6.out).frozen 3
  have rf4 := (HR6.out).frozen 4
  have rf5 := (HR6.out).frozen 5
  have rf6 := (HR6.out).frozen 6
  have rf7 := (HR6.out).frozen 7
  have rf8 := (HR6.out).frozen 8
  have rf9 := (HR6.out).frozen 9
  have rf10 := (HR6.out).frozen 10
  go_wp2
  refine bodyPost_ret (results_row_tmp Tryd.results16 _ rfl (set11_blk HR6.out (.int .u32 (c2.r 0)) (.int .u32 (c2.r 1)) (.int .u32 (c2.r 2)) (.int .u32 (c2.r 3)) (.int .u32 (c2.r 4)) (.int .u32 (c2.r 5)) (.int .u32 (c2.r 6)) (.int .u32 (c2.r 7)) (.complex .f64 (c2.z 0).1 (c2.z 0).2) (.complex .f64 (c2.z 1).1 (c2.z 1).2) (.int .u32 c2.pc)) Tryd.underlying28 rfl (by kernel_rfl)) rfl ⟨rfl, ?_, ?_⟩
  · by_cases hm : m = []
    · exact ⟨fun h => absurd hm h, HM6.out.cap, HM6.out.low, HM6.out.len⟩
    · exact HM6.out.but (set11_but (S := fun k => k = w.heap.size + 1) (g := w.heap.size + 1) (But.refl _ W6) (.inl rfl) (.int .u32 (c2.r 0)) (.int .u32 (c2.r 1)) (.int .u32 (c2.r 2)) (.int .u32 (c2.r 3)) (.int .u32 (c2.r 4)) (.int .u32 (c2.r 5)) (.int .u32 (c2.r 6)) (.int .u32 (c2.r 7)) (.complex .f64 (c2.z 0).1 (c2.z 0).2) (.complex .f64 (c2.z 1).1 (c2.z 1).2) (.int .u32 c2.pc)) (fun e : B = w.heap.size + 1 => by have := HGX.out.2.2.2.2 hm; omega)
  · exact set11_but HB6.out (.inr (by omega)) (.int .u32 (c2.r 0)) (.int .u32 (c2.r 1)) (.int .u32 (c2.r 2)) (.int .u32 (c2.r 3)) (.int .u32 (c2.r 4)) (.int .u32 (c2.r 5)) (.int .u32 (c2.r 6)) (.int .u32 (c2.r 7)) (.complex .f64 (c2.z 0).1 (c2.z 0).2) (.complex .f64 (c2.z 1).1 (c2.z 1).2) (.int .u32 c2.pc)

set_option maxRecDepth 100000 in
set_option maxHeartbeats 16000000 in
theorem rs_mem {w : World} {A : Option Addr} {B cap : Nat} {c : Cp} {m : List Int} (hM : ByIn w A B cap m) (hc : c.Ok) (vv : Int) (op : Int) (xa b : Nat) (im : Int) (hwv : (wordM m c.pc.toNat).getD 0 = vv) (hwi : (wordM m c.pc.toNat).isSome = true) (hv : I.RangeW vv) (hx : I.decO vv = ⟨op, (xa : Int), (b : Int), im⟩) (he : I.errI (I.decI vv) = 0) (hz : c.pc % 4 = 0) (hi : -32768 ≤ im ∧ im ≤ 32767) (ha : xa < 8) (h15 : 15 ≤ op) (h18 : op ≤ 18) (ht : touchP c m = touchX c op b im) (c2 : Cp) (t : Int) (m2 : List Int) (hr : execP c m op xa b im = (c2, t, m2)) :
    Calls Tryd.prog 16 #[.agg c.arr, .slice A m.length cap] w (OutR w A B cap (c2, t, m2)) := by
  have HMM := Lib.hid hM
  have hp0 := hc.p0
  have HF := Lib.hid (fun W (hW : ByIn W A B cap m) => show Calls Tryd.prog 37 #[.agg #[.int .i64 op, .int .i64 (xa : Int), .int .i64 (b : Int), .int .i64 im], .agg #[.int .u32 (c.r 0), .int .u32 (c.r 1), .int .u32 (c.r 2), .int .u32 (c.r 3), .int .u32 (c.r 4), .int .u32 (c.r 5), .int .u32 (c.r 6), .int .u32 (c.r 7), .complex .f64 (c.z 0).1 (c.z 0).2, .complex .f64 (c.z 1).1 (c.z 1).2, .int .u32 c.pc], .slice A m.length cap] W fun e w' => e = .returned (.tuple #[.agg #[.int .u32 (c2.r 0), .int .u32 (c2.r 1), .int .u32 (c2.r 2), .int .u32 (c2.r 3), .int .u32 (c2.r 4), .int .u32 (c2.r 5), .int .u32 (c2.r 6), .int .u32 (c2.r 7), .complex .f64 (c2.z 0).1 (c2.z 0).2, .complex .f64 (c2.z 1).1 (c2.z 1).2, .int .u32 c2.pc], .int .i64 t]) ∧ ByIn w' A B cap m2 ∧ But (fun k => k = B) W w' from by
    have h := rmem_any hW hc op xa b im ⟨h15, h18⟩ ht ha
    rw [hr] at h
    exact h)
  have HOP := Lib.hid (And.intro h15 h18)
  have HNE := Lib.hid (show m ≠ [] from by
    rintro rfl
    unfold wordM at hwi
    rw [if_neg (by simp)] at hwi
    cases hwi)
  clear ht hr h15 h18 ha
  have hb0 := bl_new (bl_new (Below.refl w.heap.size w) (.cells c.arr 28)) (.cells c0A 28)
  have hX := (Blk.new w 28 c.arr).alloc (.cells c0A 28)
  have hR := Blk.new (w.alloc (.cells c.arr 28)) 28 c0A
  simp only [World.size_alloc] at hR
  obtain ⟨pn, hpn⟩ := Int.eq_ofNat_of_zero_le hc.p0
  have hp1 := hc.p1
  rw [hpn, Int.toNat_natCast] at hwv hwi
  have HW := Lib.hid (fun W (hW : Below w.heap.size w W) => show Calls Tryd.prog 30 #[.slice A m.length cap, .int .u32 (pn : Int)] W fun e w' => e = .returned (.tuple #[.int .u32 vv, .bool true]) ∧ w' = W from by
    have h := refWord7_any (hM.below hW) pn (by omega)
    rw [hwv, hwi] at h
    exact h)
  have HD := Lib.hid (fun W => show Calls Tryd.prog 31 #[.int .u32 vv] W fun e w' => e = .returned (.tuple #[.agg #[.int .i64 op, .int .i64 (xa : Int), .int .i64 (b : Int), .int .i64 im], .int .i64 0]) ∧ Below W.heap.size W w' from by
    have h := I.refDecode_any (w := W) I.mayC vv hv
    rw [hx, he] at h
    exact h)
  have HI := Lib.hid (fun W => refImm_any (w := W) im hi.1 hi.2)
  have HC := Lib.hid hc
  have HB0 := Lib.hid hb0
  have HX0 := Lib.hid hX
  have HR0 := Lib.hid hR
  have hpc := cp_pc hX
  have hlt0 := hX.lt
  rw [hpn] at hpc
  have HPN := Lib.hid hpn
  have hzm : (pn : Int).tmod 4 = (pn : Int) % 4 := Int.tmod_eq_emod_of_nonneg (by omega)
  have hpz : (pn : Int) % 4 = 0 := by rw [← hpn]; exact hz
  have hzb : ((pn : Int) % 4 != 0) = false := by simpa using hpz
  have HI0 := Lib.hid hi
  clear hz hpz hi hp0
  clear hb0 hX hR hM hc hwv hwi hv hx he hpn
  unfold c0A at *
  go_enter Tryd.func16, Tryd.ntmps16
  go_wp2_with fail
  refine (HW.out _ HB0.out).mono ?_
  rintro e W0 ⟨rfl, rfl⟩
  go_wp2_with fail
  refine (HD.out _).mono ?_
  rintro e W1 ⟨rfl, hb1⟩
  have HX1 := Lib.hid (HX0.out.below hb1 HX0.out.lt)
  have HR1 := Lib.hid (HR0.out.below hb1 HR0.out.lt)
  have HB1 := Lib.hid (bl_step HB0.out hb1)
  clear hpc hlt0 hb1 HX0 HR0 HB0 HW HD
  have HS1 := Lib.hid HB1.out.size
  have x0 := (cp_all HX1.out).1
  have x1 := (cp_all HX1.out).2.1
  have x2 := (cp_all HX1.out).2.2.1
  have x3 := (cp_all HX1.out).2.2.2.1
  have x4 := (cp_all HX1.out).2.2.2.2.1
  have x5 := (cp_all HX1.out).2.2.2.2.2.1
  have x6 := (cp_all HX1.out).2.2.2.2.2.2.1
  have x7 := (cp_all HX1.out).2.2.2.2.2.2.2.1
  have x8 := (cp_all HX1.out).2.2.2.2.2.2.2.2.1
  have x9 := (cp_all HX1.out).2.2.2.2.2.2.2.2.2.1
  have x10 := (cp_all HX1.out).2.2.2.2.2.2.2.2.2.2.1
  have xlt := (cp_all HX1.out).2.2.2.2.2.2.2.2.2.2.2
  rw [HPN.out] at x10
  go_upto_region 9 with (fail)
  clear x0 x1 x2 x3 x4 x5 x6 x7 x8 x9 x10 xlt
  have hnx : ((pn : Int) + 4) % 4294967296 = nextP c := by rw [← HPN.out]; rfl
  have HI2 := Lib.hid ((Blk.new W1 38 #[.int .i64 op, .int .i64 (xa : Int), .int .i64 (b : Int), .int .i64 im]).alloc (.cells (c.setPc (nextP c)).arr 28))
  have HN2 := Lib.hid (Blk.new (W1.alloc (.cells #[.int .i64 op, .int .i64 (xa : Int), .int .i64 (b : Int), .int .i64 im] 38)) 28 (c.setPc (nextP c)).arr)
  have HBn := Lib.hid (bl_new (bl_new (Below.refl W1.heap.size W1) (.cells #[.int .i64 op, .int .i64 (xa : Int), .int .i64 (b : Int), .int .i64 im] 38)) (.cells (c.setPc (nextP c)).arr 28))
  have HX2 := Lib.hid (HX1.out.below HBn.out HX1.out.lt)
  have HR2 := Lib.hid (HR1.out.below HBn.out HR1.out.lt)
  have HB2 := Lib.hid (bl_step HB1.out HBn.out)
  have HM2 := Lib.hid (HMM.out.below HB2.out)
  have HG := Lib.hid (show w.heap.size + 1 < W1.heap.size from HR1.out.lt)
  rw [World.size_alloc] at HN2
  clear HBn HX1 HR1 HB1
  unfold Cp.arr Cp.setPc at HI2 HN2 HX2 HR2 HB2 HM2
  rw [hnx]
  clear hnx
  dsimp only at HI2 HN2 HX2 HR2 HB2 HM2
  generalize (W1.alloc (.cells #[.int .i64 op, .int .i64 (xa : Int), .int .i64 (b : Int), .int .i64 im] 38)).alloc (.cells #[.int .u32 (c.r 0), .int .u32 (c.r 1), .int .u32 (c.r 2), .int .u32 (c.r 3), .int .u32 (c.r 4), .int .u32 (c.r 5), .int .u32 (c.r 6), .int .u32 (c.r 7), .complex .f64 (c.z 0).1 (c.z 0).2, .complex .f64 (c.z 1).1 (c.z 1).2, .int .u32 (nextP c)] 28) = W2 at *
  obtain ⟨gn, hgn⟩ : ∃ gn, W1.heap.size + 1 = gn := ⟨_, rfl⟩
  rw [hgn] at HN2 ⊢
  have HGN := Lib.hid hgn
  clear hgn
  generalize W1.heap.size = gi at *
  have i3 := (ccells HI2.out).2.2.2.1
  have ilt := (ccells HI2.out).2.2.2.2
  have n10 : W2.cell? ⟨gn, 10, none⟩ = some (.int .u32 (nextP c)) := cp_pc (show CpAt W2 gn (c.setPc (nextP c)) from HN2.out)
  have nlt := HN2.out.lt
  go_quiet ((go_at_call 32; exact Calls.quiet_of_same (HI.out _)))
  rw [show (nextP c + 4 * (im % 4294967296) % 4294967296) % 4294967296 = farP c im from rfl]
  have HI3 := Lib.hid (HI2.out.drewN nq)
  have HX3 := Lib.hid (show CpAt (W2.drewN nq) w.heap.size c from HX2.out.drewN nq)
  have HN3 := Lib.hid (show CpAt (W2.drewN nq) gn (c.setPc (nextP c)) from HN2.out.drewN nq)
  have HR3 := Lib.hid (HR2.out.drewN nq)
  have HM3 := Lib.hid (HM2.out.below (below_drewN (Below.refl _ W2) nq))
  have HB3 := Lib.hid (But.of_below (S := fun k => k = B) (below_drewN HB2.out nq))
  have HGX := Lib.hid (show gn ≠ w.heap.size ∧ gn ≠ w.heap.size + 1 ∧ gi ≠ gn ∧ w.heap.size ≤ gn ∧ (m ≠ [] → B < w.heap.size) from by
    have h1 := HG.out; have h2 := HGN.out
    exact ⟨by omega, by omega, by omega, by omega, HMM.out.lt⟩)
  clear i3 ilt n10 nlt HI2 HX2 HN2 HR2 HM2 HB2 HI hzm hzb
  generalize W2.drewN nq = W3 at *
  have i0 := (ccells HI3.out).1
  have ilt := (ccells HI3.out).2.2.2.2
  have q24 : (op == 24) = false := beq_eq_false_iff_ne.2 (by have := HOP.out; omega)
  have q15 : 15 ≤ op := HOP.out.1
  have q18 : op ≤ 18 := HOP.out.2
  go_upto_region 13 with (fail)
  clear q24 q15 q18
  have i1 := (ccells HI3.out).2.1
  have i2 := (ccells HI3.out).2.2.1
  have i3 := (ccells HI3.out).2.2.2.1
  have x0 := (cp_all HX3.out).1
  have x1 := (cp_all HX3.out).2.1
  have x2 := (cp_all HX3.out).2.2.1
  have x3 := (cp_all HX3.out).2.2.2.1
  have x4 := (cp_all HX3.out).2.2.2.2.1
  have x5 := (cp_all HX3.out).2.2.2.2.2.1
  have x6 := (cp_all HX3.out).2.2.2.2.2.2.1
  have x7 := (cp_all HX3.out).2.2.2.2.2.2.2.1
  have x8 := (cp_all HX3.out).2.2.2.2.2.2.2.2.1
  have x9 := (cp_all HX3.out).2.2.2.2.2.2.2.2.2.1
  have x10 := (cp_all HX3.out).2.2.2.2.2.2.2.2.2.2.1
  have xlt := (cp_all HX3.out).2.2.2.2.2.2.2.2.2.2.2
  go_wp2_with fail
  refine (HF.out _ HM3.out).mono ?_
  rintro e W4 ⟨rfl, hm4, hb4⟩
  have HR4 := Lib.hid (HR3.out.but hb4 (fun e : w.heap.size + 1 = B => by have := HGX.out.2.2.2.2 HNE.out; omega))
  have HM4 := Lib.hid hm4
  have HB4 := Lib.hid (HB3.out.trans hb4 (fun k hk => .inl hk))
  clear hm4 hb4 i0 i1 i2 i3 ilt x0 x1 x2 x3 x4 x5 x6 x7 x8 x9 x10 xlt HF HX3 HI3 HN3 HR3 HM3 HB3
  have r0 := (row11 HR4.out).1
  have r1 := (row11 HR4.out).2.1
  have r2 := (row11 HR4.out).2.2.1
  have r3 := (row11 HR4.out).2.2.2.1
  have r4 := (row11 HR4.out).2.2.2.2.1
  have r5 := (row11 HR4.out).2.2.2.2.2.1
  have r6 := (row11 HR4.out).2.2.2.2.2.2.1
  have r7 := (row11 HR4.out).2.2.2.2.2.2.2.1
  have r8 := (row11 HR4.out).2.2.2.2.2.2.2.2.1
  have r9 := (row11 HR4.out).2.2.2.2.2.2.2.2.2.1
  have r10 := (row11 HR4.out).2.2.2.2.2.2.2.2.2.2.1
  have rlt := (row11 HR4.out).2.2.2.2.2.2.2.2.2.2.2
  have rf0 := (HR4.out).frozen 0
  have rf1 := (HR4.out).frozen 1
  have rf2 := (HR4.out).frozen 2
  have rf3 := (HR4.out).frozen 3
  have rf4 := (HR4.out).frozen 4
  have rf5 := (HR4.out).frozen 5
  have rf6 := (HR4.out).frozen 6
  have rf7 := (HR4.out).frozen 7
  have rf8 := (HR4.out).frozen 8
  have rf9 := (HR4.out).frozen 9
  have rf10 := (HR4.out).frozen 10
  go_wp2
  refine bodyPost_ret (results_row_tmp Tryd.results16 _ rfl (set11_blk HR4.out (.int .u32 (c2.r 0)) (.int .u32 (c2.r 1)) (.int .u32 (c2.r 2)) (.int .u32 (c2.r 3)) (.int .u32 (c2.r 4)) (.int .u32 (c2.r 5)) (.int .u32 (c2.r 6)) (.int .u32 (c2.r 7)) (.complex .f64 (c2.z 0).1 (c2.z 0).2) (.complex .f64 (c2.z 1).1 (c2.z 1).2) (.int .u32 c2.pc)) Tryd.underlying28 rfl (by kernel_rfl)) rfl ⟨rfl, ?_, ?_⟩
  · exact HM4.out.but (set11_but (S := fun k => k = w.heap.size + 1) (g := w.heap.size + 1) (But.refl _ W4) (.inl rfl) (.int .u32 (c2.r 0)) (.int .u32 (c2.r 1)) (.int .u32 (c2.r 2)) (.int .u32 (c2.r 3)) (.int .u32 (c2.r 4)) (.int .u32 (c2.r 5)) (.int .u32 (c2.r 6)) (.int .u32 (c2.r 7)) (.complex .f64 (c2.z 0).1 (c2.z 0).2) (.complex .f64 (c2.z 1).1 (c2.z 1).2) (.int .u32 c2.pc)) (fun e : B = w.heap.size + 1 => by have := HGX.out.2.2.2.2 HNE.out; omega)
  · exact set11_but HB4.out (.inr (by omega)) (.int .u32 (c2.r 0)) (.int .u32 (c2.r 1)) (.int .u32 (c2.r 2)) (.int .u32 (c2.r 3)) (.int .u32 (c2.r 4)) (.int .u32 (c2.r 5)) (.int .u32 (c2.r 6)) (.int .u32 (c2.r 7)) (.complex .f64 (c2.z 0).1 (c2.z 0).2) (.complex .f64 (c2.z 1).1 (c2.z 1).2) (.int .u32 c2.pc)
end Go.Proofs.YtoglmemmdolbmaaDoor

/-
  The law GaussRing, walked. No condition.
-/
import Derived.Test.YtodphfgopngpeaaDoorGau10
import Derived.Test.YtodphfgopngpeaaDoorRing1
namespace Go.Proofs.YtodphfgopngpeaaDoor
open Go.RowKit Go.Shelf
set_option linter.unusedVariables false
set_option linter.unusedSimpArgs false

theorem ring_xy_yx_1 (a b c d e f : Int) : (a) + (c) = (c) + (a) := by grind
theorem ring_xy_yx_2 (a b c d e f : Int) : (b) + (d) = (d) + (b) := by grind
theorem ring_xyz_x_yz_1 (a b c d e f : Int) : ((a) + (c)) + (e) = (a) + ((c) + (e)) := by grind
theorem ring_xyz_x_yz_2 (a b c d e f : Int) : ((b) + (d)) + (f) = (b) + ((d) + (f)) := by grind
theorem ring_mxy_myx_1 (a b c d e f : Int) : (a) * (c) - (b) * (d) = (c) * (a) - (d) * (b) := by grind
theorem ring_mxy_myx_2 (a b c d e f : Int) : (a) * (d) + (b) * (c) = (c) * (b) + (d) * (a) := by grind
theorem ring_mxyz_mx_yz_1 (a b c d e f : Int) : ((a) * (c) - (b) * (d)) * (e) - ((a) * (d) + (b) * (c)) * (f) = (a) * ((c) * (e) - (d) * (f)) - (b) * ((c) * (f) + (d) * (e)) := by grind
theorem ring_mxyz_mx_yz_2 (a b c d e f : Int) : ((a) * (c) - (b) * (d)) * (f) + ((a) * (d) + (b) * (c)) * (e) = (a) * ((c) * (f) + (d) * (e)) + (b) * ((c) * (e) - (d) * (f)) := by grind
theorem ring_mxs_amm_1 (a b c d e f : Int) : (a) * ((c) + (e)) - (b) * ((d) + (f)) = ((a) * (c) - (b) * (d)) + ((a) * (e) - (b) * (f)) := by grind
theorem ring_mxs_amm_2 (a b c d e f : Int) : (a) * ((d) + (f)) + (b) * ((c) + (e)) = ((a) * (d) + (b) * (c)) + ((a) * (f) + (b) * (e)) := by grind
theorem ring_cm_mcc_1 (a b c d e f : Int) : ((a) * (c) - (b) * (d)) = ((a)) * ((c)) - (-(b)) * (-(d)) := by grind
theorem ring_cm_mcc_2 (a b c d e f : Int) : -((a) * (d) + (b) * (c)) = ((a)) * (-(d)) + (-(b)) * ((c)) := by grind
theorem ring_ca_acc_1 (a b c d e f : Int) : ((a) + (c)) = ((a)) + ((c)) := by grind
theorem ring_ca_acc_2 (a b c d e f : Int) : -((b) + (d)) = (-(b)) + (-(d)) := by grind
theorem ring_ccx_x_1 (a b c d e f : Int) : ((a)) = a := by grind
theorem ring_ccx_x_2 (a b c d e f : Int) : -(-(b)) = b := by grind
theorem ring_mx1_x_1 (a b c d e f : Int) : (a) * (1) - (b) * (0) = a := by grind
theorem ring_mx1_x_2 (a b c d e f : Int) : (a) * (0) + (b) * (1) = b := by grind
theorem ring_ax0_x_1 (a b c d e f : Int) : (a) + (0) = a := by grind
theorem ring_ax0_x_2 (a b c d e f : Int) : (b) + (0) = b := by grind

attribute [local irreducible] floatOfInt wz

theorem addMk2 {w : World} (p q r s : Int) : Calls Tryd.prog 10 #[mk p q, mk r s] w fun e w' => e = .returned (mk (p + r) (q + s)) ∧ Below w.heap.size w w' := by
  have h := addMk (w := w) p q r s
  rw [mk_same (p := wz p + wz r) (q := wz q + wz s) (r := p + r) (s := q + s) (by rw [wz_add, wz_add']) (by rw [wz_add, wz_add'])] at h
  exact h
theorem mulMk2 {w : World} (p q r s : Int) : Calls Tryd.prog 11 #[mk p q, mk r s] w fun e w' => e = .returned (mk (p * r - q * s) (p * s + q * r)) ∧ Below w.heap.size w w' := by
  have h := mulMk (w := w) p q r s
  have hm : ∀ x y : Int, wz (wz x * wz y) = wz (x * y) := fun x y => by rw [wz_mulL, wz_mulR]
  rw [mk_same (p := wz p * wz r - wz q * wz s) (q := wz p * wz s + wz q * wz r) (r := p * r - q * s) (s := p * s + q * r) (wz_lin' (hm _ _) (hm _ _)) (wz_lin (hm _ _) (hm _ _))] at h
  exact h
theorem conjMk2 {w : World} (p q : Int) : Calls Tryd.prog 12 #[mk p q] w fun e w' => e = .returned (mk p (-q)) ∧ Below w.heap.size w w' := by
  have h := conjMk (w := w) p q
  rw [mk_same (p := wz p) (q := -wz q) (r := p) (s := -q) (wz_wz _) (wz_neg _)] at h
  exact h
theorem mk_eq2 {p q r s : Int} (h1 : p = r) (h2 : q = s) (w : World) : (binOp .eql 23 (mk p q) (mk r s)).run Tryd.prog w = .ok (.bool true) w := by
  subst h1 h2
  exact mk_eql p q w
theorem mk_guard2 (p q r s : Int) (x y : Operand) (w : World) : (eqGuard .eql 23 x y (mk p q) (mk r s)).run Tryd.prog w = .ok () w := by
  unfold mk
  simp [eqGuard, go_sem]

set_option maxRecDepth 100000 in
set_option maxHeartbeats 8000000 in
theorem ringWalk {w : World} (a b c d e f N0 R : Int) (v_x v_y v_z v_xy v_yx v_xyz v_yz v_x_yz v_mxy v_myx v_mxyz v_myz v_mx_yz v_mxs v_mxz v_amm v_cm v_cx v_cy v_mcc v_ca v_acc v_ccx v_mxc v_one v_mx1 v_nul v_ax0 v_N : Value) (cN : wrap64 N0 = N0) (hN0 : 0 ≤ N0) (hN1 : N0 ≤ 549755813888)
    (HAL : Hid (∀ W, Calls Tryd.prog 8 #[] W fun e w' => e = .returned (.bool true) ∧ Below W.heap.size W w'))
    (HX : Hid (∀ W, Calls Tryd.prog 9 #[.int .i64 a, .int .i64 b] W fun e w' => e = .returned v_x ∧ W = w'))
    (HY : Hid (∀ W, Calls Tryd.prog 9 #[.int .i64 c, .int .i64 d] W fun e w' => e = .returned v_y ∧ W = w'))
    (HZ : Hid (∀ W, Calls Tryd.prog 9 #[.int .i64 e, .int .i64 f] W fun e w' => e = .returned v_z ∧ W = w'))
    (HO : Hid (∀ W, Calls Tryd.prog 9 #[.int .i64 1, .int .i64 0] W fun e w' => e = .returned v_one ∧ W = w'))
    (HZ0 : Hid (∀ W, Calls Tryd.prog 9 #[.int .i64 0, .int .i64 0] W fun e w' => e = .returned v_nul ∧ W = w'))
    (HN : Hid (∀ W, Calls Tryd.prog 9 #[.int .i64 N0, .int .i64 0] W fun e w' => e = .returned v_N ∧ W = w'))
    (HNo : Hid (∀ W, Calls Tryd.prog 14 #[v_x] W fun e w' => e = .returned (.int .u64 N0) ∧ Below W.heap.size W w'))
    (HP1 : Hid (∀ W, Calls Tryd.prog 13 #[v_mxc] W fun e w' => e = .returned (.tuple #[.int .i64 R, .int .i64 0]) ∧ Below W.heap.size W w'))
    (HP2 : Hid (∀ W, Calls Tryd.prog 13 #[v_N] W fun e w' => e = .returned (.tuple #[.int .i64 R, .int .i64 0]) ∧ Below W.heap.size W w'))
    (K1 : Hid (∀ W, Calls Tryd.prog 10 #[v_x, v_y] W fun e w' => e = .returned v_xy ∧ Below W.heap.size W w'))
    (K2 : Hid (∀ W, Calls Tryd.prog 10 #[v_y, v_x] W fun e w' => e = .returned v_yx ∧ Below W.heap.size W w'))
    (K3 : Hid (∀ W, Calls Tryd.prog 10 #[v_xy, v_z] W fun e w' => e = .returned v_xyz ∧ Below W.heap.size W w'))
    (K4 : Hid (∀ W, Calls Tryd.prog 10 #[v_y, v_z] W fun e w' => e = .returned v_yz ∧ Below W.heap.size W w'))
    (K5 : Hid (∀ W, Calls Tryd.prog 10 #[v_x, v_yz] W fun e w' => e = .returned v_x_yz ∧ Below W.heap.size W w'))
    (K6 : Hid (∀ W, Calls Tryd.prog 11 #[v_x, v_y] W fun e w' => e = .returned v_mxy ∧ Below W.heap.size W w'))
    (K7 : Hid (∀ W, Calls Tryd.prog 11 #[v_y, v_x] W fun e w' => e = .returned v_myx ∧ Below W.heap.size W w'))
    (K8 : Hid (∀ W, Calls Tryd.prog 11 #[v_mxy, v_z] W fun e w' => e = .returned v_mxyz ∧ Below W.heap.size W w'))
    (K9 : Hid (∀ W, Calls Tryd.prog 11 #[v_y, v_z] W fun e w' => e = .returned v_myz ∧ Below W.heap.size W w'))
    (K10 : Hid (∀ W, Calls Tryd.prog 11 #[v_x, v_myz] W fun e w' => e = .returned v_mx_yz ∧ Below W.heap.size W w'))
    (K11 : Hid (∀ W, Calls Tryd.prog 11 #[v_x, v_yz] W fun e w' => e = .returned v_mxs ∧ Below W.heap.size W w'))
    (K12 : Hid (∀ W, Calls Tryd.prog 11 #[v_x, v_z] W fun e w' => e = .returned v_mxz ∧ Below W.heap.size W w'))
    (K13 : Hid (∀ W, Calls Tryd.prog 10 #[v_mxy, v_mxz] W fun e w' => e = .returned v_amm ∧ Below W.heap.size W w'))
    (K14 : Hid (∀ W, Calls Tryd.prog 12 #[v_mxy] W fun e w' => e = .returned v_cm ∧ Below W.heap.size W w'))
    (K15 : Hid (∀ W, Calls Tryd.prog 12 #[v_x] W fun e w' => e = .returned v_cx ∧ Below W.heap.size W w'))
    (K16 : Hid (∀ W, Calls Tryd.prog 12 #[v_y] W fun e w' => e = .returned v_cy ∧ Below W.heap.size W w'))
    (K17 : Hid (∀ W, Calls Tryd.prog 11 #[v_cx, v_cy] W fun e w' => e = .returned v_mcc ∧ Below W.heap.size W w'))
    (K18 : Hid (∀ W, Calls Tryd.prog 12 #[v_xy] W fun e w' => e = .returned v_ca ∧ Below W.heap.size W w'))
    (K19 : Hid (∀ W, Calls Tryd.prog 10 #[v_cx, v_cy] W fun e w' => e = .returned v_acc ∧ Below W.heap.size W w'))
    (K20 : Hid (∀ W, Calls Tryd.prog 12 #[v_cx] W fun e w' => e = .returned v_ccx ∧ Below W.heap.size W w'))
    (K21 : Hid (∀ W, Calls Tryd.prog 11 #[v_x, v_cx] W fun e w' => e = .returned v_mxc ∧ Below W.heap.size W w'))
    (K22 : Hid (∀ W, Calls Tryd.prog 11 #[v_x, v_one] W fun e w' => e = .returned v_mx1 ∧ Below W.heap.size W w'))
    (K23 : Hid (∀ W, Calls Tryd.prog 10 #[v_x, v_nul] W fun e w' => e = .returned v_ax0 ∧ Below W.heap.size W w'))
    (q0 : ∀ w : World, (binOp .eql 23 v_xy v_yx).run Tryd.prog w = .ok (.bool true) w)
    (g0 : ∀ (x y : Operand) (w : World), (eqGuard .eql 23 x y v_xy v_yx).run Tryd.prog w = .ok () w)
    (q1 : ∀ w : World, (binOp .eql 23 v_xyz v_x_yz).run Tryd.prog w = .ok (.bool true) w)
    (g1 : ∀ (x y : Operand) (w : World), (eqGuard .eql 23 x y v_xyz v_x_yz).run Tryd.prog w = .ok () w)
    (q2 : ∀ w : World, (binOp .eql 23 v_mxy v_myx).run Tryd.prog w = .ok (.bool true) w)
    (g2 : ∀ (x y : Operand) (w : World), (eqGuard .eql 23 x y v_mxy v_myx).run Tryd.prog w = .ok () w)
    (q3 : ∀ w : World, (binOp .eql 23 v_mxyz v_mx_yz).run Tryd.prog w = .ok (.bool true) w)
    (g3 : ∀ (x y : Operand) (w : World), (eqGuard .eql 23 x y v_mxyz v_mx_yz).run Tryd.prog w = .ok () w)
    (q4 : ∀ w : World, (binOp .eql 23 v_mxs v_amm).run Tryd.prog w = .ok (.bool true) w)
    (g4 : ∀ (x y : Operand) (w : World), (eqGuard .eql 23 x y v_mxs v_amm).run Tryd.prog w = .ok () w)
    (q5 : ∀ w : World, (binOp .eql 23 v_cm v_mcc).run Tryd.prog w = .ok (.bool true) w)
    (g5 : ∀ (x y : Operand) (w : World), (eqGuard .eql 23 x y v_cm v_mcc).run Tryd.prog w = .ok () w)
    (q6 : ∀ w : World, (binOp .eql 23 v_ca v_acc).run Tryd.prog w = .ok (.bool true) w)
    (g6 : ∀ (x y : Operand) (w : World), (eqGuard .eql 23 x y v_ca v_acc).run Tryd.prog w = .ok () w)
    (q7 : ∀ w : World, (binOp .eql 23 v_ccx v_x).run Tryd.prog w = .ok (.bool true) w)
    (g7 : ∀ (x y : Operand) (w : World), (eqGuard .eql 23 x y v_ccx v_x).run Tryd.prog w = .ok () w)
    (q8 : ∀ w : World, (binOp .eql 23 v_mx1 v_x).run Tryd.prog w = .ok (.bool true) w)
    (g8 : ∀ (x y : Operand) (w : World), (eqGuard .eql 23 x y v_mx1 v_x).run Tryd.prog w = .ok () w)
    (q9 : ∀ w : World, (binOp .eql 23 v_ax0 v_x).run Tryd.prog w = .ok (.bool true) w)
    (g9 : ∀ (x y : Operand) (w : World), (eqGuard .eql 23 x y v_ax0 v_x).run Tryd.prog w = .ok () w) :
    Calls Tryd.prog 3 #[.int .i64 a, .int .i64 b, .int .i64 c, .int .i64 d, .int .i64 e, .int .i64 f] w fun e w' => e = .returned (.bool true) ∧ Below w.heap.size w w' := by
  go_enter Tryd.func3, Tryd.ntmps3
  go_wp2_with fail
  refine (HAL.out _).mono ?_
  rintro e1 w1 ⟨rfl, hb1⟩
  have HB1 := Lib.hid hb1
  clear hb1
  go_wp2_with fail
  refine (HX.out _).mono ?_
  rintro e1 w' ⟨rfl, rfl⟩
  go_wp2_with fail
  refine (HY.out _).mono ?_
  rintro e1 w' ⟨rfl, rfl⟩
  go_wp2_with fail
  refine (HZ.out _).mono ?_
  rintro e1 w' ⟨rfl, rfl⟩
  go_wp2_with fail
  refine (K1.out _).mono ?_
  rintro e1 w2 ⟨rfl, hb2⟩
  have HB2 := Lib.hid (HB1.out.trans (hb2.mono HB1.out.size))
  clear hb2 HB1
  go_wp2_with fail
  refine (K2.out _).mono ?_
  rintro e1 w3 ⟨rfl, hb3⟩
  have HB3 := Lib.hid (HB2.out.trans (hb3.mono HB2.out.size))
  clear hb3 HB2
  go_wp2_with fail
  refine (K1.out _).mono ?_
  rintro e1 w4 ⟨rfl, hb4⟩
  have HB4 := Lib.hid (HB3.out.trans (hb4.mono HB3.out.size))
  clear hb4 HB3
  go_wp2_with fail
  refine (K3.out _).mono ?_
  rintro e1 w5 ⟨rfl, hb5⟩
  have HB5 := Lib.hid (HB4.out.trans (hb5.mono HB4.out.size))
  clear hb5 HB4
  go_wp2_with fail
  refine (K4.out _).mono ?_
  rintro e1 w6 ⟨rfl, hb6⟩
  have HB6 := Lib.hid (HB5.out.trans (hb6.mono HB5.out.size))
  clear hb6 HB5
  go_wp2_with fail
  refine (K5.out _).mono ?_
  rintro e1 w7 ⟨rfl, hb7⟩
  have HB7 := Lib.hid (HB6.out.trans (hb7.mono HB6.out.size))
  clear hb7 HB6
  go_wp2_with fail
  refine (K6.out _).mono ?_
  rintro e1 w8 ⟨rfl, hb8⟩
  have HB8 := Lib.hid (HB7.out.trans (hb8.mono HB7.out.size))
  clear hb8 HB7
  go_wp2_with fail
  refine (K7.out _).mono ?_
  rintro e1 w9 ⟨rfl, hb9⟩
  have HB9 := Lib.hid (HB8.out.trans (hb9.mono HB8.out.size))
  clear hb9 HB8
  go_wp2_with fail
  refine (K6.out _).mono ?_
  rintro e1 w10 ⟨rfl, hb10⟩
  have HB10 := Lib.hid (HB9.out.trans (hb10.mono HB9.out.size))
  clear hb10 HB9
  go_wp2_with fail
  refine (K8.out _).mono ?_
  rintro e1 w11 ⟨rfl, hb11⟩
  have HB11 := Lib.hid (HB10.out.trans (hb11.mono HB10.out.size))
  clear hb11 HB10
  go_wp2_with fail
  refine (K9.out _).mono ?_
  rintro e1 w12 ⟨rfl, hb12⟩
  have HB12 := Lib.hid (HB11.out.trans (hb12.mono HB11.out.size))
  clear hb12 HB11
  go_wp2_with fail
  refine (K10.out _).mono ?_
  rintro e1 w13 ⟨rfl, hb13⟩
  have HB13 := Lib.hid (HB12.out.trans (hb13.mono HB12.out.size))
  clear hb13 HB12
  go_wp2_with fail
  refine (K4.out _).mono ?_
  rintro e1 w14 ⟨rfl, hb14⟩
  have HB14 := Lib.hid (HB13.out.trans (hb14.mono HB13.out.size))
  clear hb14 HB13
  go_wp2_with fail
  refine (K11.out _).mono ?_
  rintro e1 w15 ⟨rfl, hb15⟩
  have HB15 := Lib.hid (HB14.out.trans (hb15.mono HB14.out.size))
  clear hb15 HB14
  go_wp2_with fail
  refine (K6.out _).mono ?_
  rintro e1 w16 ⟨rfl, hb16⟩
  have HB16 := Lib.hid (HB15.out.trans (hb16.mono HB15.out.size))
  clear hb16 HB15
  go_wp2_with fail
  refine (K12.out _).mono ?_
  rintro e1 w17 ⟨rfl, hb17⟩
  have HB17 := Lib.hid (HB16.out.trans (hb17.mono HB16.out.size))
  clear hb17 HB16
  go_wp2_with fail
  refine (K13.out _).mono ?_
  rintro e1 w18 ⟨rfl, hb18⟩
  have HB18 := Lib.hid (HB17.out.trans (hb18.mono HB17.out.size))
  clear hb18 HB17
  go_wp2_with fail
  refine (K6.out _).mono ?_
  rintro e1 w19 ⟨rfl, hb19⟩
  have HB19 := Lib.hid (HB18.out.trans (hb19.mono HB18.out.size))
  clear hb19 HB18
  go_wp2_with fail
  refine (K14.out _).mono ?_
  rintro e1 w20 ⟨rfl, hb20⟩
  have HB20 := Lib.hid (HB19.out.trans (hb20.mono HB19.out.size))
  clear hb20 HB19
  go_wp2_with fail
  refine (K15.out _).mono ?_
  rintro e1 w21 ⟨rfl, hb21⟩
  have HB21 := Lib.hid (HB20.out.trans (hb21.mono HB20.out.size))
  clear hb21 HB20
  go_wp2_with fail
  refine (K16.out _).mono ?_
  rintro e1 w22 ⟨rfl, hb22⟩
  have HB22 := Lib.hid (HB21.out.trans (hb22.mono HB21.out.size))
  clear hb22 HB21
  go_wp2_with fail
  refine (K17.out _).mono ?_
  rintro e1 w23 ⟨rfl, hb23⟩
  have HB23 := Lib.hid (HB22.out.trans (hb23.mono HB22.out.size))
  clear hb23 HB22
  go_wp2_with fail
  refine (K1.out _).mono ?_
  rintro e1 w24 ⟨rfl, hb24⟩
  have HB24 := Lib.hid (HB23.out.trans (hb24.mono HB23.out.size))
  clear hb24 HB23
  go_wp2_with fail
  refine (K18.out _).mono ?_
  rintro e1 w25 ⟨rfl, hb25⟩
  have HB25 := Lib.hid (HB24.out.trans (hb25.mono HB24.out.size))
  clear hb25 HB24
  go_wp2_with fail
  refine (K15.out _).mono ?_
  rintro e1 w26 ⟨rfl, hb26⟩
  have HB26 := Lib.hid (HB25.out.trans (hb26.mono HB25.out.size))
  clear hb26 HB25
  go_wp2_with fail
  refine (K16.out _).mono ?_
  rintro e1 w27 ⟨rfl, hb27⟩
  have HB27 := Lib.hid (HB26.out.trans (hb27.mono HB26.out.size))
  clear hb27 HB26
  go_wp2_with fail
  refine (K19.out _).mono ?_
  rintro e1 w28 ⟨rfl, hb28⟩
  have HB28 := Lib.hid (HB27.out.trans (hb28.mono HB27.out.size))
  clear hb28 HB27
  go_wp2_with fail
  refine (K15.out _).mono ?_
  rintro e1 w29 ⟨rfl, hb29⟩
  have HB29 := Lib.hid (HB28.out.trans (hb29.mono HB28.out.size))
  clear hb29 HB28
  go_wp2_with fail
  refine (K20.out _).mono ?_
  rintro e1 w30 ⟨rfl, hb30⟩
  have HB30 := Lib.hid (HB29.out.trans (hb30.mono HB29.out.size))
  clear hb30 HB29
  go_wp2_with fail
  refine (K15.out _).mono ?_
  rintro e1 w31 ⟨rfl, hb31⟩
  have HB31 := Lib.hid (HB30.out.trans (hb31.mono HB30.out.size))
  clear hb31 HB30
  go_wp2_with fail
  refine (K21.out _).mono ?_
  rintro e1 w32 ⟨rfl, hb32⟩
  have HB32 := Lib.hid (HB31.out.trans (hb32.mono HB31.out.size))
  clear hb32 HB31
  go_wp2_with fail
  refine (HP1.out _).mono ?_
  rintro e1 w33 ⟨rfl, hb33⟩
  have HB33 := Lib.hid (HB32.out.trans (hb33.mono HB32.out.size))
  clear hb33 HB32
  go_wp2_with fail
  refine (HNo.out _).mono ?_
  rintro e1 w34 ⟨rfl, hb34⟩
  have HB34 := Lib.hid (HB33.out.trans (hb34.mono HB33.out.size))
  clear hb34 HB33
  go_wp2_with fail
  refine (HN.out _).mono ?_
  rintro e1 w' ⟨rfl, rfl⟩
  go_wp2_with fail
  refine (HP2.out _).mono ?_
  rintro e1 w35 ⟨rfl, hb35⟩
  have HB35 := Lib.hid (HB34.out.trans (hb35.mono HB34.out.size))
  clear hb35 HB34
  go_wp2_with fail
  refine (HO.out _).mono ?_
  rintro e1 w' ⟨rfl, rfl⟩
  go_wp2_with fail
  refine (K22.out _).mono ?_
  rintro e1 w36 ⟨rfl, hb36⟩
  have HB36 := Lib.hid (HB35.out.trans (hb36.mono HB35.out.size))
  clear hb36 HB35
  go_wp2_with fail
  refine (HZ0.out _).mono ?_
  rintro e1 w' ⟨rfl, rfl⟩
  go_wp2_with fail
  refine (K23.out _).mono ?_
  rintro e1 w37 ⟨rfl, hb37⟩
  have HB37 := Lib.hid (HB36.out.trans (hb37.mono HB36.out.size))
  clear hb37 HB36
  go_wp2
  go_ret
  exact ⟨by first | rfl | simp, HB37.out⟩

theorem ringLaw_any {w : World} (a b c d e f : Int) : Calls Tryd.prog 3 #[.int .i64 a, .int .i64 b, .int .i64 c, .int .i64 d, .int .i64 e, .int .i64 f] w fun e w' => e = .returned (.bool true) ∧ Below w.heap.size w w' := by
  have hNr : 0 ≤ wz a * wz a + wz b * wz b ∧ wz a * wz a + wz b * wz b ≤ 549755813888 := by
    have h1 := mul_bound (wz_range a) (wz_range a)
    have h2 := mul_bound (wz_range b) (wz_range b)
    have h3 := sq0 (wz a)
    have h4 := sq0 (wz b)
    omega
  have hRm : wz ((a) * ((a)) - (b) * (-(b))) = wz (wz a * wz a + wz b * wz b) := by
    have hm : ∀ x : Int, wz (wz x * wz x) = wz (x * x) := fun x => by rw [wz_mulL, wz_mulR]
    rw [wz_lin (hm a) (hm b)]
    congr 1
    grind
  have hz0 : wz 0 = 0 := by unfold wz; rfl
  have hIm : wz ((a) * (-(b)) + (b) * ((a))) = 0 := by
    rw [show (a) * (-(b)) + (b) * ((a)) = 0 by grind]
    exact hz0
  have HP1 := fun W => partsMk (w := W) ((a) * ((a)) - (b) * (-(b))) ((a) * (-(b)) + (b) * ((a)))
  rw [hRm, hIm] at HP1
  have HP2 := fun W => partsMk (w := W) (wz a * wz a + wz b * wz b) 0
  rw [hz0] at HP2
  exact ringWalk a b c d e f (wz a * wz a + wz b * wz b) (wz (wz a * wz a + wz b * wz b)) (mk (a) (b)) (mk (c) (d)) (mk (e) (f)) (mk ((a) + (c)) ((b) + (d))) (mk ((c) + (a)) ((d) + (b))) (mk (((a) + (c)) + (e)) (((b) + (d)) + (f))) (mk ((c) + (e)) ((d) + (f))) (mk ((a) + ((c) + (e))) ((b) + ((d) + (f)))) (mk ((a) * (c) - (b) * (d)) ((a) * (d) + (b) * (c))) (mk ((c) * (a) - (d) * (b)) ((c) * (b) + (d) * (a))) (mk (((a) * (c) - (b) * (d)) * (e) - ((a) * (d) + (b) * (c)) * (f)) (((a) * (c) - (b) * (d)) * (f) + ((a) * (d) + (b) * (c)) * (e))) (mk ((c) * (e) - (d) * (f)) ((c) * (f) + (d) * (e))) (mk ((a) * ((c) * (e) - (d) * (f)) - (b) * ((c) * (f) + (d) * (e))) ((a) * ((c) * (f) + (d) * (e)) + (b) * ((c) * (e) - (d) * (f)))) (mk ((a) * ((c) + (e)) - (b) * ((d) + (f))) ((a) * ((d) + (f)) + (b) * ((c) + (e)))) (mk ((a) * (e) - (b) * (f)) ((a) * (f) + (b) * (e))) (mk (((a) * (c) - (b) * (d)) + ((a) * (e) - (b) * (f))) (((a) * (d) + (b) * (c)) + ((a) * (f) + (b) * (e)))) (mk (((a) * (c) - (b) * (d))) (-((a) * (d) + (b) * (c)))) (mk ((a)) (-(b))) (mk ((c)) (-(d))) (mk (((a)) * ((c)) - (-(b)) * (-(d))) (((a)) * (-(d)) + (-(b)) * ((c)))) (mk (((a) + (c))) (-((b) + (d)))) (mk (((a)) + ((c))) ((-(b)) + (-(d)))) (mk (((a))) (-(-(b)))) (mk ((a) * ((a)) - (b) * (-(b))) ((a) * (-(b)) + (b) * ((a)))) (mk (1) (0)) (mk ((a) * (1) - (b) * (0)) ((a) * (0) + (b) * (1))) (mk (0) (0)) (mk ((a) + (0)) ((b) + (0))) (mk (wz a * wz a + wz b * wz b) 0) (IntWalk.wrap64_in _ (by omega)) hNr.1 hNr.2
    (Lib.hid (fun W => alive_any (w := W)))
    (Lib.hid (fun W => gMake_any (w := W) a b))
    (Lib.hid (fun W => gMake_any (w := W) c d))
    (Lib.hid (fun W => gMake_any (w := W) e f))
    (Lib.hid (fun W => gMake_any (w := W) 1 0))
    (Lib.hid (fun W => gMake_any (w := W) 0 0))
    (Lib.hid (fun W => gMake_any (w := W) (wz a * wz a + wz b * wz b) 0))
    (Lib.hid (fun W => normMk (w := W) a b))
    (Lib.hid HP1)
    (Lib.hid HP2)
    (Lib.hid (fun W => addMk2 (w := W) (a) (b) (c) (d)))
    (Lib.hid (fun W => addMk2 (w := W) (c) (d) (a) (b)))
    (Lib.hid (fun W => addMk2 (w := W) ((a) + (c)) ((b) + (d)) (e) (f)))
    (Lib.hid (fun W => addMk2 (w := W) (c) (d) (e) (f)))
    (Lib.hid (fun W => addMk2 (w := W) (a) (b) ((c) + (e)) ((d) + (f))))
    (Lib.hid (fun W => mulMk2 (w := W) (a) (b) (c) (d)))
    (Lib.hid (fun W => mulMk2 (w := W) (c) (d) (a) (b)))
    (Lib.hid (fun W => mulMk2 (w := W) ((a) * (c) - (b) * (d)) ((a) * (d) + (b) * (c)) (e) (f)))
    (Lib.hid (fun W => mulMk2 (w := W) (c) (d) (e) (f)))
    (Lib.hid (fun W => mulMk2 (w := W) (a) (b) ((c) * (e) - (d) * (f)) ((c) * (f) + (d) * (e))))
    (Lib.hid (fun W => mulMk2 (w := W) (a) (b) ((c) + (e)) ((d) + (f))))
    (Lib.hid (fun W => mulMk2 (w := W) (a) (b) (e) (f)))
    (Lib.hid (fun W => addMk2 (w := W) ((a) * (c) - (b) * (d)) ((a) * (d) + (b) * (c)) ((a) * (e) - (b) * (f)) ((a) * (f) + (b) * (e))))
    (Lib.hid (fun W => conjMk2 (w := W) ((a) * (c) - (b) * (d)) ((a) * (d) + (b) * (c))))
    (Lib.hid (fun W => conjMk2 (w := W) (a) (b)))
    (Lib.hid (fun W => conjMk2 (w := W) (c) (d)))
    (Lib.hid (fun W => mulMk2 (w := W) ((a)) (-(b)) ((c)) (-(d))))
    (Lib.hid (fun W => conjMk2 (w := W) ((a) + (c)) ((b) + (d))))
    (Lib.hid (fun W => addMk2 (w := W) ((a)) (-(b)) ((c)) (-(d))))
    (Lib.hid (fun W => conjMk2 (w := W) ((a)) (-(b))))
    (Lib.hid (fun W => mulMk2 (w := W) (a) (b) ((a)) (-(b))))
    (Lib.hid (fun W => mulMk2 (w := W) (a) (b) (1) (0)))
    (Lib.hid (fun W => addMk2 (w := W) (a) (b) (0) (0)))
    (mk_eq2 (ring_xy_yx_1 a b c d e f) (ring_xy_yx_2 a b c d e f))
    (mk_guard2 _ _ _ _)
    (mk_eq2 (ring_xyz_x_yz_1 a b c d e f) (ring_xyz_x_yz_2 a b c d e f))
    (mk_guard2 _ _ _ _)
    (mk_eq2 (ring_mxy_myx_1 a b c d e f) (ring_mxy_myx_2 a b c d e f))
    (mk_guard2 _ _ _ _)
    (mk_eq2 (ring_mxyz_mx_yz_1 a b c d e f) (ring_mxyz_mx_yz_2 a b c d e f))
    (mk_guard2 _ _ _ _)
    (mk_eq2 (ring_mxs_amm_1 a b c d e f) (ring_mxs_amm_2 a b c d e f))
    (mk_guard2 _ _ _ _)
    (mk_eq2 (ring_cm_mcc_1 a b c d e f) (ring_cm_mcc_2 a b c d e f))
    (mk_guard2 _ _ _ _)
    (mk_eq2 (ring_ca_acc_1 a b c d e f) (ring_ca_acc_2 a b c d e f))
    (mk_guard2 _ _ _ _)
    (mk_eq2 (ring_ccx_x_1 a b c d e f) (ring_ccx_x_2 a b c d e f))
    (mk_guard2 _ _ _ _)
    (mk_eq2 (ring_mx1_x_1 a b c d e f) (ring_mx1_x_2 a b c d e f))
    (mk_guard2 _ _ _ _)
    (mk_eq2 (ring_ax0_x_1 a b c d e f) (ring_ax0_x_2 a b c d e f))
    (mk_guard2 _ _ _ _)
end Go.Proofs.YtodphfgopngpeaaDoor

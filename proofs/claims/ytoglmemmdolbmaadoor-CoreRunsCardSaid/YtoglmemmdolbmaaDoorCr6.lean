/-
  The document's memory instructions, walked. Condition: the bytes lie in a block, registers are words.
-/
import Derived.Deep.LoopGhost
import Derived.Test.YtoglmemmdolbmaaDoorCr5
namespace Go.Proofs.YtoglmemmdolbmaaDoor
open Go.RowKit
set_option linter.unusedVariables false
set_option linter.unusedSimpArgs false
attribute [local go_sem] Oper.semAt_some
attribute [local go_sem] run_store_complex
attribute [local irreducible] floatOfInt wz

set_option maxRecDepth 100000 in
set_option maxHeartbeats 8000000 in
theorem rmem_far {w : World} {A : Option Addr} {B cap : Nat} {c : Cp} {m : List Int} (hM : ByIn w A B cap m) (hc : c.Ok) (op a b im : Int) (at' : Nat) (lg : Int) (wr : Bool) (ht : touchP c m = (at', lg, wr)) (hlg : lg = 1 ∨ lg = 4) (hat : at' < 4294967296) (hfar : (m.length : Int) < at' + lg) :
    Calls Tryd.prog 37 #[.agg #[.int .i64 op, .int .i64 a, .int .i64 b, .int .i64 im], .agg c.arr, .slice A m.length cap] w fun e w' => e = .returned (.tuple #[.agg c.arr, .int .i64 2]) ∧ Below w.heap.size w w' := by
  have hb0 := bl_new (bl_new (bl_new (Below.refl w.heap.size w) (.cells #[.int .i64 op, .int .i64 a, .int .i64 b, .int .i64 im] 38)) (.cells c.arr 28)) (.cells c0A 28)
  have hX := (Blk.new (w.alloc (.cells #[.int .i64 op, .int .i64 a, .int .i64 b, .int .i64 im] 38)) 28 c.arr).alloc (.cells c0A 28)
  have hR := Blk.new ((w.alloc (.cells #[.int .i64 op, .int .i64 a, .int .i64 b, .int .i64 im] 38)).alloc (.cells c.arr 28)) 28 c0A
  simp only [World.size_alloc] at hX hR
  have HX0 := Lib.hid hX
  have HR0 := Lib.hid hR
  obtain ⟨x0, x1, x2, x3, x4, x5, x6, x7, x8, x9, x10, xlt⟩ := cp_all hX
  have HT := Lib.hid (fun W (hW : Below w.heap.size w W) => show Calls Tryd.prog 14 #[.agg c.arr, .slice A m.length cap] W fun e w' => e = .returned (.tuple #[.int .u32 (at' : Int), .int .i64 lg, .bool wr]) ∧ Below W.heap.size W w' from by
    have h := refTouch_any (hM.below hW) hc
    rw [ht] at h
    exact h)
  have hlen := hM.len
  have HB0 := Lib.hid hb0
  have hat1 : (at' : Int) < 4294967296 := by omega
  have hgt : (m.length : Int) < (at' : Int) + lg := hfar
  have hl0 : 0 ≤ lg := by omega
  have hl1 : lg ≤ 4 := by omega
  have hlm : (m.length : Int) ≤ 1000000 := by omega
  clear hX hR hb0 hM ht hfar hlen hlg hat
  unfold c0A at *
  go_enter Tryd.func37, Tryd.ntmps37
  go_wp2_with fail
  refine (HT.out _ HB0.out).mono ?_
  rintro e W1 ⟨rfl, hb1⟩
  have HX1 := Lib.hid (HX0.out.below hb1 HX0.out.lt)
  have HR1 := Lib.hid (HR0.out.below hb1 HR0.out.lt)
  have HB1 := Lib.hid (bl_step HB0.out hb1)
  clear x0 x1 x2 x3 x4 x5 x6 x7 x8 x9 x10 xlt hb1 HX0 HR0 HB0 HT
  go_upto_region 3 with (fail)
  clear hat1 hgt hl0 hl1 hlm hc
  have x0 := (cp_all HX1.out).1
  have x1 := (cp_all HX1.out).2.1
  have x2 := (cp_all HX1.out).2.2.1
  have x3 := (cp_all HX1.out).2.2.2.1
  have x4 := (cp_all HX1.out).2.2.2.2.1
  have x5 := (cp_all HX1.out).2.2.2.2.2.1
  have x6 := (cp_all HX1.out).2.2.2.2.2.2.1
  have x7 := (cp_all HX1.out).2.2.2.2.2.2.2.1
  have x8 := (cp_all HX1.out).2.2.2.2.2.2.2.2.1
  have x9 := (cp_all HX1.out).2.2.2.2.2.2.2.2.2.1
  have x10 := (cp_all HX1.out).2.2.2.2.2.2.2.2.2.2.1
  have xlt := (cp_all HX1.out).2.2.2.2.2.2.2.2.2.2.2
  have r0 := (row11 HR1.out).1
  have r1 := (row11 HR1.out).2.1
  have r2 := (row11 HR1.out).2.2.1
  have r3 := (row11 HR1.out).2.2.2.1
  have r4 := (row11 HR1.out).2.2.2.2.1
  have r5 := (row11 HR1.out).2.2.2.2.2.1
  have r6 := (row11 HR1.out).2.2.2.2.2.2.1
  have r7 := (row11 HR1.out).2.2.2.2.2.2.2.1
  have r8 := (row11 HR1.out).2.2.2.2.2.2.2.2.1
  have r9 := (row11 HR1.out).2.2.2.2.2.2.2.2.2.1
  have r10 := (row11 HR1.out).2.2.2.2.2.2.2.2.2.2.1
  have rlt := (row11 HR1.out).2.2.2.2.2.2.2.2.2.2.2
  have rf0 := (HR1.out).frozen 0
  have rf1 := (HR1.out).frozen 1
  have rf2 := (HR1.out).frozen 2
  have rf3 := (HR1.out).frozen 3
  have rf4 := (HR1.out).frozen 4
  have rf5 := (HR1.out).frozen 5
  have rf6 := (HR1.out).frozen 6
  have rf7 := (HR1.out).frozen 7
  have rf8 := (HR1.out).frozen 8
  have rf9 := (HR1.out).frozen 9
  have rf10 := (HR1.out).frozen 10
  go_wp2
  refine bodyPost_ret (results_row_tmp Tryd.results37 _ rfl (set11_blk HR1.out (.int .u32 (c.r 0)) (.int .u32 (c.r 1)) (.int .u32 (c.r 2)) (.int .u32 (c.r 3)) (.int .u32 (c.r 4)) (.int .u32 (c.r 5)) (.int .u32 (c.r 6)) (.int .u32 (c.r 7)) (.complex .f64 (c.z 0).1 (c.z 0).2) (.complex .f64 (c.z 1).1 (c.z 1).2) (.int .u32 c.pc)) Tryd.underlying28 rfl (by kernel_rfl)) rfl ⟨rfl, ?_⟩
  repeat (refine Below.setCell ?_ (by show w.heap.size ≤ w.heap.size + 1 + 1; omega) _)
  exact HB1.out


theorem ByIn.set {w : World} {A : Option Addr} {B cap : Nat} {m : List Int} (h : ByIn w A B cap m) {a : Nat} (ha : a < m.length) {v : Int} (hv : 0 ≤ v ∧ v ≤ 255) : ByIn (w.setCell ⟨B, a, none⟩ (.int .u8 v)) A B cap (m.set a v) := by
  have hne : m ≠ [] := by rintro rfl; simp at ha
  obtain ⟨hA, cs, hb, hs, hc⟩ := h.row hne
  refine ⟨fun _ => ⟨hA, _, hb.set_ a _, by rw [List.length_set, Array.size_setIfInBounds]; exact hs, fun i x hx => ?_⟩, by rw [List.length_set]; exact h.cap, fun x hx => ?_, by rw [List.length_set]; exact h.len⟩
  · rw [List.getElem?_set] at hx
    rw [Array.getElem?_setIfInBounds]
    by_cases hai : a = i
    · subst hai
      rw [if_pos rfl, if_pos ha] at hx
      rw [if_pos rfl, if_pos (by omega)]
      injection hx with hx
      rw [hx]
    · rw [if_neg hai] at hx ⊢
      exact hc i x hx
  · rcases List.mem_or_eq_of_mem_set hx with hx | rfl
    · exact h.low x hx
    · exact hv
theorem ByIn.but {w w' : World} {A : Option Addr} {B cap : Nat} {m : List Int} {S : Nat → Prop} (h : ByIn w A B cap m) (hb : But S w w') (hS : ¬ S B) : ByIn w' A B cap m :=
  ⟨fun hne => by
    obtain ⟨hA, cs, hc, rest⟩ := h.row hne
    exact ⟨hA, cs, hc.but hb hS, rest⟩, h.cap, h.low, h.len⟩
theorem ByIn.drew {w : World} {A : Option Addr} {B cap : Nat} {m : List Int} (h : ByIn w A B cap m) : ByIn w.drew A B cap m := ⟨h.row, h.cap, h.low, h.len⟩
theorem ByIn.lt {w : World} {A : Option Addr} {B cap : Nat} {m : List Int} (h : ByIn w A B cap m) (hne : m ≠ []) : B < w.heap.size := by
  obtain ⟨_, cs, hc, _⟩ := h.row hne
  exact hc.lt
theorem ByIn.addr {w : World} {A : Option Addr} {B cap : Nat} {m : List Int} (h : ByIn w A B cap m) (hne : m ≠ []) : A = some ⟨B, 0, none⟩ := (h.row hne).1
/-- What a step of the document's leaves. -/
def OutR (w : World) (A : Option Addr) (B cap : Nat) (r : Cp × Int × List Int) (e : Ending) (w' : World) : Prop :=
  e = .returned (.tuple #[.agg r.1.arr, .int .i64 r.2.1]) ∧ ByIn w' A B cap r.2.2 ∧ But (fun k => k = B) w w'

set_option maxRecDepth 100000 in
set_option maxHeartbeats 8000000 in
theorem rmem_odd {w : World} {A : Option Addr} {B cap : Nat} {c : Cp} {m : List Int} (hM : ByIn w A B cap m) (hc : c.Ok) (op : Int) (a : Nat) (b : Nat) (im : Int) (at' : Nat) (wr : Bool) (ht : touchP c m = (at', 4, wr)) (hat : at' < 4294967296) (hin : at' + 4 ≤ m.length) (hodd : ¬ (at' : Int) % 4 = 0) :
    Calls Tryd.prog 37 #[.agg #[.int .i64 op, .int .i64 (a : Int), .int .i64 (b : Int), .int .i64 im], .agg c.arr, .slice A m.length cap] w fun e w' => e = .returned (.tuple #[.agg c.arr, .int .i64 2]) ∧ Below w.heap.size w w' := by
  have hb0 := bl_new (bl_new (bl_new (Below.refl w.heap.size w) (.cells #[.int .i64 op, .int .i64 (a : Int), .int .i64 (b : Int), .int .i64 im] 38)) (.cells c.arr 28)) (.cells c0A 28)
  have hJ := ((Blk.new w 38 #[.int .i64 op, .int .i64 (a : Int), .int .i64 (b : Int), .int .i64 im]).alloc (.cells c.arr 28)).alloc (.cells c0A 28)
  have hX := (Blk.new (w.alloc (.cells #[.int .i64 op, .int .i64 (a : Int), .int .i64 (b : Int), .int .i64 im] 38)) 28 c.arr).alloc (.cells c0A 28)
  have hR := Blk.new ((w.alloc (.cells #[.int .i64 op, .int .i64 (a : Int), .int .i64 (b : Int), .int .i64 im] 38)).alloc (.cells c.arr 28)) 28 c0A
  simp only [World.size_alloc] at hX hR
  have HX0 := Lib.hid hX
  have HR0 := Lib.hid hR
  have HJ0 := Lib.hid hJ
  have x0 := (cp_all hX).1
  have x1 := (cp_all hX).2.1
  have x2 := (cp_all hX).2.2.1
  have x3 := (cp_all hX).2.2.2.1
  have x4 := (cp_all hX).2.2.2.2.1
  have x5 := (cp_all hX).2.2.2.2.2.1
  have x6 := (cp_all hX).2.2.2.2.2.2.1
  have x7 := (cp_all hX).2.2.2.2.2.2.2.1
  have x8 := (cp_all hX).2.2.2.2.2.2.2.2.1
  have x9 := (cp_all hX).2.2.2.2.2.2.2.2.2.1
  have x10 := (cp_all hX).2.2.2.2.2.2.2.2.2.2.1
  have xlt := (cp_all hX).2.2.2.2.2.2.2.2.2.2.2
  have HT := Lib.hid (fun W (hW : Below w.heap.size w W) => show Calls Tryd.prog 14 #[.agg c.arr, .slice A m.length cap] W fun e w' => e = .returned (.tuple #[.int .u32 (at' : Int), .int .i64 4, .bool wr]) ∧ Below W.heap.size W w' from by
    have h := refTouch_any (hM.below hW) hc
    rw [ht] at h
    exact h)
  have hlen := hM.len
  have HB0 := Lib.hid hb0
  have HMM := Lib.hid hM
  have HCC := Lib.hid hc
  have hat1 : (at' : Int) < 4294967296 := by omega
  have hlm : (m.length : Int) ≤ 1000000 := by omega
  have hgt : ¬ (m.length : Int) < (at' : Int) + 4 := by omega
  have hob : ((at' : Int) % 4 != 0) = true := by simpa using hodd
  clear hX hR hJ hb0 hM ht hlen hat hodd hin hc
  unfold c0A at *
  go_enter Tryd.func37, Tryd.ntmps37
  go_wp2_with fail
  refine (HT.out _ HB0.out).mono ?_
  rintro e W1 ⟨rfl, hb1⟩
  have HX1 := Lib.hid (HX0.out.below hb1 HX0.out.lt)
  have HR1 := Lib.hid (HR0.out.below hb1 HR0.out.lt)
  have HJ1 := Lib.hid (HJ0.out.below hb1 HJ0.out.lt)
  have HB1 := Lib.hid (bl_step HB0.out hb1)
  have HS1 := Lib.hid HB1.out.size
  clear x0 x1 x2 x3 x4 x5 x6 x7 x8 x9 x10 xlt hb1 HX0 HR0 HJ0 HB0 HT
  go_upto_region 3 with (fail)
  clear hat1 hgt hlm
  have x0 := (cp_all HX1.out).1
  have x1 := (cp_all HX1.out).2.1
  have x2 := (cp_all HX1.out).2.2.1
  have x3 := (cp_all HX1.out).2.2.2.1
  have x4 := (cp_all HX1.out).2.2.2.2.1
  have x5 := (cp_all HX1.out).2.2.2.2.2.1
  have x6 := (cp_all HX1.out).2.2.2.2.2.2.1
  have x7 := (cp_all HX1.out).2.2.2.2.2.2.2.1
  have x8 := (cp_all HX1.out).2.2.2.2.2.2.2.2.1
  have x9 := (cp_all HX1.out).2.2.2.2.2.2.2.2.2.1
  have x10 := (cp_all HX1.out).2.2.2.2.2.2.2.2.2.2.1
  have xlt := (cp_all HX1.out).2.2.2.2.2.2.2.2.2.2.2
  have r0 := (row11 HR1.out).1
  have r1 := (row11 HR1.out).2.1
  have r2 := (row11 HR1.out).2.2.1
  have r3 := (row11 HR1.out).2.2.2.1
  have r4 := (row11 HR1.out).2.2.2.2.1
  have r5 := (row11 HR1.out).2.2.2.2.2.1
  have r6 := (row11 HR1.out).2.2.2.2.2.2.1
  have r7 := (row11 HR1.out).2.2.2.2.2.2.2.1
  have r8 := (row11 HR1.out).2.2.2.2.2.2.2.2.1
  have r9 := (row11 HR1.out).2.2.2.2.2.2.2.2.2.1
  have r10 := (row11 HR1.out).2.2.2.2.2.2.2.2.2.2.1
  have rlt := (row11 HR1.out).2.2.2.2.2.2.2.2.2.2.2
  have rf0 := (HR1.out).frozen 0
  have rf1 := (HR1.out).frozen 1
  have rf2 := (HR1.out).frozen 2
  have rf3 := (HR1.out).frozen 3
  have rf4 := (HR1.out).frozen 4
  have rf5 := (HR1.out).frozen 5
  have rf6 := (HR1.out).frozen 6
  have rf7 := (HR1.out).frozen 7
  have rf8 := (HR1.out).frozen 8
  have rf9 := (HR1.out).frozen 9
  have rf10 := (HR1.out).frozen 10
  go_wp2
  refine bodyPost_ret (results_row_tmp Tryd.results37 _ rfl (set11_blk HR1.out (.int .u32 (c.r 0)) (.int .u32 (c.r 1)) (.int .u32 (c.r 2)) (.int .u32 (c.r 3)) (.int .u32 (c.r 4)) (.int .u32 (c.r 5)) (.int .u32 (c.r 6)) (.int .u32 (c.r 7)) (.complex .f64 (c.z 0).1 (c.z 0).2) (.complex .f64 (c.z 1).1 (c.z 1).2) (.int .u32 c.pc)) Tryd.underlying28 rfl (by kernel_rfl)) rfl ⟨rfl, ?_⟩
  repeat (refine Below.setCell ?_ (by show w.heap.size ≤ w.heap.size + 1 + 1; omega) _)
  exact HB1.out

set_option maxRecDepth 100000 in
set_option maxHeartbeats 8000000 in
theorem rmem_lw {w : World} {A : Option Addr} {B cap : Nat} {c : Cp} {m : List Int} (hM : ByIn w A B cap m) (hc : c.Ok) (op : Int) (a : Nat) (b : Nat) (im : Int) (at' : Nat) (ht : touchP c m = (at', 4, false)) (hat : at' < 4294967296) (hop : op = 15) (ha : a < 8) (hin : at' + 4 ≤ m.length) (hal : (at' : Int) % 4 = 0) (v : Int) (hv : wordM m at' = some v) (c1 c2 : Cp) (hc1 : c.setR a v = c1) (hc2 : c1.setPc (nextP c) = c2) :
    Calls Tryd.prog 37 #[.agg #[.int .i64 op, .int .i64 (a : Int), .int .i64 (b : Int), .int .i64 im], .agg c.arr, .slice A m.length cap] w fun e w' => OutR w A B cap (c2, 0, m) e w' := by
  have hb0 := bl_new (bl_new (bl_new (Below.refl w.heap.size w) (.cells #[.int .i64 op, .int .i64 (a : Int), .int .i64 (b : Int), .int .i64 im] 38)) (.cells c.arr 28)) (.cells c0A 28)
  have hJ := ((Blk.new w 38 #[.int .i64 op, .int .i64 (a : Int), .int .i64 (b : Int), .int .i64 im]).alloc (.cells c.arr 28)).alloc (.cells c0A 28)
  have hX := (Blk.new (w.alloc (.cells #[.int .i64 op, .int .i64 (a : Int), .int .i64 (b : Int), .int .i64 im] 38)) 28 c.arr).alloc (.cells c0A 28)
  have hR := Blk.new ((w.alloc (.cells #[.int .i64 op, .int .i64 (a : Int), .int .i64 (b : Int), .int .i64 im] 38)).alloc (.cells c.arr 28)) 28 c0A
  simp only [World.size_alloc] at hX hR
  have HX0 := Lib.hid hX
  have HR0 := Lib.hid hR
  have HJ0 := Lib.hid hJ
  have x0 := (cp_all hX).1
  have x1 := (cp_all hX).2.1
  have x2 := (cp_all hX).2.2.1
  have x3 := (cp_all hX).2.2.2.1
  have x4 := (cp_all hX).2.2.2.2.1
  have x5 := (cp_all hX).2.2.2.2.2.1
  have x6 := (cp_all hX).2.2.2.2.2.2.1
  have x7 := (cp_all hX).2.2.2.2.2.2.2.1
  have x8 := (cp_all hX).2.2.2.2.2.2.2.2.1
  have x9 := (cp_all hX).2.2.2.2.2.2.2.2.2.1
  have x10 := (cp_all hX).2.2.2.2.2.2.2.2.2.2.1
  have xlt := (cp_all hX).2.2.2.2.2.2.2.2.2.2.2
  have HT := Lib.hid (fun W (hW : Below w.heap.size w W) => show Calls Tryd.prog 14 #[.agg c.arr, .slice A m.length cap] W fun e w' => e = .returned (.tuple #[.int .u32 (at' : Int), .int .i64 4, .bool false]) ∧ Below W.heap.size W w' from by
    have h := refTouch_any (hM.below hW) hc
    rw [ht] at h
    exact h)
  have hlen := hM.len
  have HB0 := Lib.hid hb0
  have HMM := Lib.hid hM
  have HCC := Lib.hid hc
  have hat1 : (at' : Int) < 4294967296 := by omega
  have hlm : (m.length : Int) ≤ 1000000 := by omega
  have hgt : ¬ (m.length : Int) < (at' : Int) + 4 := by omega
  have hob : ((at' : Int) % 4 != 0) = false := by simpa using hal
  have hzm : (at' : Int).tmod 4 = (at' : Int) % 4 := Int.tmod_eq_emod_of_nonneg (by omega)
  have hgd : decide ((m.length : Int) < (at' : Int) + 4) = false := decide_eq_false hgt
  have HWD := Lib.hid (fun W (hW : ByIn W A B cap m) => show Calls Tryd.prog 30 #[.slice A m.length cap, .int .u32 (at' : Int)] W fun e w' => e = .returned (.tuple #[.int .u32 v, .bool true]) ∧ w' = W from by
    have h := refWord7_any hW at' hat
    rw [hv] at h
    exact h)
  have HA := Lib.hid ha
  have HOP := Lib.hid hop
  have HC1 := Lib.hid hc1
  have HC2 := Lib.hid hc2
  have HLT := Lib.hid (hM.lt (by rintro rfl; simp at hin))
  clear hX hR hJ hb0 hM ht hlen hat hin hc hal hv ha hop hc1 hc2
  unfold c0A at *
  go_enter Tryd.func37, Tryd.ntmps37
  go_wp2_with fail
  refine (HT.out _ HB0.out).mono ?_
  rintro e W1 ⟨rfl, hb1⟩
  have HX1 := Lib.hid (HX0.out.below hb1 HX0.out.lt)
  have HR1 := Lib.hid (HR0.out.below hb1 HR0.out.lt)
  have HJ1 := Lib.hid (HJ0.out.below hb1 HJ0.out.lt)
  have HB1 := Lib.hid (bl_step HB0.out hb1)
  have HS1 := Lib.hid HB1.out.size
  clear x0 x1 x2 x3 x4 x5 x6 x7 x8 x9 x10 xlt hb1 HX0 HR0 HJ0 HB0 HT
  have hgn : W1.heap.size ≠ w.heap.size + 1 := by have := HS1.out; have := HR1.out.lt; omega
  have hgn2 : W1.heap.size ≠ w.heap.size + 1 + 1 := by have := HR1.out.lt; omega
  have hgn3 : W1.heap.size ≠ w.heap.size := by have := HR1.out.lt; omega
  have HGN := Lib.hid hgn
  have HGN2 := Lib.hid hgn2
  have HGN3 := Lib.hid hgn3
  clear hgn hgn2 hgn3
  go_upto_region 4 with (fail)
  have x0 := (cp_all HX1.out).1
  have x1 := (cp_all HX1.out).2.1
  have x2 := (cp_all HX1.out).2.2.1
  have x3 := (cp_all HX1.out).2.2.2.1
  have x4 := (cp_all HX1.out).2.2.2.2.1
  have x5 := (cp_all HX1.out).2.2.2.2.2.1
  have x6 := (cp_all HX1.out).2.2.2.2.2.2.1
  have x7 := (cp_all HX1.out).2.2.2.2.2.2.2.1
  have x8 := (cp_all HX1.out).2.2.2.2.2.2.2.2.1
  have x9 := (cp_all HX1.out).2.2.2.2.2.2.2.2.2.1
  have x10 := (cp_all HX1.out).2.2.2.2.2.2.2.2.2.2.1
  have xlt := (cp_all HX1.out).2.2.2.2.2.2.2.2.2.2.2
  go_upto_region 5 with (fail)
  clear x0 x1 x2 x3 x4 x5 x6 x7 x8 x9 x10
  have HN2 := Lib.hid (Blk.new W1 28 c.arr)
  have HBn := Lib.hid (bl_new (Below.refl W1.heap.size W1) (.cells c.arr 28))
  have HX2 := Lib.hid (HX1.out.below HBn.out HX1.out.lt)
  have HR2 := Lib.hid (HR1.out.below HBn.out HR1.out.lt)
  have HJ2 := Lib.hid (HJ1.out.below HBn.out HJ1.out.lt)
  have HB2 := Lib.hid (bl_step HB1.out HBn.out)
  have HM2 := Lib.hid (HMM.out.below HB2.out)
  clear xlt
  clear HBn HX1 HR1 HJ1 HB1
  unfold Cp.arr at HN2 HX2 HR2 HJ2 HB2 HM2
  generalize W1.alloc (.cells #[.int .u32 (c.r 0), .int .u32 (c.r 1), .int .u32 (c.r 2), .int .u32 (c.r 3), .int .u32 (c.r 4), .int .u32 (c.r 5), .int .u32 (c.r 6), .int .u32 (c.r 7), .complex .f64 (c.z 0).1 (c.z 0).2, .complex .f64 (c.z 1).1 (c.z 1).2, .int .u32 c.pc] 28) = W2 at *
  generalize W1.heap.size = gn at *
  have hra := cp_reg HX2.out HA.out
  have hai : (a : Int) < 8 := by have := HA.out; omega
  have i1 := (ccells HJ2.out).2.1
  have ilt := (ccells HJ2.out).2.2.2.2
  have xlt := HX2.out.lt
  go_upto_region 14 with (fail)
  have n1 := cp_reg HN2.out HA.out
  have nf := HN2.out.frozen a
  have nlt := HN2.out.lt
  go_region_with (go_at_call 30; refine (HWD.out _ HM2.out.drew).mono ?_; rintro e _ ⟨rfl, rfl⟩)
  all_goals
    have HN3 := Lib.hid (show CpAt (W2.setCell ⟨gn, a, none⟩ (.int .u32 v)).drew gn c1 from by
      have h := ((show CpAt W2 gn c from HN2.out).set_ a (.int .u32 v)).drew
      rw [arr_setR c HA.out v, HC1.out] at h
      exact h)
    have HX3 := Lib.hid (show CpAt (W2.setCell ⟨gn, a, none⟩ (.int .u32 v)).drew (w.heap.size + 1) c from (HX2.out.far (p := ⟨gn, a, none⟩) (fun e => HGN.out e.symm) _).drew)
    have HR3 := Lib.hid ((HR2.out.far (p := ⟨gn, a, none⟩) (fun e => HGN2.out e.symm) (.int .u32 v)).drew)
    have HM3 := Lib.hid ((HM2.out.but (But.setCell (S := fun k => k = gn) (But.refl _ W2) (p := ⟨gn, a, none⟩) (.inl rfl) (.int .u32 v)) (fun e : B = gn => by have := HLT.out; have := HS1.out; omega)).drew)
    have HB3 := Lib.hid (((But.of_below (S := fun k => k = B) HB2.out).setCell (p := ⟨gn, a, none⟩) (.inr HS1.out) (.int .u32 v)).drew)
    clear hra hai i1 ilt xlt n1 nf nlt HN2 HX2 HR2 HJ2 HM2 HB2
    generalize (W2.setCell ⟨gn, a, none⟩ (.int .u32 v)).drew = W3 at *
    have x10 := cp_pc HX3.out
    have xlt := HX3.out.lt
    have n10 := cp_pc HN3.out
    have nf10 := HN3.out.frozen 10
    have nlt := HN3.out.lt
    have hp0 := HCC.out.p0
    have hp1 := HCC.out.p1
    go_upto_region 16 with (fail)
    have HN4 := Lib.hid (show CpAt (W3.setCell ⟨gn, 10, none⟩ (.int .u32 ((c.pc + 4) % 4294967296))) gn c2 from by
      have h := HN3.out.set_ 10 (.int .u32 ((c.pc + 4) % 4294967296))
      rw [arr_setPc, show (c.pc + 4) % 4294967296 = nextP c from rfl, HC2.out] at h
      exact h)
    have HR4 := Lib.hid (HR3.out.far (p := ⟨gn, 10, none⟩) (fun e => HGN2.out e.symm) (.int .u32 ((c.pc + 4) % 4294967296)))
    have HM4 := Lib.hid (HM3.out.but (But.setCell (S := fun k => k = gn) (But.refl _ W3) (p := ⟨gn, 10, none⟩) (.inl rfl) (.int .u32 ((c.pc + 4) % 4294967296))) (fun e : B = gn => by have := HLT.out; have := HS1.out; omega))
    have HB4 := Lib.hid (HB3.out.setCell (p := ⟨gn, 10, none⟩) (.inr HS1.out) (.int .u32 ((c.pc + 4) % 4294967296)))
    clear x10 xlt n10 nf10 nlt hp0 hp1 HN3 HR3 HX3 HM3 HB3
    generalize W3.setCell ⟨gn, 10, none⟩ (.int .u32 ((c.pc + 4) % 4294967296)) = W4 at *
    have x0 := (cp_all HN4.out).1
    have x1 := (cp_all HN4.out).2.1
    have x2 := (cp_all HN4.out).2.2.1
    have x3 := (cp_all HN4.out).2.2.2.1
    have x4 := (cp_all HN4.out).2.2.2.2.1
    have x5 := (cp_all HN4.out).2.2.2.2.2.1
    have x6 := (cp_all HN4.out).2.2.2.2.2.2.1
    have x7 := (cp_all HN4.out).2.2.2.2.2.2.2.1
    have x8 := (cp_all HN4.out).2.2.2.2.2.2.2.2.1
    have x9 := (cp_all HN4.out).2.2.2.2.2.2.2.2.2.1
    have x10 := (cp_all HN4.out).2.2.2.2.2.2.2.2.2.2.1
    have xlt := (cp_all HN4.out).2.2.2.2.2.2.2.2.2.2.2
    have r0 := (row11 HR4.out).1
    have r1 := (row11 HR4.out).2.1
    have r2 := (row11 HR4.out).2.2.1
    have r3 := (row11 HR4.out).2.2.2.1
    have r4 := (row11 HR4.out).2.2.2.2.1
    have r5 := (row11 HR4.out).2.2.2.2.2.1
    have r6 := (row11 HR4.out).2.2.2.2.2.2.1
    have r7 := (row11 HR4.out).2.2.2.2.2.2.2.1
    have r8 := (row11 HR4.out).2.2.2.2.2.2.2.2.1
    have r9 := (row11 HR4.out).2.2.2.2.2.2.2.2.2.1
    have r10 := (row11 HR4.out).2.2.2.2.2.2.2.2.2.2.1
    have rlt := (row11 HR4.out).2.2.2.2.2.2.2.2.2.2.2
    have rf0 := (HR4.out).frozen 0
    have rf1 := (HR4.out).frozen 1
    have rf2 := (HR4.out).frozen 2
    have rf3 := (HR4.out).frozen 3
    have rf4 := (HR4.out).frozen 4
    have rf5 := (HR4.out).frozen 5
    have rf6 := (HR4.out).frozen 6
    have rf7 := (HR4.out).frozen 7
    have rf8 := (HR4.out).frozen 8
    have rf9 := (HR4.out).frozen 9
    have rf10 := (HR4.out).frozen 10
    go_wp2
    refine bodyPost_ret (results_row_tmp Tryd.results37 _ rfl (set11_blk HR4.out (.int .u32 (c2.r 0)) (.int .u32 (c2.r 1)) (.int .u32 (c2.r 2)) (.int .u32 (c2.r 3)) (.int .u32 (c2.r 4)) (.int .u32 (c2.r 5)) (.int .u32 (c2.r 6)) (.int .u32 (c2.r 7)) (.complex .f64 (c2.z 0).1 (c2.z 0).2) (.complex .f64 (c2.z 1).1 (c2.z 1).2) (.int .u32 c2.pc)) Tryd.underlying28 rfl (by kernel_rfl)) rfl ⟨rfl, ?_, ?_⟩
    · exact HM4.out.but (set11_but (S := fun k => k = w.heap.size + 1 + 1) (g := w.heap.size + 1 + 1) (But.refl _ W4) (.inl rfl) (.int .u32 (c2.r 0)) (.int .u32 (c2.r 1)) (.int .u32 (c2.r 2)) (.int .u32 (c2.r 3)) (.int .u32 (c2.r 4)) (.int .u32 (c2.r 5)) (.int .u32 (c2.r 6)) (.int .u32 (c2.r 7)) (.complex .f64 (c2.z 0).1 (c2.z 0).2) (.complex .f64 (c2.z 1).1 (c2.z 1).2) (.int .u32 c2.pc)) (fun e : B = w.heap.size + 1 + 1 => by have := HLT.out; omega)
    · exact set11_but HB4.out (.inr (by omega)) (.int .u32 (c2.r 0)) (.int .u32 (c2.r 1)) (.int .u32 (c2.r 2)) (.int .u32 (c2.r 3)) (.int .u32 (c2.r 4)) (.int .u32 (c2.r 5)) (.int .u32 (c2.r 6)) (.int .u32 (c2.r 7)) (.complex .f64 (c2.z 0).1 (c2.z 0).2) (.complex .f64 (c2.z 1).1 (c2.z 1).2) (.int .u32 c2.pc)

set_option maxRecDepth 100000 in
set_option maxHeartbeats 8000000 in
theorem rmem_lb {w : World} {A : Option Addr} {B cap : Nat} {c : Cp} {m : List Int} (hM : ByIn w A B cap m) (hc : c.Ok) (op : Int) (a : Nat) (b : Nat) (im : Int) (at' : Nat) (ht : touchP c m = (at', 1, false)) (hat : at' < 4294967296) (hop : op = 17) (ha : a < 8) (hin : at' + 1 ≤ m.length) (v : Int) (hv : m.getD at' 0 = v) (c1 c2 : Cp) (hc1 : c.setR a v = c1) (hc2 : c1.setPc (nextP c) = c2) :
    Calls Tryd.prog 37 #[.agg #[.int .i64 op, .int .i64 (a : Int), .int .i64 (b : Int), .int .i64 im], .agg c.arr, .slice A m.length cap] w fun e w' => OutR w A B cap (c2, 0, m) e w' := by
  have hb0 := bl_new (bl_new (bl_new (Below.refl w.heap.size w) (.cells #[.int .i64 op, .int .i64 (a : Int), .int .i64 (b : Int), .int .i64 im] 38)) (.cells c.arr 28)) (.cells c0A 28)
  have hJ := ((Blk.new w 38 #[.int .i64 op, .int .i64 (a : Int), .int .i64 (b : Int), .int .i64 im]).alloc (.cells c.arr 28)).alloc (.cells c0A 28)
  have hX := (Blk.new (w.alloc (.cells #[.int .i64 op, .int .i64 (a : Int), .int .i64 (b : Int), .int .i64 im] 38)) 28 c.arr).alloc (.cells c0A 28)
  have hR := Blk.new ((w.alloc (.cells #[.int .i64 op, .int .i64 (a : Int), .int .i64 (b : Int), .int .i64 im] 38)).alloc (.cells c.arr 28)) 28 c0A
  simp only [World.size_alloc] at hX hR
  have HX0 := Lib.hid hX
  have HR0 := Lib.hid hR
  have HJ0 := Lib.hid hJ
  have x0 := (cp_all hX).1
  have x1 := (cp_all hX).2.1
  have x2 := (cp_all hX).2.2.1
  have x3 := (cp_all hX).2.2.2.1
  have x4 := (cp_all hX).2.2.2.2.1
  have x5 := (cp_all hX).2.2.2.2.2.1
  have x6 := (cp_all hX).2.2.2.2.2.2.1
  have x7 := (cp_all hX).2.2.2.2.2.2.2.1
  have x8 := (cp_all hX).2.2.2.2.2.2.2.2.1
  have x9 := (cp_all hX).2.2.2.2.2.2.2.2.2.1
  have x10 := (cp_all hX).2.2.2.2.2.2.2.2.2.2.1
  have xlt := (cp_all hX).2.2.2.2.2.2.2.2.2.2.2
  have HT := Lib.hid (fun W (hW : Below w.heap.size w W) => show Calls Tryd.prog 14 #[.agg c.arr, .slice A m.length cap] W fun e w' => e = .returned (.tuple #[.int .u32 (at' : Int), .int .i64 1, .bool false]) ∧ Below W.heap.size W w' from by
    have h := refTouch_any (hM.below hW) hc
    rw [ht] at h
    exact h)
  have hlen := hM.len
  have HB0 := Lib.hid hb0
  have HMM := Lib.hid hM
  have HCC := Lib.hid hc
  have hat1 : (at' : Int) < 4294967296 := by omega
  have hlm : (m.length : Int) ≤ 1000000 := by omega
  have hgt : ¬ (m.length : Int) < (at' : Int) + 1 := by omega
  have hgd : decide ((m.length : Int) < (at' : Int) + 1) = false := decide_eq_false hgt
  obtain rfl := hM.addr (by rintro rfl; simp at hin)
  have HV := Lib.hid (show m[at']? = some v from by
    rw [List.getD_eq_getElem?_getD] at hv
    rw [List.getElem?_eq_getElem (by omega)] at hv ⊢
    rw [← hv]; rfl)
  have hvr := hM.low v (List.mem_of_getElem? HV.out)
  have hv0 := hvr.1
  have hv1 := hvr.2
  have hati : (at' : Int) < (m.length : Int) := by omega
  have hcap := hM.cap
  have hcapi : (m.length : Int) ≤ (cap : Int) := by omega
  have HA := Lib.hid ha
  have HOP := Lib.hid hop
  have HC1 := Lib.hid hc1
  have HC2 := Lib.hid hc2
  have HLT := Lib.hid (hM.lt (by rintro rfl; simp at hin))
  clear hX hR hJ hb0 hM ht hlen hat hin hc hv ha hop hc1 hc2 hvr hcap
  unfold c0A at *
  go_enter Tryd.func37, Tryd.ntmps37
  go_wp2_with fail
  refine (HT.out _ HB0.out).mono ?_
  rintro e W1 ⟨rfl, hb1⟩
  have HX1 := Lib.hid (HX0.out.below hb1 HX0.out.lt)
  have HR1 := Lib.hid (HR0.out.below hb1 HR0.out.lt)
  have HJ1 := Lib.hid (HJ0.out.below hb1 HJ0.out.lt)
  have HB1 := Lib.hid (bl_step HB0.out hb1)
  have HS1 := Lib.hid HB1.out.size
  clear x0 x1 x2 x3 x4 x5 x6 x7 x8 x9 x10 xlt hb1 HX0 HR0 HJ0 HB0 HT
  have hgn : W1.heap.size ≠ w.heap.size + 1 := by have := HS1.out; have := HR1.out.lt; omega
  have hgn2 : W1.heap.size ≠ w.heap.size + 1 + 1 := by have := HR1.out.lt; omega
  have hgn3 : W1.heap.size ≠ w.heap.size := by have := HR1.out.lt; omega
  have HGN := Lib.hid hgn
  have HGN2 := Lib.hid hgn2
  have HGN3 := Lib.hid hgn3
  clear hgn hgn2 hgn3
  go_upto_region 4 with (fail)
  have x0 := (cp_all HX1.out).1
  have x1 := (cp_all HX1.out).2.1
  have x2 := (cp_all HX1.out).2.2.1
  have x3 := (cp_all HX1.out).2.2.2.1
  have x4 := (cp_all HX1.out).2.2.2.2.1
  have x5 := (cp_all HX1.out).2.2.2.2.2.1
  have x6 := (cp_all HX1.out).2.2.2.2.2.2.1
  have x7 := (cp_all HX1.out).2.2.2.2.2.2.2.1
  have x8 := (cp_all HX1.out).2.2.2.2.2.2.2.2.1
  have x9 := (cp_all HX1.out).2.2.2.2.2.2.2.2.2.1
  have x10 := (cp_all HX1.out).2.2.2.2.2.2.2.2.2.2.1
  have xlt := (cp_all HX1.out).2.2.2.2.2.2.2.2.2.2.2
  go_upto_region 5 with (fail)
  clear x0 x1 x2 x3 x4 x5 x6 x7 x8 x9 x10
  have HN2 := Lib.hid (Blk.new W1 28 c.arr)
  have HBn := Lib.hid (bl_new (Below.refl W1.heap.size W1) (.cells c.arr 28))
  have HX2 := Lib.hid (HX1.out.below HBn.out HX1.out.lt)
  have HR2 := Lib.hid (HR1.out.below HBn.out HR1.out.lt)
  have HJ2 := Lib.hid (HJ1.out.below HBn.out HJ1.out.lt)
  have HB2 := Lib.hid (bl_step HB1.out HBn.out)
  have HM2 := Lib.hid (HMM.out.below HB2.out)
  clear xlt
  clear HBn HX1 HR1 HJ1 HB1
  unfold Cp.arr at HN2 HX2 HR2 HJ2 HB2 HM2
  generalize W1.alloc (.cells #[.int .u32 (c.r 0), .int .u32 (c.r 1), .int .u32 (c.r 2), .int .u32 (c.r 3), .int .u32 (c.r 4), .int .u32 (c.r 5), .int .u32 (c.r 6), .int .u32 (c.r 7), .complex .f64 (c.z 0).1 (c.z 0).2, .complex .f64 (c.z 1).1 (c.z 1).2, .int .u32 c.pc] 28) = W2 at *
  generalize W1.heap.size = gn at *
  have hra := cp_reg HX2.out HA.out
  have hai : (a : Int) < 8 := by have := HA.out; omega
  have i1 := (ccells HJ2.out).2.1
  have ilt := (ccells HJ2.out).2.2.2.2
  have xlt := HX2.out.lt
  go_upto_region 6 with (fail)
  obtain ⟨_, bl, bc, bf⟩ := HM2.out.cell HV.out
  have n1 := cp_reg HN2.out HA.out
  have nf := HN2.out.frozen a
  have nlt := HN2.out.lt
  go_region
  all_goals
    have HN3 := Lib.hid (show CpAt (W2.setCell ⟨gn, a, none⟩ (.int .u32 v)).drew gn c1 from by
      have h := ((show CpAt W2 gn c from HN2.out).set_ a (.int .u32 v)).drew
      rw [arr_setR c HA.out v, HC1.out] at h
      exact h)
    have HX3 := Lib.hid (show CpAt (W2.setCell ⟨gn, a, none⟩ (.int .u32 v)).drew (w.heap.size + 1) c from (HX2.out.far (p := ⟨gn, a, none⟩) (fun e => HGN.out e.symm) _).drew)
    have HR3 := Lib.hid ((HR2.out.far (p := ⟨gn, a, none⟩) (fun e => HGN2.out e.symm) (.int .u32 v)).drew)
    have HM3 := Lib.hid ((HM2.out.but (But.setCell (S := fun k => k = gn) (But.refl _ W2) (p := ⟨gn, a, none⟩) (.inl rfl) (.int .u32 v)) (fun e : B = gn => by have := HLT.out; have := HS1.out; omega)).drew)
    have HB3 := Lib.hid (((But.of_below (S := fun k => k = B) HB2.out).setCell (p := ⟨gn, a, none⟩) (.inr HS1.out) (.int .u32 v)).drew)
    clear hra hai i1 ilt xlt n1 nf nlt bl bc bf HN2 HX2 HR2 HJ2 HM2 HB2
    generalize (W2.setCell ⟨gn, a, none⟩ (.int .u32 v)).drew = W3 at *
    have x10 := cp_pc HX3.out
    have xlt := HX3.out.lt
    have n10 := cp_pc HN3.out
    have nf10 := HN3.out.frozen 10
    have nlt := HN3.out.lt
    have hp0 := HCC.out.p0
    have hp1 := HCC.out.p1
    go_upto_region 16 with (fail)
    have HN4 := Lib.hid (show CpAt (W3.setCell ⟨gn, 10, none⟩ (.int .u32 ((c.pc + 4) % 4294967296))) gn c2 from by
      have h := HN3.out.set_ 10 (.int .u32 ((c.pc + 4) % 4294967296))
      rw [arr_setPc, show (c.pc + 4) % 4294967296 = nextP c from rfl, HC2.out] at h
      exact h)
    have HR4 := Lib.hid (HR3.out.far (p := ⟨gn, 10, none⟩) (fun e => HGN2.out e.symm) (.int .u32 ((c.pc + 4) % 4294967296)))
    have HM4 := Lib.hid (HM3.out.but (But.setCell (S := fun k => k = gn) (But.refl _ W3) (p := ⟨gn, 10, none⟩) (.inl rfl) (.int .u32 ((c.pc + 4) % 4294967296))) (fun e : B = gn => by have := HLT.out; have := HS1.out; omega))
    have HB4 := Lib.hid (HB3.out.setCell (p := ⟨gn, 10, none⟩) (.inr HS1.out) (.int .u32 ((c.pc + 4) % 4294967296)))
    clear x10 xlt n10 nf10 nlt hp0 hp1 HN3 HR3 HX3 HM3 HB3
    generalize W3.setCell ⟨gn, 10, none⟩ (.int .u32 ((c.pc + 4) % 4294967296)) = W4 at *
    have x0 := (cp_all HN4.out).1
    have x1 := (cp_all HN4.out).2.1
    have x2 := (cp_all HN4.out).2.2.1
    have x3 := (cp_all HN4.out).2.2.2.1
    have x4 := (cp_all HN4.out).2.2.2.2.1
    have x5 := (cp_all HN4.out).2.2.2.2.2.1
    have x6 := (cp_all HN4.out).2.2.2.2.2.2.1
    have x7 := (cp_all HN4.out).2.2.2.2.2.2.2.1
    have x8 := (cp_all HN4.out).2.2.2.2.2.2.2.2.1
    have x9 := (cp_all HN4.out).2.2.2.2.2.2.2.2.2.1
    have x10 := (cp_all HN4.out).2.2.2.2.2.2.2.2.2.2.1
    have xlt := (cp_all HN4.out).2.2.2.2.2.2.2.2.2.2.2
    have r0 := (row11 HR4.out).1
    have r1 := (row11 HR4.out).2.1
    have r2 := (row11 HR4.out).2.2.1
    have r3 := (row11 HR4.out).2.2.2.1
    have r4 := (row11 HR4.out).2.2.2.2.1
    have r5 := (row11 HR4.out).2.2.2.2.2.1
    have r6 := (row11 HR4.out).2.2.2.2.2.2.1
    have r7 := (row11 HR4.out).2.2.2.2.2.2.2.1
    have r8 := (row11 HR4.out).2.2.2.2.2.2.2.2.1
    have r9 := (row11 HR4.out).2.2.2.2.2.2.2.2.2.1
    have r10 := (row11 HR4.out).2.2.2.2.2.2.2.2.2.2.1
    have rlt := (row11 HR4.out).2.2.2.2.2.2.2.2.2.2.2
    have rf0 := (HR4.out).frozen 0
    have rf1 := (HR4.out).frozen 1
    have rf2 := (HR4.out).frozen 2
    have rf3 := (HR4.out).frozen 3
    have rf4 := (HR4.out).frozen 4
    have rf5 := (HR4.out).frozen 5
    have rf6 := (HR4.out).frozen 6
    have rf7 := (HR4.out).frozen 7
    have rf8 := (HR4.out).frozen 8
    have rf9 := (HR4.out).frozen 9
    have rf10 := (HR4.out).frozen 10
    go_wp2
    refine bodyPost_ret (results_row_tmp Tryd.results37 _ rfl (set11_blk HR4.out (.int .u32 (c2.r 0)) (.int .u32 (c2.r 1)) (.int .u32 (c2.r 2)) (.int .u32 (c2.r 3)) (.int .u32 (c2.r 4)) (.int .u32 (c2.r 5)) (.int .u32 (c2.r 6)) (.int .u32 (c2.r 7)) (.complex .f64 (c2.z 0).1 (c2.z 0).2) (.complex .f64 (c2.z 1).1 (c2.z 1).2) (.int .u32 c2.pc)) Tryd.underlying28 rfl (by kernel_rfl)) rfl ⟨rfl, ?_, ?_⟩
    · exact HM4.out.but (set11_but (S := fun k => k = w.heap.size + 1 + 1) (g := w.heap.size + 1 + 1) (But.refl _ W4) (.inl rfl) (.int .u32 (c2.r 0)) (.int .u32 (c2.r 1)) (.int .u32 (c2.r 2)) (.int .u32 (c2.r 3)) (.int .u32 (c2.r 4)) (.int .u32 (c2.r 5)) (.int .u32 (c2.r 6)) (.int .u32 (c2.r 7)) (.complex .f64 (c2.z 0).1 (c2.z 0).2) (.complex .f64 (c2.z 1).1 (c2.z 1).2) (.int .u32 c2.pc)) (fun e : B = w.heap.size + 1 + 1 => by have := HLT.out; omega)
    · exact set11_but HB4.out (.inr (by omega)) (.int .u32 (c2.r 0)) (.int .u32 (c2.r 1)) (.int .u32 (c2.r 2)) (.int .u32 (c2.r 3)) (.int .u32 (c2.r 4)) (.int .u32 (c2.r 5)) (.int .u32 (c2.r 6)) (.int .u32 (c2.r 7)) (.complex .f64 (c2.z 0).1 (c2.z 0).2) (.complex .f64 (c2.z 1).1 (c2.z 1).2) (.int .u32 c2.pc)

/-- So many bytes of a word are written. -/
def wrI (m : List Int) (at' : Nat) (v : Int) : Nat → List Int
  | 0 => m
  | i + 1 => (wrI m at' v i).set (at' + i) (v / 256 ^ i % 256)
theorem wrI_len (m : List Int) (at' : Nat) (v : Int) : ∀ i, (wrI m at' v i).length = m.length
  | 0 => rfl
  | i + 1 => by show ((wrI m at' v i).set _ _).length = _; rw [List.length_set, wrI_len]
theorem wrI_one (m : List Int) (at' : Nat) (v : Int) : wrI m at' v 1 = m.set at' (v % 256) := by
  show m.set (at' + 0) (v / 256 ^ 0 % 256) = _
  rw [Nat.add_zero, Int.pow_zero, Int.ediv_one]
theorem wrI_four (m : List Int) (at' : Nat) (v : Int) (h0 : 0 ≤ v) (h1 : v ≤ 4294967295) : wrI m at' v 4 = set4 m at' v := by
  show (((m.set (at' + 0) (v / 256 ^ 0 % 256)).set (at' + 1) (v / 256 ^ 1 % 256)).set (at' + 2) (v / 256 ^ 2 % 256)).set (at' + 3) (v / 256 ^ 3 % 256) = _
  unfold set4
  rw [Nat.add_zero, Int.pow_zero, Int.ediv_one, show ((256 : Int) ^ 1) = 256 from rfl, show ((256 : Int) ^ 2) = 65536 from rfl, show ((256 : Int) ^ 3) = 16777216 from rfl, show v / 16777216 % 256 = v / 16777216 by omega]
theorem pow_step (v : Int) (i : Nat) : v / 256 ^ i / 256 = v / 256 ^ (i + 1) := by
  rw [Int.pow_succ, Int.ediv_ediv_of_nonneg (Int.le_of_lt (Int.pow_pos (by decide)))]
theorem pow_le {v : Int} (h0 : 0 ≤ v) (h1 : v ≤ 4294967295) (i : Nat) : 0 ≤ v / 256 ^ i ∧ v / 256 ^ i ≤ 4294967295 :=
  ⟨Int.ediv_nonneg h0 (Int.le_of_lt (Int.pow_pos (by decide))), Int.le_trans (Int.ediv_le_self _ h0) h1⟩

set_option maxRecDepth 100000 in
set_option maxHeartbeats 8000000 in
theorem rmem_put1 {w : World} {A : Option Addr} {B cap : Nat} {c : Cp} {m : List Int} (hM : ByIn w A B cap m) (hc : c.Ok) (op : Int) (a : Nat) (b : Nat) (im : Int) (at' : Nat) (ht : touchP c m = (at', 1, true)) (hat : at' < 4294967296) (hop : op = 18) (ha : a < 8) (hin : at' + 1 ≤ m.length) (c2 : Cp) (hc2 : c.setPc (nextP c) = c2) :
    Calls Tryd.prog 37 #[.agg #[.int .i64 op, .int .i64 (a : Int), .int .i64 (b : Int), .int .i64 im], .agg c.arr, .slice A m.length cap] w fun e w' => OutR w A B cap (c2, 0, wrI m at' (c.r a) 1) e w' := by
  have hb0 := bl_new (bl_new (bl_new (Below.refl w.heap.size w) (.cells #[.int .i64 op, .int .i64 (a : Int), .int .i64 (b : Int), .int .i64 im] 38)) (.cells c.arr 28)) (.cells c0A 28)
  have hJ := ((Blk.new w 38 #[.int .i64 op, .int .i64 (a : Int), .int .i64 (b : Int), .int .i64 im]).alloc (.cells c.arr 28)).alloc (.cells c0A 28)
  have hX := (Blk.new (w.alloc (.cells #[.int .i64 op, .int .i64 (a : Int), .int .i64 (b : Int), .int .i64 im] 38)) 28 c.arr).alloc (.cells c0A 28)
  have hR := Blk.new ((w.alloc (.cells #[.int .i64 op, .int .i64 (a : Int), .int .i64 (b : Int), .int .i64 im] 38)).alloc (.cells c.arr 28)) 28 c0A
  simp only [World.size_alloc] at hX hR
  have HX0 := Lib.hid hX
  have HR0 := Lib.hid hR
  have HJ0 := Lib.hid hJ
  have x0 := (cp_all hX).1
  have x1 := (cp_all hX).2.1
  have x2 := (cp_all hX).2.2.1
  have x3 := (cp_all hX).2.2.2.1
  have x4 := (cp_all hX).2.2.2.2.1
  have x5 := (cp_all hX).2.2.2.2.2.1
  have x6 := (cp_all hX).2.2.2.2.2.2.1
  have x7 := (cp_all hX).2.2.2.2.2.2.2.1
  have x8 := (cp_all hX).2.2.2.2.2.2.2.2.1
  have x9 := (cp_all hX).2.2.2.2.2.2.2.2.2.1
  have x10 := (cp_all hX).2.2.2.2.2.2.2.2.2.2.1
  have xlt := (cp_all hX).2.2.2.2.2.2.2.2.2.2.2
  have HT := Lib.hid (fun W (hW : Below w.heap.size w W) => show Calls Tryd.prog 14 #[.agg c.arr, .slice A m.length cap] W fun e w' => e = .returned (.tuple #[.int .u32 (at' : Int), .int .i64 1, .bool true]) ∧ Below W.heap.size W w' from by
    have h := refTouch_any (hM.below hW) hc
    rw [ht] at h
    exact h)
  have hlen := hM.len
  have HB0 := Lib.hid hb0
  have HMM := Lib.hid hM
  have HCC := Lib.hid hc
  have hat1 : (at' : Int) < 4294967296 := by omega
  have hlm : (m.length : Int) ≤ 1000000 := by omega
  have hgt : ¬ (m.length : Int) < (at' : Int) + 1 := by omega
  have hgd : decide ((m.length : Int) < (at' : Int) + 1) = false := decide_eq_false hgt
  obtain rfl := hM.addr (by rintro rfl; simp at hin)
  have HIN := Lib.hid hin
  have hcap := hM.cap
  have hcapi : (m.length : Int) ≤ (cap : Int) := by omega
  have HA := Lib.hid ha
  have HOP := Lib.hid hop
  have HC1 := Lib.hid (rfl : c = c)
  have HC2 := Lib.hid hc2
  have HLT := Lib.hid (hM.lt (by rintro rfl; simp at hin))
  clear hX hR hJ hb0 hM ht hlen hat hin hc ha hop hc2 hcap
  unfold c0A at *
  go_enter Tryd.func37, Tryd.ntmps37
  go_wp2_with fail
  refine (HT.out _ HB0.out).mono ?_
  rintro e W1 ⟨rfl, hb1⟩
  have HX1 := Lib.hid (HX0.out.below hb1 HX0.out.lt)
  have HR1 := Lib.hid (HR0.out.below hb1 HR0.out.lt)
  have HJ1 := Lib.hid (HJ0.out.below hb1 HJ0.out.lt)
  have HB1 := Lib.hid (bl_step HB0.out hb1)
  have HS1 := Lib.hid HB1.out.size
  clear x0 x1 x2 x3 x4 x5 x6 x7 x8 x9 x10 xlt hb1 HX0 HR0 HJ0 HB0 HT
  have hgn : W1.heap.size ≠ w.heap.size + 1 := by have := HS1.out; have := HR1.out.lt; omega
  have hgn2 : W1.heap.size ≠ w.heap.size + 1 + 1 := by have := HR1.out.lt; omega
  have hgn3 : W1.heap.size ≠ w.heap.size := by have := HR1.out.lt; omega
  have HGN := Lib.hid hgn
  have HGN2 := Lib.hid hgn2
  have HGN3 := Lib.hid hgn3
  clear hgn hgn2 hgn3
  go_upto_region 4 with (fail)
  have x0 := (cp_all HX1.out).1
  have x1 := (cp_all HX1.out).2.1
  have x2 := (cp_all HX1.out).2.2.1
  have x3 := (cp_all HX1.out).2.2.2.1
  have x4 := (cp_all HX1.out).2.2.2.2.1
  have x5 := (cp_all HX1.out).2.2.2.2.2.1
  have x6 := (cp_all HX1.out).2.2.2.2.2.2.1
  have x7 := (cp_all HX1.out).2.2.2.2.2.2.2.1
  have x8 := (cp_all HX1.out).2.2.2.2.2.2.2.2.1
  have x9 := (cp_all HX1.out).2.2.2.2.2.2.2.2.2.1
  have x10 := (cp_all HX1.out).2.2.2.2.2.2.2.2.2.2.1
  have xlt := (cp_all HX1.out).2.2.2.2.2.2.2.2.2.2.2
  go_upto_region 5 with (fail)
  clear x0 x1 x2 x3 x4 x5 x6 x7 x8 x9 x10
  have HN2 := Lib.hid (Blk.new W1 28 c.arr)
  have HBn := Lib.hid (bl_new (Below.refl W1.heap.size W1) (.cells c.arr 28))
  have HX2 := Lib.hid (HX1.out.below HBn.out HX1.out.lt)
  have HR2 := Lib.hid (HR1.out.below HBn.out HR1.out.lt)
  have HJ2 := Lib.hid (HJ1.out.below HBn.out HJ1.out.lt)
  have HB2 := Lib.hid (bl_step HB1.out HBn.out)
  have HM2 := Lib.hid (HMM.out.below HB2.out)
  clear xlt
  clear HBn HX1 HR1 HJ1 HB1
  unfold Cp.arr at HN2 HX2 HR2 HJ2 HB2 HM2
  generalize W1.alloc (.cells #[.int .u32 (c.r 0), .int .u32 (c.r 1), .int .u32 (c.r 2), .int .u32 (c.r 3), .int .u32 (c.r 4), .int .u32 (c.r 5), .int .u32 (c.r 6), .int .u32 (c.r 7), .complex .f64 (c.z 0).1 (c.z 0).2, .complex .f64 (c.z 1).1 (c.z 1).2, .int .u32 c.pc] 28) = W2 at *
  generalize W1.heap.size = gn at *
  have hra := cp_reg HX2.out HA.out
  have hai : (a : Int) < 8 := by have := HA.out; omega
  have i1 := (ccells HJ2.out).2.1
  have ilt := (ccells HJ2.out).2.2.2.2
  have xlt := HX2.out.lt
  go_upto_region 8 with (fail)
  go_wp2
  obtain ⟨v, hv⟩ : ∃ v, c.r a = v := ⟨_, rfl⟩
  have HV0 := Lib.hid (hv ▸ HCC.out.r a)
  rw [hv]
  clear hra hai i1 ilt xlt
  go_loopg [12, 13] 1 (fun g u x wx => ∃ i : Nat, i + g = 1 ∧ u = .int .u32 (v / 256 ^ i) ∧ x = .int .i64 (i : Int) ∧ ByIn wx (some ⟨B, 0, none⟩) B cap (wrI m at' v i) ∧ But (fun k => k = B) W2 wx)
  case atStart => exact ⟨0, rfl, by rw [Int.pow_zero, Int.ediv_one], rfl, HM2.out, But.refl _ _⟩
  case round =>
    obtain ⟨i, hig, rfl, rfl, hMi, hBi⟩ := hrel
    have HMI := Lib.hid hMi
    have HBI := Lib.hid hBi
    clear hMi hBi
    cases gk with
    | zero =>
      obtain rfl : i = 1 := by omega
      rename World => W3
      have HN3 := Lib.hid (show CpAt W3 gn c from (show CpAt W2 gn c from HN2.out).but HBI.out (fun e : gn = B => by have := HLT.out; have := HS1.out; omega))
      have HX3 := Lib.hid (show CpAt W3 (w.heap.size + 1) c from (show CpAt W2 (w.heap.size + 1) c from HX2.out).but HBI.out (fun e : w.heap.size + 1 = B => by have := HLT.out; omega))
      have HR3 := Lib.hid (HR2.out.but HBI.out (fun e : w.heap.size + 1 + 1 = B => by have := HLT.out; omega))
      have HM3 := HMI
      have HB3 := Lib.hid ((But.of_below (S := fun k => k = B) HB2.out).trans HBI.out (fun k hk => .inl hk))
      clear HN2 HX2 HR2 HJ2 HM2 HB2 HMI HBI
      subst hv
      have x10 := cp_pc HX3.out
      have xlt := HX3.out.lt
      have n10 := cp_pc HN3.out
      have nf10 := HN3.out.frozen 10
      have nlt := HN3.out.lt
      have hp0 := HCC.out.p0
      have hp1 := HCC.out.p1
      go_upto_region 16 with (fail)
      have HN4 := Lib.hid (show CpAt (W3.setCell ⟨gn, 10, none⟩ (.int .u32 ((c.pc + 4) % 4294967296))) gn c2 from by
        have h := HN3.out.set_ 10 (.int .u32 ((c.pc + 4) % 4294967296))
        rw [arr_setPc, show (c.pc + 4) % 4294967296 = nextP c from rfl, HC2.out] at h
        exact h)
      have HR4 := Lib.hid (HR3.out.far (p := ⟨gn, 10, none⟩) (fun e => HGN2.out e.symm) (.int .u32 ((c.pc + 4) % 4294967296)))
      have HM4 := Lib.hid (HM3.out.but (But.setCell (S := fun k => k = gn) (But.refl _ W3) (p := ⟨gn, 10, none⟩) (.inl rfl) (.int .u32 ((c.pc + 4) % 4294967296))) (fun e : B = gn => by have := HLT.out; have := HS1.out; omega))
      have HB4 := Lib.hid (HB3.out.setCell (p := ⟨gn, 10, none⟩) (.inr HS1.out) (.int .u32 ((c.pc + 4) % 4294967296)))
      clear x10 xlt n10 nf10 nlt hp0 hp1 HN3 HR3 HX3 HM3 HB3
      generalize W3.setCell ⟨gn, 10, none⟩ (.int .u32 ((c.pc + 4) % 4294967296)) = W4 at *
      have x0 := (cp_all HN4.out).1
      have x1 := (cp_all HN4.out).2.1
      have x2 := (cp_all HN4.out).2.2.1
      have x3 := (cp_all HN4.out).2.2.2.1
      have x4 := (cp_all HN4.out).2.2.2.2.1
      have x5 := (cp_all HN4.out).2.2.2.2.2.1
      have x6 := (cp_all HN4.out).2.2.2.2.2.2.1
      have x7 := (cp_all HN4.out).2.2.2.2.2.2.2.1
      have x8 := (cp_all HN4.out).2.2.2.2.2.2.2.2.1
      have x9 := (cp_all HN4.out).2.2.2.2.2.2.2.2.2.1
      have x10 := (cp_all HN4.out).2.2.2.2.2.2.2.2.2.2.1
      have xlt := (cp_all HN4.out).2.2.2.2.2.2.2.2.2.2.2
      have r0 := (row11 HR4.out).1
      have r1 := (row11 HR4.out).2.1
      have r2 := (row11 HR4.out).2.2.1
      have r3 := (row11 HR4.out).2.2.2.1
      have r4 := (row11 HR4.out).2.2.2.2.1
      have r5 := (row11 HR4.out).2.2.2.2.2.1
      have r6 := (row11 HR4.out).2.2.2.2.2.2.1
      have r7 := (row11 HR4.out).2.2.2.2.2.2.2.1
      have r8 := (row11 HR4.out).2.2.2.2.2.2.2.2.1
      have r9 := (row11 HR4.out).2.2.2.2.2.2.2.2.2.1
      have r10 := (row11 HR4.out).2.2.2.2.2.2.2.2.2.2.1
      have rlt := (row11 HR4.out).2.2.2.2.2.2.2.2.2.2.2
      have rf0 := (HR4.out).frozen 0
      have rf1 := (HR4.out).frozen 1
      have rf2 := (HR4.out).frozen 2
      have rf3 := (HR4.out).frozen 3
      have rf4 := (HR4.out).frozen 4
      have rf5 := (HR4.out).frozen 5
      have rf6 := (HR4.out).frozen 6
      have rf7 := (HR4.out).frozen 7
      have rf8 := (HR4.out).frozen 8
      have rf9 := (HR4.out).frozen 9
      have rf10 := (HR4.out).frozen 10
      go_wp2
      refine bodyPost_ret (results_row_tmp Tryd.results37 _ rfl (set11_blk HR4.out (.int .u32 (c2.r 0)) (.int .u32 (c2.r 1)) (.int .u32 (c2.r 2)) (.int .u32 (c2.r 3)) (.int .u32 (c2.r 4)) (.int .u32 (c2.r 5)) (.int .u32 (c2.r 6)) (.int .u32 (c2.r 7)) (.complex .f64 (c2.z 0).1 (c2.z 0).2) (.complex .f64 (c2.z 1).1 (c2.z 1).2) (.int .u32 c2.pc)) Tryd.underlying28 rfl (by kernel_rfl)) rfl ⟨rfl, ?_, ?_⟩
      · exact HM4.out.but (set11_but (S := fun k => k = w.heap.size + 1 + 1) (g := w.heap.size + 1 + 1) (But.refl _ W4) (.inl rfl) (.int .u32 (c2.r 0)) (.int .u32 (c2.r 1)) (.int .u32 (c2.r 2)) (.int .u32 (c2.r 3)) (.int .u32 (c2.r 4)) (.int .u32 (c2.r 5)) (.int .u32 (c2.r 6)) (.int .u32 (c2.r 7)) (.complex .f64 (c2.z 0).1 (c2.z 0).2) (.complex .f64 (c2.z 1).1 (c2.z 1).2) (.int .u32 c2.pc)) (fun e : B = w.heap.size + 1 + 1 => by have := HLT.out; omega)
      · exact set11_but HB4.out (.inr (by omega)) (.int .u32 (c2.r 0)) (.int .u32 (c2.r 1)) (.int .u32 (c2.r 2)) (.int .u32 (c2.r 3)) (.int .u32 (c2.r 4)) (.int .u32 (c2.r 5)) (.int .u32 (c2.r 6)) (.int .u32 (c2.r 7)) (.complex .f64 (c2.z 0).1 (c2.z 0).2) (.complex .f64 (c2.z 1).1 (c2.z 1).2) (.int .u32 c2.pc)
    | succ g =>
      have hi4 : i < 1 := by omega
      have hii : (i : Int) < 1 := by omega
      have hi0 : (0 : Int) ≤ (i : Int) := by omega
      obtain ⟨k, hk⟩ : ∃ k, at' + i = k := ⟨_, rfl⟩
      have hkl : k < m.length := by have := HIN.out; omega
      have hki : (at' : Int) + (i : Int) = (k : Int) := by omega
      have hkm : (k : Int) < (m.length : Int) := by omega
      have hk0 : (0 : Int) ≤ (k : Int) := by omega
      obtain ⟨x0, hx0⟩ : ∃ x0, (wrI m at' v i)[k]? = some x0 := ⟨_, List.getElem?_eq_getElem (by rw [wrI_len]; exact hkl)⟩
      obtain ⟨_, bl, bc, bf⟩ := HMI.out.cell hx0
      have HST := Lib.hid (show ByIn _ _ _ _ (wrI m at' v (i + 1)) from by
        have h := HMI.out.set (a := k) (by rw [wrI_len]; exact hkl) (v := v / 256 ^ i % 256) (by omega)
        show ByIn _ _ _ _ ((wrI m at' v i).set (at' + i) (v / 256 ^ i % 256))
        rw [hk]
        exact h)
      have HSB := Lib.hid (HBI.out.setCell (p := ⟨B, k, none⟩) (.inl rfl) (.int .u8 (v / 256 ^ i % 256)))
      have HPS := Lib.hid (pow_step v i)
      have HVI := pow_le HV0.out.1 HV0.out.2 i
      obtain ⟨hv0, hv1⟩ := HVI
      have HKK := Lib.hid hk
      have HIG := Lib.hid hig
      clear hk hig hkl hx0
      generalize v / 256 ^ i = u at *
      go_wp2
      go_roundg g
      case measure => omega
      case rel => exact ⟨i + 1, by have := HIG.out; omega, by rw [← HPS.out], by go_num, HST.out, HSB.out⟩

set_option maxRecDepth 100000 in
set_option maxHeartbeats 8000000 in
theorem rmem_put4 {w : World} {A : Option Addr} {B cap : Nat} {c : Cp} {m : List Int} (hM : ByIn w A B cap m) (hc : c.Ok) (op : Int) (a : Nat) (b : Nat) (im : Int) (at' : Nat) (ht : touchP c m = (at', 4, true)) (hat : at' < 4294967296) (hop : op = 16) (ha : a < 8) (hin : at' + 4 ≤ m.length) (hal : (at' : Int) % 4 = 0) (c2 : Cp) (hc2 : c.setPc (nextP c) = c2) :
    Calls Tryd.prog 37 #[.agg #[.int .i64 op, .int .i64 (a : Int), .int .i64 (b : Int), .int .i64 im], .agg c.arr, .slice A m.length cap] w fun e w' => OutR w A B cap (c2, 0, wrI m at' (c.r a) 4) e w' := by
  have hb0 := bl_new (bl_new (bl_new (Below.refl w.heap.size w) (.cells #[.int .i64 op, .int .i64 (a : Int), .int .i64 (b : Int), .int .i64 im] 38)) (.cells c.arr 28)) (.cells c0A 28)
  have hJ := ((Blk.new w 38 #[.int .i64 op, .int .i64 (a : Int), .int .i64 (b : Int), .int .i64 im]).alloc (.cells c.arr 28)).alloc (.cells c0A 28)
  have hX := (Blk.new (w.alloc (.cells #[.int .i64 op, .int .i64 (a : Int), .int .i64 (b : Int), .int .i64 im] 38)) 28 c.arr).alloc (.cells c0A 28)
  have hR := Blk.new ((w.alloc (.cells #[.int .i64 op, .int .i64 (a : Int), .int .i64 (b : Int), .int .i64 im] 38)).alloc (.cells c.arr 28)) 28 c0A
  simp only [World.size_alloc] at hX hR
  have HX0 := Lib.hid hX
  have HR0 := Lib.hid hR
  have HJ0 := Lib.hid hJ
  have x0 := (cp_all hX).1
  have x1 := (cp_all hX).2.1
  have x2 := (cp_all hX).2.2.1
  have x3 := (cp_all hX).2.2.2.1
  have x4 := (cp_all hX).2.2.2.2.1
  have x5 := (cp_all hX).2.2.2.2.2.1
  have x6 := (cp_all hX).2.2.2.2.2.2.1
  have x7 := (cp_all hX).2.2.2.2.2.2.2.1
  have x8 := (cp_all hX).2.2.2.2.2.2.2.2.1
  have x9 := (cp_all hX).2.2.2.2.2.2.2.2.2.1
  have x10 := (cp_all hX).2.2.2.2.2.2.2.2.2.2.1
  have xlt := (cp_all hX).2.2.2.2.2.2.2.2.2.2.2
  have HT := Lib.hid (fun W (hW : Below w.heap.size w W) => show Calls Tryd.prog 14 #[.agg c.arr, .slice A m.length cap] W fun e w' => e = .returned (.tuple #[.int .u32 (at' : Int), .int .i64 4, .bool true]) ∧ Below W.heap.size W w' from by
    have h := refTouch_any (hM.below hW) hc
    rw [ht] at h
    exact h)
  have hlen := hM.len
  have HB0 := Lib.hid hb0
  have HMM := Lib.hid hM
  have HCC := Lib.hid hc
  have hat1 : (at' : Int) < 4294967296 := by omega
  have hlm : (m.length : Int) ≤ 1000000 := by omega
  have hgt : ¬ (m.length : Int) < (at' : Int) + 4 := by omega
  have hob : ((at' : Int) % 4 != 0) = false := by simpa using hal
  have hzm : (at' : Int).tmod 4 = (at' : Int) % 4 := Int.tmod_eq_emod_of_nonneg (by omega)
  have hgd : decide ((m.length : Int) < (at' : Int) + 4) = false := decide_eq_false hgt
  obtain rfl := hM.addr (by rintro rfl; simp at hin)
  have HIN := Lib.hid hin
  have hcap := hM.cap
  have hcapi : (m.length : Int) ≤ (cap : Int) := by omega
  have HA := Lib.hid ha
  have HOP := Lib.hid hop
  have HC1 := Lib.hid (rfl : c = c)
  have HC2 := Lib.hid hc2
  have HLT := Lib.hid (hM.lt (by rintro rfl; simp at hin))
  clear hX hR hJ hb0 hM ht hlen hat hin hc hal ha hop hc2 hcap
  unfold c0A at *
  go_enter Tryd.func37, Tryd.ntmps37
  go_wp2_with fail
  refine (HT.out _ HB0.out).mono ?_
  rintro e W1 ⟨rfl, hb1⟩
  have HX1 := Lib.hid (HX0.out.below hb1 HX0.out.lt)
  have HR1 := Lib.hid (HR0.out.below hb1 HR0.out.lt)
  have HJ1 := Lib.hid (HJ0.out.below hb1 HJ0.out.lt)
  have HB1 := Lib.hid (bl_step HB0.out hb1)
  have HS1 := Lib.hid HB1.out.size
  clear x0 x1 x2 x3 x4 x5 x6 x7 x8 x9 x10 xlt hb1 HX0 HR0 HJ0 HB0 HT
  have hgn : W1.heap.size ≠ w.heap.size + 1 := by have := HS1.out; have := HR1.out.lt; omega
  have hgn2 : W1.heap.size ≠ w.heap.size + 1 + 1 := by have := HR1.out.lt; omega
  have hgn3 : W1.heap.size ≠ w.heap.size := by have := HR1.out.lt; omega
  have HGN := Lib.hid hgn
  have HGN2 := Lib.hid hgn2
  have HGN3 := Lib.hid hgn3
  clear hgn hgn2 hgn3
  go_upto_region 4 with (fail)
  have x0 := (cp_all HX1.out).1
  have x1 := (cp_all HX1.out).2.1
  have x2 := (cp_all HX1.out).2.2.1
  have x3 := (cp_all HX1.out).2.2.2.1
  have x4 := (cp_all HX1.out).2.2.2.2.1
  have x5 := (cp_all HX1.out).2.2.2.2.2.1
  have x6 := (cp_all HX1.out).2.2.2.2.2.2.1
  have x7 := (cp_all HX1.out).2.2.2.2.2.2.2.1
  have x8 := (cp_all HX1.out).2.2.2.2.2.2.2.2.1
  have x9 := (cp_all HX1.out).2.2.2.2.2.2.2.2.2.1
  have x10 := (cp_all HX1.out).2.2.2.2.2.2.2.2.2.2.1
  have xlt := (cp_all HX1.out).2.2.2.2.2.2.2.2.2.2.2
  go_upto_region 5 with (fail)
  clear x0 x1 x2 x3 x4 x5 x6 x7 x8 x9 x10
  have HN2 := Lib.hid (Blk.new W1 28 c.arr)
  have HBn := Lib.hid (bl_new (Below.refl W1.heap.size W1) (.cells c.arr 28))
  have HX2 := Lib.hid (HX1.out.below HBn.out HX1.out.lt)
  have HR2 := Lib.hid (HR1.out.below HBn.out HR1.out.lt)
  have HJ2 := Lib.hid (HJ1.out.below HBn.out HJ1.out.lt)
  have HB2 := Lib.hid (bl_step HB1.out HBn.out)
  have HM2 := Lib.hid (HMM.out.below HB2.out)
  clear xlt
  clear HBn HX1 HR1 HJ1 HB1
  unfold Cp.arr at HN2 HX2 HR2 HJ2 HB2 HM2
  generalize W1.alloc (.cells #[.int .u32 (c.r 0), .int .u32 (c.r 1), .int .u32 (c.r 2), .int .u32 (c.r 3), .int .u32 (c.r 4), .int .u32 (c.r 5), .int .u32 (c.r 6), .int .u32 (c.r 7), .complex .f64 (c.z 0).1 (c.z 0).2, .complex .f64 (c.z 1).1 (c.z 1).2, .int .u32 c.pc] 28) = W2 at *
  generalize W1.heap.size = gn at *
  have hra := cp_reg HX2.out HA.out
  have hai : (a : Int) < 8 := by have := HA.out; omega
  have i1 := (ccells HJ2.out).2.1
  have ilt := (ccells HJ2.out).2.2.2.2
  have xlt := HX2.out.lt
  go_upto_region 8 with (fail)
  go_wp2
  obtain ⟨v, hv⟩ : ∃ v, c.r a = v := ⟨_, rfl⟩
  have HV0 := Lib.hid (hv ▸ HCC.out.r a)
  rw [hv]
  clear hra hai i1 ilt xlt
  go_loopg [12, 13] 4 (fun g u x wx => ∃ i : Nat, i + g = 4 ∧ u = .int .u32 (v / 256 ^ i) ∧ x = .int .i64 (i : Int) ∧ ByIn wx (some ⟨B, 0, none⟩) B cap (wrI m at' v i) ∧ But (fun k => k = B) W2 wx)
  case atStart => exact ⟨0, rfl, by rw [Int.pow_zero, Int.ediv_one], rfl, HM2.out, But.refl _ _⟩
  case round =>
    obtain ⟨i, hig, rfl, rfl, hMi, hBi⟩ := hrel
    have HMI := Lib.hid hMi
    have HBI := Lib.hid hBi
    clear hMi hBi
    cases gk with
    | zero =>
      obtain rfl : i = 4 := by omega
      rename World => W3
      have HN3 := Lib.hid (show CpAt W3 gn c from (show CpAt W2 gn c from HN2.out).but HBI.out (fun e : gn = B => by have := HLT.out; have := HS1.out; omega))
      have HX3 := Lib.hid (show CpAt W3 (w.heap.size + 1) c from (show CpAt W2 (w.heap.size + 1) c from HX2.out).but HBI.out (fun e : w.heap.size + 1 = B => by have := HLT.out; omega))
      have HR3 := Lib.hid (HR2.out.but HBI.out (fun e : w.heap.size + 1 + 1 = B => by have := HLT.out; omega))
      have HM3 := HMI
      have HB3 := Lib.hid ((But.of_below (S := fun k => k = B) HB2.out).trans HBI.out (fun k hk => .inl hk))
      clear HN2 HX2 HR2 HJ2 HM2 HB2 HMI HBI
      subst hv
      have x10 := cp_pc HX3.out
      have xlt := HX3.out.lt
      have n10 := cp_pc HN3.out
      have nf10 := HN3.out.frozen 10
      have nlt := HN3.out.lt
      have hp0 := HCC.out.p0
      have hp1 := HCC.out.p1
      go_upto_region 16 with (fail)
      have HN4 := Lib.hid (show CpAt (W3.setCell ⟨gn, 10, none⟩ (.int .u32 ((c.pc + 4) % 4294967296))) gn c2 from by
        have h := HN3.out.set_ 10 (.int .u32 ((c.pc + 4) % 4294967296))
        rw [arr_setPc, show (c.pc + 4) % 4294967296 = nextP c from rfl, HC2.out] at h
        exact h)
      have HR4 := Lib.hid (HR3.out.far (p := ⟨gn, 10, none⟩) (fun e => HGN2.out e.symm) (.int .u32 ((c.pc + 4) % 4294967296)))
      have HM4 := Lib.hid (HM3.out.but (But.setCell (S := fun k => k = gn) (But.refl _ W3) (p := ⟨gn, 10, none⟩) (.inl rfl) (.int .u32 ((c.pc + 4) % 4294967296))) (fun e : B = gn => by have := HLT.out; have := HS1.out; omega))
      have HB4 := Lib.hid (HB3.out.setCell (p := ⟨gn, 10, none⟩) (.inr HS1.out) (.int .u32 ((c.pc + 4) % 4294967296)))
      clear x10 xlt n10 nf10 nlt hp0 hp1 HN3 HR3 HX3 HM3 HB3
      generalize W3.setCell ⟨gn, 10, none⟩ (.int .u32 ((c.pc + 4) % 4294967296)) = W4 at *
      have x0 := (cp_all HN4.out).1
      have x1 := (cp_all HN4.out).2.1
      have x2 := (cp_all HN4.out).2.2.1
      have x3 := (cp_all HN4.out).2.2.2.1
      have x4 := (cp_all HN4.out).2.2.2.2.1
      have x5 := (cp_all HN4.out).2.2.2.2.2.1
      have x6 := (cp_all HN4.out).2.2.2.2.2.2.1
      have x7 := (cp_all HN4.out).2.2.2.2.2.2.2.1
      have x8 := (cp_all HN4.out).2.2.2.2.2.2.2.2.1
      have x9 := (cp_all HN4.out).2.2.2.2.2.2.2.2.2.1
      have x10 := (cp_all HN4.out).2.2.2.2.2.2.2.2.2.2.1
      have xlt := (cp_all HN4.out).2.2.2.2.2.2.2.2.2.2.2
      have r0 := (row11 HR4.out).1
      have r1 := (row11 HR4.out).2.1
      have r2 := (row11 HR4.out).2.2.1
      have r3 := (row11 HR4.out).2.2.2.1
      have r4 := (row11 HR4.out).2.2.2.2.1
      have r5 := (row11 HR4.out).2.2.2.2.2.1
      have r6 := (row11 HR4.out).2.2.2.2.2.2.1
      have r7 := (row11 HR4.out).2.2.2.2.2.2.2.1
      have r8 := (row11 HR4.out).2.2.2.2.2.2.2.2.1
      have r9 := (row11 HR4.out).2.2.2.2.2.2.2.2.2.1
      have r10 := (row11 HR4.out).2.2.2.2.2.2.2.2.2.2.1
      have rlt := (row11 HR4.out).2.2.2.2.2.2.2.2.2.2.2
      have rf0 := (HR4.out).frozen 0
      have rf1 := (HR4.out).frozen 1
      have rf2 := (HR4.out).frozen 2
      have rf3 := (HR4.out).frozen 3
      have rf4 := (HR4.out).frozen 4
      have rf5 := (HR4.out).frozen 5
      have rf6 := (HR4.out).frozen 6
      have rf7 := (HR4.out).frozen 7
      have rf8 := (HR4.out).frozen 8
      have rf9 := (HR4.out).frozen 9
      have rf10 := (HR4.out).frozen 10
      go_wp2
      refine bodyPost_ret (results_row_tmp Tryd.results37 _ rfl (set11_blk HR4.out (.int .u32 (c2.r 0)) (.int .u32 (c2.r 1)) (.int .u32 (c2.r 2)) (.int .u32 (c2.r 3)) (.int .u32 (c2.r 4)) (.int .u32 (c2.r 5)) (.int .u32 (c2.r 6)) (.int .u32 (c2.r 7)) (.complex .f64 (c2.z 0).1 (c2.z 0).2) (.complex .f64 (c2.z 1).1 (c2.z 1).2) (.int .u32 c2.pc)) Tryd.underlying28 rfl (by kernel_rfl)) rfl ⟨rfl, ?_, ?_⟩
      · exact HM4.out.but (set11_but (S := fun k => k = w.heap.size + 1 + 1) (g := w.heap.size + 1 + 1) (But.refl _ W4) (.inl rfl) (.int .u32 (c2.r 0)) (.int .u32 (c2.r 1)) (.int .u32 (c2.r 2)) (.int .u32 (c2.r 3)) (.int .u32 (c2.r 4)) (.int .u32 (c2.r 5)) (.int .u32 (c2.r 6)) (.int .u32 (c2.r 7)) (.complex .f64 (c2.z 0).1 (c2.z 0).2) (.complex .f64 (c2.z 1).1 (c2.z 1).2) (.int .u32 c2.pc)) (fun e : B = w.heap.size + 1 + 1 => by have := HLT.out; omega)
      · exact set11_but HB4.out (.inr (by omega)) (.int .u32 (c2.r 0)) (.int .u32 (c2.r 1)) (.int .u32 (c2.r 2)) (.int .u32 (c2.r 3)) (.int .u32 (c2.r 4)) (.int .u32 (c2.r 5)) (.int .u32 (c2.r 6)) (.int .u32 (c2.r 7)) (.complex .f64 (c2.z 0).1 (c2.z 0).2) (.complex .f64 (c2.z 1).1 (c2.z 1).2) (.int .u32 c2.pc)
    | succ g =>
      have hi4 : i < 4 := by omega
      have hii : (i : Int) < 4 := by omega
      have hi0 : (0 : Int) ≤ (i : Int) := by omega
      obtain ⟨k, hk⟩ : ∃ k, at' + i = k := ⟨_, rfl⟩
      have hkl : k < m.length := by have := HIN.out; omega
      have hki : (at' : Int) + (i : Int) = (k : Int) := by omega
      have hkm : (k : Int) < (m.length : Int) := by omega
      have hk0 : (0 : Int) ≤ (k : Int) := by omega
      obtain ⟨x0, hx0⟩ : ∃ x0, (wrI m at' v i)[k]? = some x0 := ⟨_, List.getElem?_eq_getElem (by rw [wrI_len]; exact hkl)⟩
      obtain ⟨_, bl, bc, bf⟩ := HMI.out.cell hx0
      have HST := Lib.hid (show ByIn _ _ _ _ (wrI m at' v (i + 1)) from by
        have h := HMI.out.set (a := k) (by rw [wrI_len]; exact hkl) (v := v / 256 ^ i % 256) (by omega)
        show ByIn _ _ _ _ ((wrI m at' v i).set (at' + i) (v / 256 ^ i % 256))
        rw [hk]
        exact h)
      have HSB := Lib.hid (HBI.out.setCell (p := ⟨B, k, none⟩) (.inl rfl) (.int .u8 (v / 256 ^ i % 256)))
      have HPS := Lib.hid (pow_step v i)
      have HVI := pow_le HV0.out.1 HV0.out.2 i
      obtain ⟨hv0, hv1⟩ := HVI
      have HKK := Lib.hid hk
      have HIG := Lib.hid hig
      clear hk hig hkl hx0
      generalize v / 256 ^ i = u at *
      go_wp2
      go_roundg g
      case measure => omega
      case rel => exact ⟨i + 1, by have := HIG.out; omega, by rw [← HPS.out], by go_num, HST.out, HSB.out⟩
end Go.Proofs.YtoglmemmdolbmaaDoor

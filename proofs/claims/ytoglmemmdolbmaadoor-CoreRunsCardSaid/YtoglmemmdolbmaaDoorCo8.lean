/-
  A step of a Cpu over a memory, for a caller. Condition: the tables lie as the program's text lays them; a memory lies in blocks of its own.
-/
import Derived.Test.YtoglmemmdolbmaaDoorCo6
namespace Go.Proofs.YtoglmemmdolbmaaDoor
section
open Go.RowKit
set_option linter.unusedVariables false
set_option linter.unusedSimpArgs false
attribute [local go_sem] Oper.semAt_some
attribute [local go_sem] run_store_complex
attribute [local irreducible] floatOfInt wz

set_option maxHeartbeats 4000000 in
theorem set11_blk {W : World} {g : Nat} {t : TypeId} {u0 u1 u2 u3 u4 u5 u6 u7 u8 u9 u10 : Value} (h : Blk W g t #[u0, u1, u2, u3, u4, u5, u6, u7, u8, u9, u10]) (v0 v1 v2 v3 v4 v5 v6 v7 v8 v9 v10 : Value) :
    Blk (((((((((((W.setCell ⟨g, 0, none⟩ v0).setCell ⟨g, 1, none⟩ v1).setCell ⟨g, 2, none⟩ v2).setCell ⟨g, 3, none⟩ v3).setCell ⟨g, 4, none⟩ v4).setCell ⟨g, 5, none⟩ v5).setCell ⟨g, 6, none⟩ v6).setCell ⟨g, 7, none⟩ v7).setCell ⟨g, 8, none⟩ v8).setCell ⟨g, 9, none⟩ v9).setCell ⟨g, 10, none⟩ v10) g t #[v0, v1, v2, v3, v4, v5, v6, v7, v8, v9, v10] := by
  have := ((((((((((h.set_ 0 v0).set_ 1 v1).set_ 2 v2).set_ 3 v3).set_ 4 v4).set_ 5 v5).set_ 6 v6).set_ 7 v7).set_ 8 v8).set_ 9 v9).set_ 10 v10
  simpa using this
theorem set11_but {S : Nat → Prop} {g : Nat} {w W : World} (h : But S w W) (hb : S g ∨ w.heap.size ≤ g) (v0 v1 v2 v3 v4 v5 v6 v7 v8 v9 v10 : Value) :
    But S w (((((((((((W.setCell ⟨g, 0, none⟩ v0).setCell ⟨g, 1, none⟩ v1).setCell ⟨g, 2, none⟩ v2).setCell ⟨g, 3, none⟩ v3).setCell ⟨g, 4, none⟩ v4).setCell ⟨g, 5, none⟩ v5).setCell ⟨g, 6, none⟩ v6).setCell ⟨g, 7, none⟩ v7).setCell ⟨g, 8, none⟩ v8).setCell ⟨g, 9, none⟩ v9).setCell ⟨g, 10, none⟩ v10) :=
  ((((((((((h.setCell (p := ⟨g, 0, none⟩) hb v0).setCell (p := ⟨g, 1, none⟩) hb v1).setCell (p := ⟨g, 2, none⟩) hb v2).setCell (p := ⟨g, 3, none⟩) hb v3).setCell (p := ⟨g, 4, none⟩) hb v4).setCell (p := ⟨g, 5, none⟩) hb v5).setCell (p := ⟨g, 6, none⟩) hb v6).setCell (p := ⟨g, 7, none⟩) hb v7).setCell (p := ⟨g, 8, none⟩) hb v8).setCell (p := ⟨g, 9, none⟩) hb v9).setCell (p := ⟨g, 10, none⟩) hb v10
def c0A : Array Value := #[.int .u32 0, .int .u32 0, .int .u32 0, .int .u32 0, .int .u32 0, .int .u32 0, .int .u32 0, .int .u32 0, .complex .f64 0 0, .complex .f64 0 0, .int .u32 0]
/-- What an instruction does. -/
noncomputable def execP (c : Cp) (m : List Int) (op : Int) (a b : Nat) (im : Int) : Cp × Int × List Int :=
  if op = 24 then (c, 1, m)
  else if op = 15 then (if atP c b im % 4 = 0 then match wordM m (atP c b im) with
    | some v => ((c.setR a v).setPc (nextP c), 0, m)
    | none => (c, 2, m) else (c, 2, m))
  else if op = 16 then (if atP c b im % 4 = 0 ∧ atP c b im + 4 ≤ m.length then (c.setPc (nextP c), 0, set4 m (atP c b im) (c.r a)) else (c, 2, m))
  else if op = 17 then (if atP c b im < m.length then ((c.setR a (m.getD (atP c b im) 0)).setPc (nextP c), 0, m) else (c, 2, m))
  else if op = 18 then (if atP c b im < m.length then (c.setPc (nextP c), 0, m.set (atP c b im) (c.r a % 256)) else (c, 2, m))
  else if 19 ≤ op ∧ op ≤ 23 then ((jumpP c op a im).2.setPc (jumpP c op a im).1, 0, m)
  else if 25 ≤ op then ((wholeP c op a b).setPc (nextP c), 0, m)
  else match countP op im (c.r a) (c.r b) with
    | some v => ((c.setR a v).setPc (nextP c), 0, m)
    | none => (c.setPc (nextP c), 0, m)
/-- A step's outcome. -/
def StepOut (w : World) (g : Nat) (A : Option Addr) (B cap : Nat) (r : Cp × Int × List Int) (e : Ending) (w' : World) : Prop :=
  e = .returned (.tuple #[.agg r.1.arr, .int .i64 r.2.1]) ∧ RamAt w' g A B cap r.2.2 ∧ But (fun k => k = B) w w'
theorem row11 {w : World} {g : Nat} {t : TypeId} {u0 u1 u2 u3 u4 u5 u6 u7 u8 u9 u10 : Value} (h : Blk w g t #[u0, u1, u2, u3, u4, u5, u6, u7, u8, u9, u10]) : w.cell? ⟨g, 0, none⟩ = some u0 ∧ w.cell? ⟨g, 1, none⟩ = some u1 ∧ w.cell? ⟨g, 2, none⟩ = some u2 ∧ w.cell? ⟨g, 3, none⟩ = some u3 ∧ w.cell? ⟨g, 4, none⟩ = some u4 ∧ w.cell? ⟨g, 5, none⟩ = some u5 ∧ w.cell? ⟨g, 6, none⟩ = some u6 ∧ w.cell? ⟨g, 7, none⟩ = some u7 ∧ w.cell? ⟨g, 8, none⟩ = some u8 ∧ w.cell? ⟨g, 9, none⟩ = some u9 ∧ w.cell? ⟨g, 10, none⟩ = some u10 ∧ g < w.heap.size :=
  ⟨h.cell 0, h.cell 1, h.cell 2, h.cell 3, h.cell 4, h.cell 5, h.cell 6, h.cell 7, h.cell 8, h.cell 9, h.cell 10, h.lt⟩
theorem jump_pc (c : Cp) (op : Int) (a : Nat) (im : Int) : (jumpP c op a im).2.pc = c.pc := by
  unfold jumpP
  split
  · rfl
  · split
    · rfl
    · split <;> rfl
theorem whole_pc (c : Cp) (op : Int) (a b : Nat) : (wholeP c op a b).pc = c.pc := by
  unfold wholeP
  split
  · rfl
  · split
    · rfl
    · split
      · rfl
      · split <;> rfl
/-- What fields an instruction on Gaussian registers may have. -/
def WholeOk (op : Int) (a b : Nat) : Prop := ((op = 25 ∨ op = 26) ∧ a < 2 ∧ b < 7) ∨ ((op = 27 ∨ op = 28) ∧ a < 2 ∧ b < 2) ∨ (op = 29 ∧ a < 2)
theorem whole_any {w : World} {gc g : Nat} {A : Option Addr} {B cap : Nat} {c : Cp} {m : List Int} (hC : CpAt w gc c) (hM : RamAt w g A B cap m) (hcg : gc ≠ g) (hcB : gc ≠ B) (hc : c.Ok) (imm : Int) (op : Int) (a b : Nat) (h : WholeOk op a b) :
    Calls Tryd.prog 35 #[.agg #[.int .i64 op, .int .i64 (a : Int), .int .i64 (b : Int), .int .i64 imm], .pointer (some ⟨gc, 0, none⟩)] w fun e w' => e = .returned (.tuple #[]) ∧ Moved w w' gc g A B cap (wholeP c op a b) m := by
  rcases h with ⟨rfl | rfl, ha, hb⟩ | ⟨rfl | rfl, ha, hb⟩ | ⟨rfl, ha⟩
  · exact zset_any hC hM hcg hcB hc imm a b ha hb
  · exact zget_any hC hM hcg hcB hc imm a b ha hb
  · exact zadd_any hC hM hcg hcB hc imm a b ha hb
  · exact zmul_any hC hM hcg hcB hc imm a b ha hb
  · exact conj_any hC hM hcg hcB hc imm a b ha
theorem moved_regN {w W : World} {gc g : Nat} {A : Option Addr} {B cap : Nat} {c : Cp} {m : List Int} (hC : CpAt W gc c) (hM : RamAt W g A B cap m) (hB : Below w.heap.size w W) (hcg : gc ≠ g) (hcB : gc ≠ B) {a : Nat} (ha : a < 8) (v : Int) : Moved w (W.setCell ⟨gc, a, none⟩ (.int .u32 v)) gc g A B cap (c.setR a v) m := by
  have hbut := But.setCell (S := fun k => k = gc) (But.refl _ W) (p := ⟨gc, a, none⟩) (.inl rfl) (.int .u32 v)
  refine ⟨?_, hM.but hbut (fun h => hcg h.symm) (fun h => hcB h.symm), (But.of_below hB).setCell (S := SM gc B) (p := ⟨gc, a, none⟩) (.inl (.inl rfl)) _⟩
  have h := hC.set_ a (.int .u32 v)
  rw [arr_setR c ha v] at h
  exact h

set_option maxRecDepth 100000 in
set_option maxHeartbeats 16000000 in
theorem step_trap {w : World} (hL : I.Laid w) {g : Nat} {A : Option Addr} {B cap : Nat} {c : Cp} {m : List Int} (hM : RamAt w g A B cap m) (hc : c.Ok) (a b : Nat) (im : Int) (x : I.Ins) (t : Int) (hf : fetchP c m = (x, t)) (ht : t ≠ 0) :
    Calls Tryd.prog 15 #[.agg c.arr, .iface 31 (.pointer (some ⟨g, 0, none⟩))] w (StepOut w g A B cap ((c, t, m))) := by
  obtain ⟨xo, xa, xb, xi⟩ := x
  have HF := Lib.hid (fun W (hW : Below w.heap.size w W) => show Calls Tryd.prog 29 #[.agg c.arr, .iface 31 (.pointer (some ⟨g, 0, none⟩))] W fun e w' => e = .returned (.tuple #[.agg #[.int .i64 xo, .int .i64 xa, .int .i64 xb, .int .i64 xi], .int .i64 t]) ∧ Below W.heap.size W w' from by
    have h := fetch_any (hL.below hW) (hM.below hW) c hc
    rw [hf] at h
    exact h)
  have htb : (t != 0) = true := by simpa using ht
  have hb0 := bl_new (bl_new (Below.refl w.heap.size w) (.cells c.arr 28)) (.cells c0A 28)
  have hX := (Blk.new w 28 c.arr).alloc (.cells c0A 28)
  have hR := Blk.new (w.alloc (.cells c.arr 28)) 28 c0A
  rw [World.size_alloc] at hR
  have HM := Lib.hid hM
  have HB0 := Lib.hid hb0
  have HX0 := Lib.hid hX
  have HR0 := Lib.hid hR
  obtain ⟨x0, x1, x2, x3, x4, x5, x6, x7, x8, x9, x10, xlt⟩ := cp_all hX
  clear hb0 hX hR hL hM hc hf
  unfold c0A at *
  go_enter Tryd.func15, Tryd.ntmps15
  go_wp2_with fail
  refine (HF.out _ HB0.out).mono ?_
  rintro e W1 ⟨rfl, hb1⟩
  have HX1 := Lib.hid (HX0.out.below hb1 HX0.out.lt)
  have HR1 := Lib.hid (HR0.out.below hb1 HR0.out.lt)
  have HB1 := Lib.hid (bl_step HB0.out hb1)
  clear x0 x1 x2 x3 x4 x5 x6 x7 x8 x9 x10 xlt hb1 HX0 HR0 HB0 HF
  obtain ⟨x0, x1, x2, x3, x4, x5, x6, x7, x8, x9, x10, xlt⟩ := cp_all HX1.out
  obtain ⟨r0, r1, r2, r3, r4, r5, r6, r7, r8, r9, r10, rlt⟩ := row11 (HR1.out)
  have rf0 := (HR1.out).frozen 0
  have rf1 := (HR1.out).frozen 1
  have rf2 := (HR1.out).frozen 2
  have rf3 := (HR1.out).frozen 3
  have rf4 := (HR1.out).frozen 4
  have rf5 := (HR1.out).frozen 5
  have rf6 := (HR1.out).frozen 6
  have rf7 := (HR1.out).frozen 7
  have rf8 := (HR1.out).frozen 8
  have rf9 := (HR1.out).frozen 9
  have rf10 := (HR1.out).frozen 10
  go_wp2
  have hbt := set11_but (S := fun _ => False) (g := w.heap.size + 1) (But.of_below HB1.out) (.inr (by omega)) (.int .u32 (c.r 0)) (.int .u32 (c.r 1)) (.int .u32 (c.r 2)) (.int .u32 (c.r 3)) (.int .u32 (c.r 4)) (.int .u32 (c.r 5)) (.int .u32 (c.r 6)) (.int .u32 (c.r 7)) (.complex .f64 (c.z 0).1 (c.z 0).2) (.complex .f64 (c.z 1).1 (c.z 1).2) (.int .u32 c.pc)
  exact bodyPost_ret (results_row_tmp Tryd.results15 _ rfl ((set11_blk HR1.out (.int .u32 (c.r 0)) (.int .u32 (c.r 1)) (.int .u32 (c.r 2)) (.int .u32 (c.r 3)) (.int .u32 (c.r 4)) (.int .u32 (c.r 5)) (.int .u32 (c.r 6)) (.int .u32 (c.r 7)) (.complex .f64 (c.z 0).1 (c.z 0).2) (.complex .f64 (c.z 1).1 (c.z 1).2) (.int .u32 c.pc)).alloc _) Tryd.underlying28 rfl (by kernel_rfl)) rfl ⟨rfl, HM.out.but (hbt.alloc _) (fun h => h) (fun h => h), (hbt.alloc _).mono (fun _ h => h.elim)⟩

set_option maxRecDepth 100000 in
set_option maxHeartbeats 16000000 in
theorem step_count {w : World} (hL : I.Laid w) {g : Nat} {A : Option Addr} {B cap : Nat} {c : Cp} {m : List Int} (hM : RamAt w g A B cap m) (hc : c.Ok) (a b : Nat) (im : Int) (op : Int) (hf : fetchP c m = (⟨op, (a : Int), (b : Int), im⟩, 0)) (hp0 : 0 ≤ op) (hp1 : op ≤ 14) (v : Int) (hcp : countP op im (c.r a) (c.r b) = some v) (ha : a < 8) (hb : b < 8) (hi : -32768 ≤ im ∧ im ≤ 32767) (hBw : B < w.heap.size) :
    Calls Tryd.prog 15 #[.agg c.arr, .iface 31 (.pointer (some ⟨g, 0, none⟩))] w (StepOut w g A B cap (execP c m op a b im)) := by
  have hp : execP c m op a b im = ((c.setR a v).setPc (nextP c), 0, m) := by
    unfold execP
    rw [if_neg (by omega), if_neg (by omega), if_neg (by omega), if_neg (by omega), if_neg (by omega), if_neg (by omega), if_neg (by omega), hcp]
  have HP := Lib.hid hp
  clear hp
  have ho1 : ¬ op = 24 := by omega
  have ho2 : ¬ (15 : Int) ≤ op := by omega
  have ho3 : ¬ (19 : Int) ≤ op := by omega
  have ho4 : ¬ (25 : Int) ≤ op := by omega
  have HF := Lib.hid (fun W (hW : Below w.heap.size w W) => show Calls Tryd.prog 29 #[.agg c.arr, .iface 31 (.pointer (some ⟨g, 0, none⟩))] W fun e w' => e = .returned (.tuple #[.agg #[.int .i64 op, .int .i64 (a : Int), .int .i64 (b : Int), .int .i64 im], .int .i64 0]) ∧ Below W.heap.size W w' from by
    have h := fetch_any (hL.below hW) (hM.below hW) c hc
    rw [hf] at h
    exact h)
  have hb0 := bl_new (bl_new (Below.refl w.heap.size w) (.cells c.arr 28)) (.cells c0A 28)
  have hX := (Blk.new w 28 c.arr).alloc (.cells c0A 28)
  have hR := Blk.new (w.alloc (.cells c.arr 28)) 28 c0A
  rw [World.size_alloc] at hR
  have HM := Lib.hid hM
  have HC := Lib.hid hc
  have HB0 := Lib.hid hb0
  have HX0 := Lib.hid hX
  have HR0 := Lib.hid hR
  obtain ⟨x0, x1, x2, x3, x4, x5, x6, x7, x8, x9, x10, xlt⟩ := cp_all hX
  clear hb0 hX hR hL hM hc hf
  unfold c0A at *
  go_enter Tryd.func15, Tryd.ntmps15
  go_wp2_with fail
  refine (HF.out _ HB0.out).mono ?_
  rintro e W1 ⟨rfl, hb1⟩
  have HX1 := Lib.hid (HX0.out.below hb1 HX0.out.lt)
  have HR1 := Lib.hid (HR0.out.below hb1 HR0.out.lt)
  have HB1 := Lib.hid (bl_step HB0.out hb1)
  clear x0 x1 x2 x3 x4 x5 x6 x7 x8 x9 x10 xlt hb1 HX0 HR0 HB0 HF
  obtain ⟨x0, x1, x2, x3, x4, x5, x6, x7, x8, x9, x10, xlt⟩ := cp_all HX1.out
  go_wp2_with fail
  have HC3 := Lib.hid (show CpAt ((W1.alloc (.cells #[.int .i64 op, .int .i64 (a : Int), .int .i64 (b : Int), .int .i64 im] 38)).alloc (.cells c.arr 28)) (W1.heap.size + 1) c from by
    have h := Blk.new (W1.alloc (.cells #[.int .i64 op, .int .i64 (a : Int), .int .i64 (b : Int), .int .i64 im] 38)) 28 c.arr
    rw [World.size_alloc] at h
    exact h)
  have HB3 := Lib.hid (bl_new (bl_new HB1.out (.cells #[.int .i64 op, .int .i64 (a : Int), .int .i64 (b : Int), .int .i64 im] 38)) (.cells c.arr 28))
  have HX3 := Lib.hid ((HX1.out.alloc (.cells #[.int .i64 op, .int .i64 (a : Int), .int .i64 (b : Int), .int .i64 im] 38)).alloc (.cells c.arr 28))
  have HR3 := Lib.hid ((HR1.out.alloc (.cells #[.int .i64 op, .int .i64 (a : Int), .int .i64 (b : Int), .int .i64 im] 38)).alloc (.cells c.arr 28))
  have HI3 := Lib.hid (show Blk ((W1.alloc (.cells #[.int .i64 op, .int .i64 (a : Int), .int .i64 (b : Int), .int .i64 im] 38)).alloc (.cells c.arr 28)) W1.heap.size 38 #[.int .i64 op, .int .i64 (a : Int), .int .i64 (b : Int), .int .i64 im] from (Blk.new W1 _ _).alloc _)
  have HG3 := Lib.hid (show w.heap.size + 1 < W1.heap.size from HR1.out.lt)
  have hgw := HM.out.p.lt
  have HM3 := Lib.hid (HM.out.below HB3.out)
  clear x0 x1 x2 x3 x4 x5 x6 x7 x8 x9 x10 xlt HX1 HR1
  rw [show (Obj.cells #[.int .u32 (c.r 0), .int .u32 (c.r 1), .int .u32 (c.r 2), .int .u32 (c.r 3), .int .u32 (c.r 4), .int .u32 (c.r 5), .int .u32 (c.r 6), .int .u32 (c.r 7), .complex .f64 (c.z 0).1 (c.z 0).2, .complex .f64 (c.z 1).1 (c.z 1).2, .int .u32 c.pc] 28) = Obj.cells c.arr 28 from rfl]
  generalize hgn : W1.heap.size + 1 = gn at *
  have HGI := Lib.hid (show W1.heap.size ≠ gn ∧ W1.heap.size < gn from by omega)
  generalize hgi : W1.heap.size = gi at *
  have HN1 := Lib.hid (show gn ≠ g ∧ gn ≠ B ∧ w.heap.size ≠ gn ∧ w.heap.size + 1 ≠ gn ∧ w.heap.size ≠ B ∧ w.heap.size + 1 ≠ B ∧ w.heap.size ≤ gn from by have := HG3.out; omega)
  generalize (W1.alloc (.cells #[.int .i64 op, .int .i64 (a : Int), .int .i64 (b : Int), .int .i64 im] 38)).alloc (.cells c.arr 28) = W3 at *
  clear hgn hgi hgw HG3 HB1
  have hra := HC.out.r a
  have hrb := HC.out.r b
  have hab : (a : Int) < 8 := by omega
  have hbb : (b : Int) < 8 := by omega
  have HRF := Lib.hid (Below.refl W3.heap.size W3)
  have HCT := Lib.hid (fun W (hW : Below W3.heap.size W3 W) => show Calls Tryd.prog 36 #[.agg #[.int .i64 op, .int .i64 (a : Int), .int .i64 (b : Int), .int .i64 im], .int .u32 (c.r a), .int .u32 (c.r b)] W fun e w' => e = .returned (.tuple #[.int .u32 v, .bool true]) ∧ Below W3.heap.size W3 w' from
    (count_any (w := W) op (a : Int) (b : Int) im (c.r a) (c.r b) hp0 hp1 hi hra hrb).mono fun e w' h => ⟨by rw [h.1, hcp]; rfl, bl_step hW h.2⟩)
  clear hcp
  refine wp_region_held_drew (S := (fun W => W.cell? ⟨gi, 0, none⟩ = some (.int .i64 op) ∧ W.cell? ⟨gi, 1, none⟩ = some (.int .i64 (a : Int)) ∧ W.cell? ⟨gi, 2, none⟩ = some (.int .i64 (b : Int)) ∧ W.cell? ⟨gi, 3, none⟩ = some (.int .i64 im) ∧ W.cell? ⟨w.heap.size, a, none⟩ = some (.int .u32 (c.r a)) ∧ W.cell? ⟨w.heap.size, b, none⟩ = some (.int .u32 (c.r b)))) (by kernel_rfl) (⟨(ccells (HI3.out.below HRF.out.drew HI3.out.lt)).1, (ccells (HI3.out.below HRF.out.drew HI3.out.lt)).2.1, (ccells (HI3.out.below HRF.out.drew HI3.out.lt)).2.2.1, (ccells (HI3.out.below HRF.out.drew HI3.out.lt)).2.2.2.1, cp_reg (HX3.out.below HRF.out.drew HX3.out.lt) ha, cp_reg (HX3.out.below HRF.out.drew HX3.out.lt) hb⟩) (fun hS => ?_)
  refine wpAnyH_take (i := 0) (v := ?_) rfl (by kernel_rfl) (by kernel_rfl) (by kernel_rfl) (fun _ _ _ h => h) (Or.inl ⟨by kernel_rfl, ?_⟩) hS ?_
  rotate_left 1
  · rintro w ⟨h1, h2, h3, h4, h5, h6⟩
    go_simp
    all_goals with_reducible rfl
  refine wpAnyH_take (i := 1) (v := ?_) rfl (by kernel_rfl) (by kernel_rfl) (by kernel_rfl) (fun _ _ _ h => h) (Or.inl ⟨by kernel_rfl, ?_⟩) hS ?_
  rotate_left 1
  · rintro w ⟨h1, h2, h3, h4, h5, h6⟩
    go_simp
    all_goals with_reducible rfl
  refine wpAnyH_take (i := 2) (v := ?_) rfl (by kernel_rfl) (by kernel_rfl) (by kernel_rfl) (fun _ _ _ h => h) (Or.inl ⟨by kernel_rfl, ?_⟩) hS ?_
  rotate_left 1
  · rintro w ⟨h1, h2, h3, h4, h5, h6⟩
    go_simp
    all_goals with_reducible rfl
  refine wpAnyH_take (i := 3) (v := ?_) rfl (by kernel_rfl) (by kernel_rfl) (by kernel_rfl) (fun _ _ _ h => h) (Or.inl ⟨by kernel_rfl, ?_⟩) hS ?_
  rotate_left 1
  · rintro w ⟨h1, h2, h3, h4, h5, h6⟩
    go_simp
    all_goals with_reducible rfl
  refine wpAnyH_take (i := 4) (v := ?_) rfl (by kernel_rfl) (by kernel_rfl) (by kernel_rfl) (fun _ _ _ h => h) (Or.inl ⟨by kernel_rfl, ?_⟩) hS ?_
  rotate_left 1
  · rintro w ⟨h1, h2, h3, h4, h5, h6⟩
    go_simp
    all_goals with_reducible rfl
  refine wpAnyH_take (i := 5) (v := ?_) rfl (by kernel_rfl) (by kernel_rfl) (by kernel_rfl) (fun _ _ _ h => h) (Or.inl ⟨by kernel_rfl, ?_⟩) hS ?_
  rotate_left 1
  · rintro w ⟨h1, h2, h3, h4, h5, h6⟩
    go_simp
    all_goals with_reducible rfl
  refine wpAnyH_take (i := 6) (v := ?_) rfl (by kernel_rfl) (by kernel_rfl) (by kernel_rfl) (fun _ _ _ h => h) (Or.inl ⟨by kernel_rfl, ?_⟩) hS ?_
  rotate_left 1
  · rintro w ⟨h1, h2, h3, h4, h5, h6⟩
    go_simp
    all_goals with_reducible rfl
  refine wpAnyH_take (i := 7) (v := ?_) rfl (by kernel_rfl) (by kernel_rfl) (by kernel_rfl) (fun _ _ _ h => h) (Or.inl ⟨by kernel_rfl, ?_⟩) hS ?_
  rotate_left 1
  · rintro w ⟨h1, h2, h3, h4, h5, h6⟩
    go_simp
    all_goals with_reducible rfl
  refine wpAnyH_take (i := 8) (v := ?_) rfl (by kernel_rfl) (by kernel_rfl) (by kernel_rfl) (fun _ _ _ h => h) (Or.inl ⟨by kernel_rfl, ?_⟩) hS ?_
  rotate_left 1
  · rintro w ⟨h1, h2, h3, h4, h5, h6⟩
    go_simp
    all_goals with_reducible rfl
  refine wpAnyH_take (i := 9) (v := ?_) rfl (by kernel_rfl) (by kernel_rfl) (by kernel_rfl) (fun _ _ _ h => h) (Or.inl ⟨by kernel_rfl, ?_⟩) hS ?_
  rotate_left 1
  · rintro w ⟨h1, h2, h3, h4, h5, h6⟩
    go_simp
    all_goals with_reducible rfl
  refine wpAnyH_take (i := 10) (v := ?_) rfl (by kernel_rfl) (by kernel_rfl) (by kernel_rfl) (fun _ _ _ h => h) (Or.inl ⟨by kernel_rfl, ?_⟩) hS ?_
  rotate_left 1
  · rintro w ⟨h1, h2, h3, h4, h5, h6⟩
    go_simp
    all_goals with_reducible rfl
  refine wpAnyH_ready (rs := [11]) (by kernel_rfl) (by simp) ?_
  refine AllReadyH.cons rfl (fun K hK => ?_) AllReadyH.nil
  go_simp
  refine (HCT.out _ HRF.out.drew).mono ?_
  rintro e V0 ⟨rfl, hbv⟩
  refine hK.out _ _ (⟨(ccells (HI3.out.below hbv HI3.out.lt)).1, (ccells (HI3.out.below hbv HI3.out.lt)).2.1, (ccells (HI3.out.below hbv HI3.out.lt)).2.2.1, (ccells (HI3.out.below hbv HI3.out.lt)).2.2.2.1, cp_reg (HX3.out.below hbv HX3.out.lt) ha, cp_reg (HX3.out.below hbv HX3.out.lt) hb⟩) (fun hS => ?_)
  clear hK K
  refine wpAnyH_take (i := 12) (v := ?_) rfl (by kernel_rfl) (by kernel_rfl) (by kernel_rfl) (fun _ _ _ h => h) (Or.inl ⟨by kernel_rfl, ?_⟩) hS ?_
  rotate_left 1
  · rintro w ⟨h1, h2, h3, h4, h5, h6⟩
    go_simp
    all_goals with_reducible rfl
  refine wpAnyH_take (i := 13) (v := ?_) rfl (by kernel_rfl) (by kernel_rfl) (by kernel_rfl) (fun _ _ _ h => h) (Or.inl ⟨by kernel_rfl, ?_⟩) hS ?_
  rotate_left 1
  · rintro w ⟨h1, h2, h3, h4, h5, h6⟩
    go_simp
    all_goals with_reducible rfl
  refine wpAnyH_take (i := 14) (v := ?_) rfl (by kernel_rfl) (by kernel_rfl) (by kernel_rfl) (fun _ _ _ h => h) (Or.inl ⟨by kernel_rfl, ?_⟩) hS ?_
  rotate_left 1
  · rintro w ⟨h1, h2, h3, h4, h5, h6⟩
    go_simp
    all_goals with_reducible rfl
  refine wpAnyH_take (i := 15) (v := ?_) rfl (by kernel_rfl) (by kernel_rfl) (by kernel_rfl) (fun _ _ _ h => h) (Or.inl ⟨by kernel_rfl, ?_⟩) hS ?_
  rotate_left 1
  · rintro w ⟨h1, h2, h3, h4, h5, h6⟩
    go_simp
    all_goals with_reducible rfl
  refine wpAnyH_take (i := 16) (v := ?_) rfl (by kernel_rfl) (by kernel_rfl) (by kernel_rfl) (fun _ _ _ h => h) (Or.inl ⟨by kernel_rfl, ?_⟩) hS ?_
  rotate_left 1
  · rintro w ⟨h1, h2, h3, h4, h5, h6⟩
    go_simp
    all_goals with_reducible rfl
  refine wpAnyH_done (by kernel_rfl) ?_ _
  have hmv1 := moved_below HC3.out HM3.out hbv
  have hV := hmv1
  have HC9 := Lib.hid (HC3.out.below hbv HC3.out.lt)
  have HM9 := Lib.hid (HM3.out.below hbv)
  obtain ⟨i0, i1, i2, i3, ilt⟩ := ccells (HI3.out.below hbv HI3.out.lt)
  have hca := cp_reg HC9.out ha
  have hcf := cp_fz HC9.out a
  have hcl := HC9.out.lt
  clear hV
  go_upto_region 18 with (fail)
  have hmv0 := moved_regN HC9.out HM9.out hbv HN1.out.1 HN1.out.2.1 ha v
  generalize V0.setCell ⟨gn, a, none⟩ (.int .u32 v) = V at *
  have hmv := hmv0
  have HMV := Lib.hid hmv
  have hpq : (c.setR a v).pc = c.pc := rfl
  obtain ⟨cq, hcq⟩ : ∃ cq, c.setR a v = cq := ⟨_, rfl⟩
  rw [hcq] at hpq HMV
  have HCQ := Lib.hid hcq
  have HPQ := Lib.hid hpq
  have HRV := Lib.hid (HR3.out.but HMV.out.b (fun h => by rcases h with h | h; exact HN1.out.2.2.2.1 h; exact HN1.out.2.2.2.2.2.1 h))
  obtain ⟨x0, x1, x2, x3, x4, x5, x6, x7, x8, x9, x10, xlt⟩ := cp_all HMV.out.c
  have xf10 := HMV.out.c.frozen 10
  rw [hpq] at x10
  obtain ⟨r0, r1, r2, r3, r4, r5, r6, r7, r8, r9, r10, rlt⟩ := row11 (HRV.out)
  have rf0 := (HRV.out).frozen 0
  have rf1 := (HRV.out).frozen 1
  have rf2 := (HRV.out).frozen 2
  have rf3 := (HRV.out).frozen 3
  have rf4 := (HRV.out).frozen 4
  have rf5 := (HRV.out).frozen 5
  have rf6 := (HRV.out).frozen 6
  have rf7 := (HRV.out).frozen 7
  have rf8 := (HRV.out).frozen 8
  have rf9 := (HRV.out).frozen 9
  have rf10 := (HRV.out).frozen 10
  clear hmv hpq hcq
  have hne := HN1.out.2.2.2.1
  have hne2 := HN1.out.2.2.2.1.symm
  go_wp2
  have HRW := HRV.out.far (p := ⟨gn, 10, none⟩) HN1.out.2.2.2.1 (.int .u32 ((c.pc + 4) % 4294967296))
  have hbt0 := But.setCell (S := fun k => k = B) ((But.of_below (S := fun k => k = B) HB3.out).trans HMV.out.b (fun i h => by rcases h with h | h; exact .inr (by rw [h]; exact HN1.out.2.2.2.2.2.2); exact .inl h)) (p := ⟨gn, 10, none⟩) (.inr HN1.out.2.2.2.2.2.2) (.int .u32 ((c.pc + 4) % 4294967296))
  have hbt := set11_but (S := fun k => k = B) (g := w.heap.size + 1) hbt0 (.inr (by omega)) (.int .u32 (cq.r 0)) (.int .u32 (cq.r 1)) (.int .u32 (cq.r 2)) (.int .u32 (cq.r 3)) (.int .u32 (cq.r 4)) (.int .u32 (cq.r 5)) (.int .u32 (cq.r 6)) (.int .u32 (cq.r 7)) (.complex .f64 (cq.z 0).1 (cq.z 0).2) (.complex .f64 (cq.z 1).1 (cq.z 1).2) (.int .u32 ((c.pc + 4) % 4294967296))
  have hbm := set11_but (S := fun k => k = gn ∨ k = w.heap.size + 1) (g := w.heap.size + 1) (But.setCell (S := fun k => k = gn ∨ k = w.heap.size + 1) (But.refl _ V) (p := ⟨gn, 10, none⟩) (.inl (.inl rfl)) (.int .u32 ((c.pc + 4) % 4294967296))) (.inl (.inr rfl)) (.int .u32 (cq.r 0)) (.int .u32 (cq.r 1)) (.int .u32 (cq.r 2)) (.int .u32 (cq.r 3)) (.int .u32 (cq.r 4)) (.int .u32 (cq.r 5)) (.int .u32 (cq.r 6)) (.int .u32 (cq.r 7)) (.complex .f64 (cq.z 0).1 (cq.z 0).2) (.complex .f64 (cq.z 1).1 (cq.z 1).2) (.int .u32 ((c.pc + 4) % 4294967296))
  have hgw := HM.out.p.lt
  refine bodyPost_ret (results_row_tmp Tryd.results15 _ rfl (set11_blk HRW (.int .u32 (cq.r 0)) (.int .u32 (cq.r 1)) (.int .u32 (cq.r 2)) (.int .u32 (cq.r 3)) (.int .u32 (cq.r 4)) (.int .u32 (cq.r 5)) (.int .u32 (cq.r 6)) (.int .u32 (cq.r 7)) (.complex .f64 (cq.z 0).1 (cq.z 0).2) (.complex .f64 (cq.z 1).1 (cq.z 1).2) (.int .u32 ((c.pc + 4) % 4294967296))) Tryd.underlying28 rfl (by kernel_rfl)) rfl ?_
  rw [HP.out, HCQ.out]
  exact ⟨rfl, HMV.out.m.but hbm (fun h => by rcases h with h | h; exact HN1.out.1 h.symm; omega) (fun h => by rcases h with h | h; exact HN1.out.2.1 h.symm; exact HN1.out.2.2.2.2.2.1 h.symm), hbt⟩

set_option maxRecDepth 100000 in
set_option maxHeartbeats 16000000 in
theorem step_none {w : World} (hL : I.Laid w) {g : Nat} {A : Option Addr} {B cap : Nat} {c : Cp} {m : List Int} (hM : RamAt w g A B cap m) (hc : c.Ok) (a b : Nat) (im : Int) (op : Int) (hf : fetchP c m = (⟨op, (a : Int), (b : Int), im⟩, 0)) (hp0 : 0 ≤ op) (hp1 : op ≤ 14) (hcp : countP op im (c.r a) (c.r b) = none) (ha : a < 8) (hb : b < 8) (hi : -32768 ≤ im ∧ im ≤ 32767) (hBw : B < w.heap.size) :
    Calls Tryd.prog 15 #[.agg c.arr, .iface 31 (.pointer (some ⟨g, 0, none⟩))] w (StepOut w g A B cap (execP c m op a b im)) := by
  have hp : execP c m op a b im = (c.setPc (nextP c), 0, m) := by
    unfold execP
    rw [if_neg (by omega), if_neg (by omega), if_neg (by omega), if_neg (by omega), if_neg (by omega), if_neg (by omega), if_neg (by omega), hcp]
  have HP := Lib.hid hp
  clear hp
  have ho1 : ¬ op = 24 := by omega
  have ho2 : ¬ (15 : Int) ≤ op := by omega
  have ho3 : ¬ (19 : Int) ≤ op := by omega
  have ho4 : ¬ (25 : Int) ≤ op := by omega
  have HF := Lib.hid (fun W (hW : Below w.heap.size w W) => show Calls Tryd.prog 29 #[.agg c.arr, .iface 31 (.pointer (some ⟨g, 0, none⟩))] W fun e w' => e = .returned (.tuple #[.agg #[.int .i64 op, .int .i64 (a : Int), .int .i64 (b : Int), .int .i64 im], .int .i64 0]) ∧ Below W.heap.size W w' from by
    have h := fetch_any (hL.below hW) (hM.below hW) c hc
    rw [hf] at h
    exact h)
  have hb0 := bl_new (bl_new (Below.refl w.heap.size w) (.cells c.arr 28)) (.cells c0A 28)
  have hX := (Blk.new w 28 c.arr).alloc (.cells c0A 28)
  have hR := Blk.new (w.alloc (.cells c.arr 28)) 28 c0A
  rw [World.size_alloc] at hR
  have HM := Lib.hid hM
  have HC := Lib.hid hc
  have HB0 := Lib.hid hb0
  have HX0 := Lib.hid hX
  have HR0 := Lib.hid hR
  obtain ⟨x0, x1, x2, x3, x4, x5, x6, x7, x8, x9, x10, xlt⟩ := cp_all hX
  clear hb0 hX hR hL hM hc hf
  unfold c0A at *
  go_enter Tryd.func15, Tryd.ntmps15
  go_wp2_with fail
  refine (HF.out _ HB0.out).mono ?_
  rintro e W1 ⟨rfl, hb1⟩
  have HX1 := Lib.hid (HX0.out.below hb1 HX0.out.lt)
  have HR1 := Lib.hid (HR0.out.below hb1 HR0.out.lt)
  have HB1 := Lib.hid (bl_step HB0.out hb1)
  clear x0 x1 x2 x3 x4 x5 x6 x7 x8 x9 x10 xlt hb1 HX0 HR0 HB0 HF
  obtain ⟨x0, x1, x2, x3, x4, x5, x6, x7, x8, x9, x10, xlt⟩ := cp_all HX1.out
  go_wp2_with fail
  have HC3 := Lib.hid (show CpAt ((W1.alloc (.cells #[.int .i64 op, .int .i64 (a : Int), .int .i64 (b : Int), .int .i64 im] 38)).alloc (.cells c.arr 28)) (W1.heap.size + 1) c from by
    have h := Blk.new (W1.alloc (.cells #[.int .i64 op, .int .i64 (a : Int), .int .i64 (b : Int), .int .i64 im] 38)) 28 c.arr
    rw [World.size_alloc] at h
    exact h)
  have HB3 := Lib.hid (bl_new (bl_new HB1.out (.cells #[.int .i64 op, .int .i64 (a : Int), .int .i64 (b : Int), .int .i64 im] 38)) (.cells c.arr 28))
  have HX3 := Lib.hid ((HX1.out.alloc (.cells #[.int .i64 op, .int .i64 (a : Int), .int .i64 (b : Int), .int .i64 im] 38)).alloc (.cells c.arr 28))
  have HR3 := Lib.hid ((HR1.out.alloc (.cells #[.int .i64 op, .int .i64 (a : Int), .int .i64 (b : Int), .int .i64 im] 38)).alloc (.cells c.arr 28))
  have HI3 := Lib.hid (show Blk ((W1.alloc (.cells #[.int .i64 op, .int .i64 (a : Int), .int .i64 (b : Int), .int .i64 im] 38)).alloc (.cells c.arr 28)) W1.heap.size 38 #[.int .i64 op, .int .i64 (a : Int), .int .i64 (b : Int), .int .i64 im] from (Blk.new W1 _ _).alloc _)
  have HG3 := Lib.hid (show w.heap.size + 1 < W1.heap.size from HR1.out.lt)
  have hgw := HM.out.p.lt
  have HM3 := Lib.hid (HM.out.below HB3.out)
  clear x0 x1 x2 x3 x4 x5 x6 x7 x8 x9 x10 xlt HX1 HR1
  rw [show (Obj.cells #[.int .u32 (c.r 0), .int .u32 (c.r 1), .int .u32 (c.r 2), .int .u32 (c.r 3), .int .u32 (c.r 4), .int .u32 (c.r 5), .int .u32 (c.r 6), .int .u32 (c.r 7), .complex .f64 (c.z 0).1 (c.z 0).2, .complex .f64 (c.z 1).1 (c.z 1).2, .int .u32 c.pc] 28) = Obj.cells c.arr 28 from rfl]
  generalize hgn : W1.heap.size + 1 = gn at *
  have HGI := Lib.hid (show W1.heap.size ≠ gn ∧ W1.heap.size < gn from by omega)
  generalize hgi : W1.heap.size = gi at *
  have HN1 := Lib.hid (show gn ≠ g ∧ gn ≠ B ∧ w.heap.size ≠ gn ∧ w.heap.size + 1 ≠ gn ∧ w.heap.size ≠ B ∧ w.heap.size + 1 ≠ B ∧ w.heap.size ≤ gn from by have := HG3.out; omega)
  generalize (W1.alloc (.cells #[.int .i64 op, .int .i64 (a : Int), .int .i64 (b : Int), .int .i64 im] 38)).alloc (.cells c.arr 28) = W3 at *
  clear hgn hgi hgw HG3 HB1
  have hra := HC.out.r a
  have hrb := HC.out.r b
  have hab : (a : Int) < 8 := by omega
  have hbb : (b : Int) < 8 := by omega
  have HRF := Lib.hid (Below.refl W3.heap.size W3)
  have HCT := Lib.hid (fun W (hW : Below W3.heap.size W3 W) => show Calls Tryd.prog 36 #[.agg #[.int .i64 op, .int .i64 (a : Int), .int .i64 (b : Int), .int .i64 im], .int .u32 (c.r a), .int .u32 (c.r b)] W fun e w' => e = .returned (.tuple #[.int .u32 0, .bool false]) ∧ Below W3.heap.size W3 w' from
    (count_any (w := W) op (a : Int) (b : Int) im (c.r a) (c.r b) hp0 hp1 hi hra hrb).mono fun e w' h => ⟨by rw [h.1, hcp]; rfl, bl_step hW h.2⟩)
  clear hcp
  refine wp_region_held_drew (S := (fun W => W.cell? ⟨gi, 0, none⟩ = some (.int .i64 op) ∧ W.cell? ⟨gi, 1, none⟩ = some (.int .i64 (a : Int)) ∧ W.cell? ⟨gi, 2, none⟩ = some (.int .i64 (b : Int)) ∧ W.cell? ⟨gi, 3, none⟩ = some (.int .i64 im) ∧ W.cell? ⟨w.heap.size, a, none⟩ = some (.int .u32 (c.r a)) ∧ W.cell? ⟨w.heap.size, b, none⟩ = some (.int .u32 (c.r b)))) (by kernel_rfl) (⟨(ccells (HI3.out.below HRF.out.drew HI3.out.lt)).1, (ccells (HI3.out.below HRF.out.drew HI3.out.lt)).2.1, (ccells (HI3.out.below HRF.out.drew HI3.out.lt)).2.2.1, (ccells (HI3.out.below HRF.out.drew HI3.out.lt)).2.2.2.1, cp_reg (HX3.out.below HRF.out.drew HX3.out.lt) ha, cp_reg (HX3.out.below HRF.out.drew HX3.out.lt) hb⟩) (fun hS => ?_)
  refine wpAnyH_take (i := 0) (v := ?_) rfl (by kernel_rfl) (by kernel_rfl) (by kernel_rfl) (fun _ _ _ h => h) (Or.inl ⟨by kernel_rfl, ?_⟩) hS ?_
  rotate_left 1
  · rintro w ⟨h1, h2, h3, h4, h5, h6⟩
    go_simp
    all_goals with_reducible rfl
  refine wpAnyH_take (i := 1) (v := ?_) rfl (by kernel_rfl) (by kernel_rfl) (by kernel_rfl) (fun _ _ _ h => h) (Or.inl ⟨by kernel_rfl, ?_⟩) hS ?_
  rotate_left 1
  · rintro w ⟨h1, h2, h3, h4, h5, h6⟩
    go_simp
    all_goals with_reducible rfl
  refine wpAnyH_take (i := 2) (v := ?_) rfl (by kernel_rfl) (by kernel_rfl) (by kernel_rfl) (fun _ _ _ h => h) (Or.inl ⟨by kernel_rfl, ?_⟩) hS ?_
  rotate_left 1
  · rintro w ⟨h1, h2, h3, h4, h5, h6⟩
    go_simp
    all_goals with_reducible rfl
  refine wpAnyH_take (i := 3) (v := ?_) rfl (by kernel_rfl) (by kernel_rfl) (by kernel_rfl) (fun _ _ _ h => h) (Or.inl ⟨by kernel_rfl, ?_⟩) hS ?_
  rotate_left 1
  · rintro w ⟨h1, h2, h3, h4, h5, h6⟩
    go_simp
    all_goals with_reducible rfl
  refine wpAnyH_take (i := 4) (v := ?_) rfl (by kernel_rfl) (by kernel_rfl) (by kernel_rfl) (fun _ _ _ h => h) (Or.inl ⟨by kernel_rfl, ?_⟩) hS ?_
  rotate_left 1
  · rintro w ⟨h1, h2, h3, h4, h5, h6⟩
    go_simp
    all_goals with_reducible rfl
  refine wpAnyH_take (i := 5) (v := ?_) rfl (by kernel_rfl) (by kernel_rfl) (by kernel_rfl) (fun _ _ _ h => h) (Or.inl ⟨by kernel_rfl, ?_⟩) hS ?_
  rotate_left 1
  · rintro w ⟨h1, h2, h3, h4, h5, h6⟩
    go_simp
    all_goals with_reducible rfl
  refine wpAnyH_take (i := 6) (v := ?_) rfl (by kernel_rfl) (by kernel_rfl) (by kernel_rfl) (fun _ _ _ h => h) (Or.inl ⟨by kernel_rfl, ?_⟩) hS ?_
  rotate_left 1
  · rintro w ⟨h1, h2, h3, h4, h5, h6⟩
    go_simp
    all_goals with_reducible rfl
  refine wpAnyH_take (i := 7) (v := ?_) rfl (by kernel_rfl) (by kernel_rfl) (by kernel_rfl) (fun _ _ _ h => h) (Or.inl ⟨by kernel_rfl, ?_⟩) hS ?_
  rotate_left 1
  · rintro w ⟨h1, h2, h3, h4, h5, h6⟩
    go_simp
    all_goals with_reducible rfl
  refine wpAnyH_take (i := 8) (v := ?_) rfl (by kernel_rfl) (by kernel_rfl) (by kernel_rfl) (fun _ _ _ h => h) (Or.inl ⟨by kernel_rfl, ?_⟩) hS ?_
  rotate_left 1
  · rintro w ⟨h1, h2, h3, h4, h5, h6⟩
    go_simp
    all_goals with_reducible rfl
  refine wpAnyH_take (i := 9) (v := ?_) rfl (by kernel_rfl) (by kernel_rfl) (by kernel_rfl) (fun _ _ _ h => h) (Or.inl ⟨by kernel_rfl, ?_⟩) hS ?_
  rotate_left 1
  · rintro w ⟨h1, h2, h3, h4, h5, h6⟩
    go_simp
    all_goals with_reducible rfl
  refine wpAnyH_take (i := 10) (v := ?_) rfl (by kernel_rfl) (by kernel_rfl) (by kernel_rfl) (fun _ _ _ h => h) (Or.inl ⟨by kernel_rfl, ?_⟩) hS ?_
  rotate_left 1
  · rintro w ⟨h1, h2, h3, h4, h5, h6⟩
    go_simp
    all_goals with_reducible rfl
  refine wpAnyH_ready (rs := [11]) (by kernel_rfl) (by simp) ?_
  refine AllReadyH.cons rfl (fun K hK => ?_) AllReadyH.nil
  go_simp
  refine (HCT.out _ HRF.out.drew).mono ?_
  rintro e V0 ⟨rfl, hbv⟩
  refine hK.out _ _ (⟨(ccells (HI3.out.below hbv HI3.out.lt)).1, (ccells (HI3.out.below hbv HI3.out.lt)).2.1, (ccells (HI3.out.below hbv HI3.out.lt)).2.2.1, (ccells (HI3.out.below hbv HI3.out.lt)).2.2.2.1, cp_reg (HX3.out.below hbv HX3.out.lt) ha, cp_reg (HX3.out.below hbv HX3.out.lt) hb⟩) (fun hS => ?_)
  clear hK K
  refine wpAnyH_take (i := 12) (v := ?_) rfl (by kernel_rfl) (by kernel_rfl) (by kernel_rfl) (fun _ _ _ h => h) (Or.inl ⟨by kernel_rfl, ?_⟩) hS ?_
  rotate_left 1
  · rintro w ⟨h1, h2, h3, h4, h5, h6⟩
    go_simp
    all_goals with_reducible rfl
  refine wpAnyH_take (i := 13) (v := ?_) rfl (by kernel_rfl) (by kernel_rfl) (by kernel_rfl) (fun _ _ _ h => h) (Or.inl ⟨by kernel_rfl, ?_⟩) hS ?_
  rotate_left 1
  · rintro w ⟨h1, h2, h3, h4, h5, h6⟩
    go_simp
    all_goals with_reducible rfl
  refine wpAnyH_take (i := 14) (v := ?_) rfl (by kernel_rfl) (by kernel_rfl) (by kernel_rfl) (fun _ _ _ h => h) (Or.inl ⟨by kernel_rfl, ?_⟩) hS ?_
  rotate_left 1
  · rintro w ⟨h1, h2, h3, h4, h5, h6⟩
    go_simp
    all_goals with_reducible rfl
  refine wpAnyH_take (i := 15) (v := ?_) rfl (by kernel_rfl) (by kernel_rfl) (by kernel_rfl) (fun _ _ _ h => h) (Or.inl ⟨by kernel_rfl, ?_⟩) hS ?_
  rotate_left 1
  · rintro w ⟨h1, h2, h3, h4, h5, h6⟩
    go_simp
    all_goals with_reducible rfl
  refine wpAnyH_take (i := 16) (v := ?_) rfl (by kernel_rfl) (by kernel_rfl) (by kernel_rfl) (fun _ _ _ h => h) (Or.inl ⟨by kernel_rfl, ?_⟩) hS ?_
  rotate_left 1
  · rintro w ⟨h1, h2, h3, h4, h5, h6⟩
    go_simp
    all_goals with_reducible rfl
  refine wpAnyH_done (by kernel_rfl) ?_ _
  have hmv1 := moved_below HC3.out HM3.out hbv
  generalize V0 = V at *
  have hmv := hmv1
  have HMV := Lib.hid hmv
  have hpq : (c).pc = c.pc := rfl
  have HPQ := Lib.hid hpq
  have HRV := Lib.hid (HR3.out.but HMV.out.b (fun h => by rcases h with h | h; exact HN1.out.2.2.2.1 h; exact HN1.out.2.2.2.2.2.1 h))
  obtain ⟨x0, x1, x2, x3, x4, x5, x6, x7, x8, x9, x10, xlt⟩ := cp_all HMV.out.c
  have xf10 := HMV.out.c.frozen 10
  rw [hpq] at x10
  obtain ⟨r0, r1, r2, r3, r4, r5, r6, r7, r8, r9, r10, rlt⟩ := row11 (HRV.out)
  have rf0 := (HRV.out).frozen 0
  have rf1 := (HRV.out).frozen 1
  have rf2 := (HRV.out).frozen 2
  have rf3 := (HRV.out).frozen 3
  have rf4 := (HRV.out).frozen 4
  have rf5 := (HRV.out).frozen 5
  have rf6 := (HRV.out).frozen 6
  have rf7 := (HRV.out).frozen 7
  have rf8 := (HRV.out).frozen 8
  have rf9 := (HRV.out).frozen 9
  have rf10 := (HRV.out).frozen 10
  clear hmv hpq
  have hne := HN1.out.2.2.2.1
  have hne2 := HN1.out.2.2.2.1.symm
  go_wp2
  have HRW := HRV.out.far (p := ⟨gn, 10, none⟩) HN1.out.2.2.2.1 (.int .u32 ((c.pc + 4) % 4294967296))
  have hbt0 := But.setCell (S := fun k => k = B) ((But.of_below (S := fun k => k = B) HB3.out).trans HMV.out.b (fun i h => by rcases h with h | h; exact .inr (by rw [h]; exact HN1.out.2.2.2.2.2.2); exact .inl h)) (p := ⟨gn, 10, none⟩) (.inr HN1.out.2.2.2.2.2.2) (.int .u32 ((c.pc + 4) % 4294967296))
  have hbt := set11_but (S := fun k => k = B) (g := w.heap.size + 1) hbt0 (.inr (by omega)) (.int .u32 (c.r 0)) (.int .u32 (c.r 1)) (.int .u32 (c.r 2)) (.int .u32 (c.r 3)) (.int .u32 (c.r 4)) (.int .u32 (c.r 5)) (.int .u32 (c.r 6)) (.int .u32 (c.r 7)) (.complex .f64 (c.z 0).1 (c.z 0).2) (.complex .f64 (c.z 1).1 (c.z 1).2) (.int .u32 ((c.pc + 4) % 4294967296))
  have hbm := set11_but (S := fun k => k = gn ∨ k = w.heap.size + 1) (g := w.heap.size + 1) (But.setCell (S := fun k => k = gn ∨ k = w.heap.size + 1) (But.refl _ V) (p := ⟨gn, 10, none⟩) (.inl (.inl rfl)) (.int .u32 ((c.pc + 4) % 4294967296))) (.inl (.inr rfl)) (.int .u32 (c.r 0)) (.int .u32 (c.r 1)) (.int .u32 (c.r 2)) (.int .u32 (c.r 3)) (.int .u32 (c.r 4)) (.int .u32 (c.r 5)) (.int .u32 (c.r 6)) (.int .u32 (c.r 7)) (.complex .f64 (c.z 0).1 (c.z 0).2) (.complex .f64 (c.z 1).1 (c.z 1).2) (.int .u32 ((c.pc + 4) % 4294967296))
  have hgw := HM.out.p.lt
  refine bodyPost_ret (results_row_tmp Tryd.results15 _ rfl (set11_blk HRW (.int .u32 (c.r 0)) (.int .u32 (c.r 1)) (.int .u32 (c.r 2)) (.int .u32 (c.r 3)) (.int .u32 (c.r 4)) (.int .u32 (c.r 5)) (.int .u32 (c.r 6)) (.int .u32 (c.r 7)) (.complex .f64 (c.z 0).1 (c.z 0).2) (.complex .f64 (c.z 1).1 (c.z 1).2) (.int .u32 ((c.pc + 4) % 4294967296))) Tryd.underlying28 rfl (by kernel_rfl)) rfl ?_
  rw [HP.out]
  exact ⟨rfl, HMV.out.m.but hbm (fun h => by rcases h with h | h; exact HN1.out.1 h.symm; omega) (fun h => by rcases h with h | h; exact HN1.out.2.1 h.symm; exact HN1.out.2.2.2.2.2.1 h.symm), hbt⟩

set_option maxRecDepth 100000 in
set_option maxHeartbeats 16000000 in
theorem step_sys {w : World} (hL : I.Laid w) {g : Nat} {A : Option Addr} {B cap : Nat} {c : Cp} {m : List Int} (hM : RamAt w g A B cap m) (hc : c.Ok) (a b : Nat) (im : Int) (hf : fetchP c m = (⟨24, (a : Int), (b : Int), im⟩, 0)) :
    Calls Tryd.prog 15 #[.agg c.arr, .iface 31 (.pointer (some ⟨g, 0, none⟩))] w (StepOut w g A B cap (execP c m 24 a b im)) := by
  have HF := Lib.hid (fun W (hW : Below w.heap.size w W) => show Calls Tryd.prog 29 #[.agg c.arr, .iface 31 (.pointer (some ⟨g, 0, none⟩))] W fun e w' => e = .returned (.tuple #[.agg #[.int .i64 24, .int .i64 (a : Int), .int .i64 (b : Int), .int .i64 im], .int .i64 0]) ∧ Below W.heap.size W w' from by
    have h := fetch_any (hL.below hW) (hM.below hW) c hc
    rw [hf] at h
    exact h)
  have hb0 := bl_new (bl_new (Below.refl w.heap.size w) (.cells c.arr 28)) (.cells c0A 28)
  have hX := (Blk.new w 28 c.arr).alloc (.cells c0A 28)
  have hR := Blk.new (w.alloc (.cells c.arr 28)) 28 c0A
  rw [World.size_alloc] at hR
  have HM := Lib.hid hM
  have HC := Lib.hid hc
  have HB0 := Lib.hid hb0
  have HX0 := Lib.hid hX
  have HR0 := Lib.hid hR
  obtain ⟨x0, x1, x2, x3, x4, x5, x6, x7, x8, x9, x10, xlt⟩ := cp_all hX
  clear hb0 hX hR hL hM hc hf
  unfold c0A at *
  go_enter Tryd.func15, Tryd.ntmps15
  go_wp2_with fail
  refine (HF.out _ HB0.out).mono ?_
  rintro e W1 ⟨rfl, hb1⟩
  have HX1 := Lib.hid (HX0.out.below hb1 HX0.out.lt)
  have HR1 := Lib.hid (HR0.out.below hb1 HR0.out.lt)
  have HB1 := Lib.hid (bl_step HB0.out hb1)
  clear x0 x1 x2 x3 x4 x5 x6 x7 x8 x9 x10 xlt hb1 HX0 HR0 HB0 HF
  obtain ⟨x0, x1, x2, x3, x4, x5, x6, x7, x8, x9, x10, xlt⟩ := cp_all HX1.out
  obtain ⟨r0, r1, r2, r3, r4, r5, r6, r7, r8, r9, r10, rlt⟩ := row11 (HR1.out)
  have rf0 := (HR1.out).frozen 0
  have rf1 := (HR1.out).frozen 1
  have rf2 := (HR1.out).frozen 2
  have rf3 := (HR1.out).frozen 3
  have rf4 := (HR1.out).frozen 4
  have rf5 := (HR1.out).frozen 5
  have rf6 := (HR1.out).frozen 6
  have rf7 := (HR1.out).frozen 7
  have rf8 := (HR1.out).frozen 8
  have rf9 := (HR1.out).frozen 9
  have rf10 := (HR1.out).frozen 10
  have hp : execP c m 24 a b im = (c, 1, m) := by unfold execP; simp
  rw [hp]
  clear hp
  go_wp2
  have hbt := set11_but (S := fun _ => False) (g := w.heap.size + 1) (But.of_below HB1.out) (.inr (by omega)) (.int .u32 (c.r 0)) (.int .u32 (c.r 1)) (.int .u32 (c.r 2)) (.int .u32 (c.r 3)) (.int .u32 (c.r 4)) (.int .u32 (c.r 5)) (.int .u32 (c.r 6)) (.int .u32 (c.r 7)) (.complex .f64 (c.z 0).1 (c.z 0).2) (.complex .f64 (c.z 1).1 (c.z 1).2) (.int .u32 c.pc)
  exact bodyPost_ret (results_row_tmp Tryd.results15 _ rfl (((set11_blk HR1.out (.int .u32 (c.r 0)) (.int .u32 (c.r 1)) (.int .u32 (c.r 2)) (.int .u32 (c.r 3)) (.int .u32 (c.r 4)) (.int .u32 (c.r 5)) (.int .u32 (c.r 6)) (.int .u32 (c.r 7)) (.complex .f64 (c.z 0).1 (c.z 0).2) (.complex .f64 (c.z 1).1 (c.z 1).2) (.int .u32 c.pc)).alloc _).alloc _) Tryd.underlying28 rfl (by kernel_rfl)) rfl ⟨rfl, HM.out.but ((hbt.alloc _).alloc _) (fun h => h) (fun h => h), ((hbt.alloc _).alloc _).mono (fun _ h => h.elim)⟩

set_option maxRecDepth 100000 in
set_option maxHeartbeats 16000000 in
theorem step_lw {w : World} (hL : I.Laid w) {g : Nat} {A : Option Addr} {B cap : Nat} {c : Cp} {m : List Int} (hM : RamAt w g A B cap m) (hc : c.Ok) (a b : Nat) (im : Int) (hf : fetchP c m = (⟨15, (a : Int), (b : Int), im⟩, 0)) (ha : a < 8) (hb : b < 8) (hi : -32768 ≤ im ∧ im ≤ 32767) (hBw : B < w.heap.size) :
    Calls Tryd.prog 15 #[.agg c.arr, .iface 31 (.pointer (some ⟨g, 0, none⟩))] w (StepOut w g A B cap (execP c m 15 a b im)) := by
  have HF := Lib.hid (fun W (hW : Below w.heap.size w W) => show Calls Tryd.prog 29 #[.agg c.arr, .iface 31 (.pointer (some ⟨g, 0, none⟩))] W fun e w' => e = .returned (.tuple #[.agg #[.int .i64 15, .int .i64 (a : Int), .int .i64 (b : Int), .int .i64 im], .int .i64 0]) ∧ Below W.heap.size W w' from by
    have h := fetch_any (hL.below hW) (hM.below hW) c hc
    rw [hf] at h
    exact h)
  have hb0 := bl_new (bl_new (Below.refl w.heap.size w) (.cells c.arr 28)) (.cells c0A 28)
  have hX := (Blk.new w 28 c.arr).alloc (.cells c0A 28)
  have hR := Blk.new (w.alloc (.cells c.arr 28)) 28 c0A
  rw [World.size_alloc] at hR
  have HM := Lib.hid hM
  have HC := Lib.hid hc
  have HB0 := Lib.hid hb0
  have HX0 := Lib.hid hX
  have HR0 := Lib.hid hR
  obtain ⟨x0, x1, x2, x3, x4, x5, x6, x7, x8, x9, x10, xlt⟩ := cp_all hX
  clear hb0 hX hR hL hM hc hf
  unfold c0A at *
  go_enter Tryd.func15, Tryd.ntmps15
  go_wp2_with fail
  refine (HF.out _ HB0.out).mono ?_
  rintro e W1 ⟨rfl, hb1⟩
  have HX1 := Lib.hid (HX0.out.below hb1 HX0.out.lt)
  have HR1 := Lib.hid (HR0.out.below hb1 HR0.out.lt)
  have HB1 := Lib.hid (bl_step HB0.out hb1)
  clear x0 x1 x2 x3 x4 x5 x6 x7 x8 x9 x10 xlt hb1 HX0 HR0 HB0 HF
  obtain ⟨x0, x1, x2, x3, x4, x5, x6, x7, x8, x9, x10, xlt⟩ := cp_all HX1.out
  go_wp2_with fail
  have HC3 := Lib.hid (show CpAt ((W1.alloc (.cells #[.int .i64 15, .int .i64 (a : Int), .int .i64 (b : Int), .int .i64 im] 38)).alloc (.cells c.arr 28)) (W1.heap.size + 1) c from by
    have h := Blk.new (W1.alloc (.cells #[.int .i64 15, .int .i64 (a : Int), .int .i64 (b : Int), .int .i64 im] 38)) 28 c.arr
    rw [World.size_alloc] at h
    exact h)
  have HB3 := Lib.hid (bl_new (bl_new HB1.out (.cells #[.int .i64 15, .int .i64 (a : Int), .int .i64 (b : Int), .int .i64 im] 38)) (.cells c.arr 28))
  have HX3 := Lib.hid ((HX1.out.alloc (.cells #[.int .i64 15, .int .i64 (a : Int), .int .i64 (b : Int), .int .i64 im] 38)).alloc (.cells c.arr 28))
  have HR3 := Lib.hid ((HR1.out.alloc (.cells #[.int .i64 15, .int .i64 (a : Int), .int .i64 (b : Int), .int .i64 im] 38)).alloc (.cells c.arr 28))
  have HG3 := Lib.hid (show w.heap.size + 1 < W1.heap.size from HR1.out.lt)
  have hgw := HM.out.p.lt
  have HM3 := Lib.hid (HM.out.below HB3.out)
  clear x0 x1 x2 x3 x4 x5 x6 x7 x8 x9 x10 xlt HX1 HR1
  rw [show (Obj.cells #[.int .u32 (c.r 0), .int .u32 (c.r 1), .int .u32 (c.r 2), .int .u32 (c.r 3), .int .u32 (c.r 4), .int .u32 (c.r 5), .int .u32 (c.r 6), .int .u32 (c.r 7), .complex .f64 (c.z 0).1 (c.z 0).2, .complex .f64 (c.z 1).1 (c.z 1).2, .int .u32 c.pc] 28) = Obj.cells c.arr 28 from rfl]
  generalize hgn : W1.heap.size + 1 = gn at *
  have HN1 := Lib.hid (show gn ≠ g ∧ gn ≠ B ∧ w.heap.size ≠ gn ∧ w.heap.size + 1 ≠ gn ∧ w.heap.size ≠ B ∧ w.heap.size + 1 ≠ B ∧ w.heap.size ≤ gn from by have := HG3.out; omega)
  generalize (W1.alloc (.cells #[.int .i64 15, .int .i64 (a : Int), .int .i64 (b : Int), .int .i64 im] 38)).alloc (.cells c.arr 28) = W3 at *
  clear hgn hgw HG3 HB1
  refine (lw_any HC3.out HM3.out HN1.out.1 HN1.out.2.1 HC.out a b ha hb im hi).mono ?_
  rintro e V (⟨hz, v, hv, rfl, hmv0⟩ | ⟨hno, rfl, hbv⟩)
  · have hp : execP c m 15 a b im = ((c.setR a v).setPc (nextP c), 0, m) := by unfold execP; rw [if_neg (by decide), if_pos rfl, if_pos hz, hv]
    have HP := Lib.hid hp
    clear hp hz hv
    have hmv := hmv0
    have HMV := Lib.hid hmv
    have hpq : (c.setR a v).pc = c.pc := rfl
    obtain ⟨cq, hcq⟩ : ∃ cq, c.setR a v = cq := ⟨_, rfl⟩
    rw [hcq] at hpq HMV
    have HCQ := Lib.hid hcq
    have HPQ := Lib.hid hpq
    have HRV := Lib.hid (HR3.out.but HMV.out.b (fun h => by rcases h with h | h; exact HN1.out.2.2.2.1 h; exact HN1.out.2.2.2.2.2.1 h))
    obtain ⟨x0, x1, x2, x3, x4, x5, x6, x7, x8, x9, x10, xlt⟩ := cp_all HMV.out.c
    have xf10 := HMV.out.c.frozen 10
    rw [hpq] at x10
    obtain ⟨r0, r1, r2, r3, r4, r5, r6, r7, r8, r9, r10, rlt⟩ := row11 (HRV.out)
    have rf0 := (HRV.out).frozen 0
    have rf1 := (HRV.out).frozen 1
    have rf2 := (HRV.out).frozen 2
    have rf3 := (HRV.out).frozen 3
    have rf4 := (HRV.out).frozen 4
    have rf5 := (HRV.out).frozen 5
    have rf6 := (HRV.out).frozen 6
    have rf7 := (HRV.out).frozen 7
    have rf8 := (HRV.out).frozen 8
    have rf9 := (HRV.out).frozen 9
    have rf10 := (HRV.out).frozen 10
    clear hmv hpq hcq
    have hne := HN1.out.2.2.2.1
    have hne2 := HN1.out.2.2.2.1.symm
    go_wp2
    have HRW := HRV.out.far (p := ⟨gn, 10, none⟩) HN1.out.2.2.2.1 (.int .u32 ((c.pc + 4) % 4294967296))
    have hbt0 := But.setCell (S := fun k => k = B) ((But.of_below (S := fun k => k = B) HB3.out).trans HMV.out.b (fun i h => by rcases h with h | h; exact .inr (by rw [h]; exact HN1.out.2.2.2.2.2.2); exact .inl h)) (p := ⟨gn, 10, none⟩) (.inr HN1.out.2.2.2.2.2.2) (.int .u32 ((c.pc + 4) % 4294967296))
    have hbt := set11_but (S := fun k => k = B) (g := w.heap.size + 1) hbt0 (.inr (by omega)) (.int .u32 (cq.r 0)) (.int .u32 (cq.r 1)) (.int .u32 (cq.r 2)) (.int .u32 (cq.r 3)) (.int .u32 (cq.r 4)) (.int .u32 (cq.r 5)) (.int .u32 (cq.r 6)) (.int .u32 (cq.r 7)) (.complex .f64 (cq.z 0).1 (cq.z 0).2) (.complex .f64 (cq.z 1).1 (cq.z 1).2) (.int .u32 ((c.pc + 4) % 4294967296))
    have hbm := set11_but (S := fun k => k = gn ∨ k = w.heap.size + 1) (g := w.heap.size + 1) (But.setCell (S := fun k => k = gn ∨ k = w.heap.size + 1) (But.refl _ V) (p := ⟨gn, 10, none⟩) (.inl (.inl rfl)) (.int .u32 ((c.pc + 4) % 4294967296))) (.inl (.inr rfl)) (.int .u32 (cq.r 0)) (.int .u32 (cq.r 1)) (.int .u32 (cq.r 2)) (.int .u32 (cq.r 3)) (.int .u32 (cq.r 4)) (.int .u32 (cq.r 5)) (.int .u32 (cq.r 6)) (.int .u32 (cq.r 7)) (.complex .f64 (cq.z 0).1 (cq.z 0).2) (.complex .f64 (cq.z 1).1 (cq.z 1).2) (.int .u32 ((c.pc + 4) % 4294967296))
    have hgw := HM.out.p.lt
    refine bodyPost_ret (results_row_tmp Tryd.results15 _ rfl (set11_blk HRW (.int .u32 (cq.r 0)) (.int .u32 (cq.r 1)) (.int .u32 (cq.r 2)) (.int .u32 (cq.r 3)) (.int .u32 (cq.r 4)) (.int .u32 (cq.r 5)) (.int .u32 (cq.r 6)) (.int .u32 (cq.r 7)) (.complex .f64 (cq.z 0).1 (cq.z 0).2) (.complex .f64 (cq.z 1).1 (cq.z 1).2) (.int .u32 ((c.pc + 4) % 4294967296))) Tryd.underlying28 rfl (by kernel_rfl)) rfl ?_
    rw [HP.out, HCQ.out]
    exact ⟨rfl, HMV.out.m.but hbm (fun h => by rcases h with h | h; exact HN1.out.1 h.symm; omega) (fun h => by rcases h with h | h; exact HN1.out.2.1 h.symm; exact HN1.out.2.2.2.2.2.1 h.symm), hbt⟩
  · have hp : execP c m 15 a b im = (c, 2, m) := by
      unfold execP
      rw [if_neg (by decide), if_pos rfl]
      by_cases hz : atP c b im % 4 = 0
      · rcases hno with hno | hno
        · exact absurd hz hno
        · rw [if_pos hz, hno]
      · rw [if_neg hz]
    have HP := Lib.hid hp
    clear hp hno
    have HMV := Lib.hid (moved_below HC3.out HM3.out hbv)
    have HXV := Lib.hid (HX3.out.but HMV.out.b (fun h => by rcases h with h | h; exact HN1.out.2.2.1 h; exact HN1.out.2.2.2.2.1 h))
    have HRV := Lib.hid (HR3.out.but HMV.out.b (fun h => by rcases h with h | h; exact HN1.out.2.2.2.1 h; exact HN1.out.2.2.2.2.2.1 h))
    obtain ⟨x0, x1, x2, x3, x4, x5, x6, x7, x8, x9, x10, xlt⟩ := cp_all HXV.out
    obtain ⟨r0, r1, r2, r3, r4, r5, r6, r7, r8, r9, r10, rlt⟩ := row11 (HRV.out)
    have rf0 := (HRV.out).frozen 0
    have rf1 := (HRV.out).frozen 1
    have rf2 := (HRV.out).frozen 2
    have rf3 := (HRV.out).frozen 3
    have rf4 := (HRV.out).frozen 4
    have rf5 := (HRV.out).frozen 5
    have rf6 := (HRV.out).frozen 6
    have rf7 := (HRV.out).frozen 7
    have rf8 := (HRV.out).frozen 8
    have rf9 := (HRV.out).frozen 9
    have rf10 := (HRV.out).frozen 10
    go_wp2
    have hbt0 := (But.of_below (S := fun k => k = B) HB3.out).trans HMV.out.b (fun i h => by rcases h with h | h; exact .inr (by rw [h]; exact HN1.out.2.2.2.2.2.2); exact .inl h)
    have hbt := set11_but (S := fun k => k = B) (g := w.heap.size + 1) hbt0 (.inr (by omega)) (.int .u32 (c.r 0)) (.int .u32 (c.r 1)) (.int .u32 (c.r 2)) (.int .u32 (c.r 3)) (.int .u32 (c.r 4)) (.int .u32 (c.r 5)) (.int .u32 (c.r 6)) (.int .u32 (c.r 7)) (.complex .f64 (c.z 0).1 (c.z 0).2) (.complex .f64 (c.z 1).1 (c.z 1).2) (.int .u32 c.pc)
    have hbm := set11_but (S := fun k => k = w.heap.size + 1) (g := w.heap.size + 1) (But.refl (fun k => k = w.heap.size + 1) V) (.inl rfl) (.int .u32 (c.r 0)) (.int .u32 (c.r 1)) (.int .u32 (c.r 2)) (.int .u32 (c.r 3)) (.int .u32 (c.r 4)) (.int .u32 (c.r 5)) (.int .u32 (c.r 6)) (.int .u32 (c.r 7)) (.complex .f64 (c.z 0).1 (c.z 0).2) (.complex .f64 (c.z 1).1 (c.z 1).2) (.int .u32 c.pc)
    have hgw := HM.out.p.lt
    refine bodyPost_ret (results_row_tmp Tryd.results15 _ rfl (set11_blk HRV.out (.int .u32 (c.r 0)) (.int .u32 (c.r 1)) (.int .u32 (c.r 2)) (.int .u32 (c.r 3)) (.int .u32 (c.r 4)) (.int .u32 (c.r 5)) (.int .u32 (c.r 6)) (.int .u32 (c.r 7)) (.complex .f64 (c.z 0).1 (c.z 0).2) (.complex .f64 (c.z 1).1 (c.z 1).2) (.int .u32 c.pc)) Tryd.underlying28 rfl (by kernel_rfl)) rfl ?_
    rw [HP.out]
    exact ⟨rfl, HMV.out.m.but hbm (fun h => by omega) (fun h => HN1.out.2.2.2.2.2.1 h.symm), hbt⟩

set_option maxRecDepth 100000 in
set_option maxHeartbeats 16000000 in
theorem step_sw {w : World} (hL : I.Laid w) {g : Nat} {A : Option Addr} {B cap : Nat} {c : Cp} {m : List Int} (hM : RamAt w g A B cap m) (hc : c.Ok) (a b : Nat) (im : Int) (hf : fetchP c m = (⟨16, (a : Int), (b : Int), im⟩, 0)) (ha : a < 8) (hb : b < 8) (hi : -32768 ≤ im ∧ im ≤ 32767) (hBw : B < w.heap.size) :
    Calls Tryd.prog 15 #[.agg c.arr, .iface 31 (.pointer (some ⟨g, 0, none⟩))] w (StepOut w g A B cap (execP c m 16 a b im)) := by
  have HF := Lib.hid (fun W (hW : Below w.heap.size w W) => show Calls Tryd.prog 29 #[.agg c.arr, .iface 31 (.pointer (some ⟨g, 0, none⟩))] W fun e w' => e = .returned (.tuple #[.agg #[.int .i64 16, .int .i64 (a : Int), .int .i64 (b : Int), .int .i64 im], .int .i64 0]) ∧ Below W.heap.size W w' from by
    have h := fetch_any (hL.below hW) (hM.below hW) c hc
    rw [hf] at h
    exact h)
  have hb0 := bl_new (bl_new (Below.refl w.heap.size w) (.cells c.arr 28)) (.cells c0A 28)
  have hX := (Blk.new w 28 c.arr).alloc (.cells c0A 28)
  have hR := Blk.new (w.alloc (.cells c.arr 28)) 28 c0A
  rw [World.size_alloc] at hR
  have HM := Lib.hid hM
  have HC := Lib.hid hc
  have HB0 := Lib.hid hb0
  have HX0 := Lib.hid hX
  have HR0 := Lib.hid hR
  obtain ⟨x0, x1, x2, x3, x4, x5, x6, x7, x8, x9, x10, xlt⟩ := cp_all hX
  clear hb0 hX hR hL hM hc hf
  unfold c0A at *
  go_enter Tryd.func15, Tryd.ntmps15
  go_wp2_with fail
  refine (HF.out _ HB0.out).mono ?_
  rintro e W1 ⟨rfl, hb1⟩
  have HX1 := Lib.hid (HX0.out.below hb1 HX0.out.lt)
  have HR1 := Lib.hid (HR0.out.below hb1 HR0.out.lt)
  have HB1 := Lib.hid (bl_step HB0.out hb1)
  clear x0 x1 x2 x3 x4 x5 x6 x7 x8 x9 x10 xlt hb1 HX0 HR0 HB0 HF
  obtain ⟨x0, x1, x2, x3, x4, x5, x6, x7, x8, x9, x10, xlt⟩ := cp_all HX1.out
  go_wp2_with fail
  have HC3 := Lib.hid (show CpAt ((W1.alloc (.cells #[.int .i64 16, .int .i64 (a : Int), .int .i64 (b : Int), .int .i64 im] 38)).alloc (.cells c.arr 28)) (W1.heap.size + 1) c from by
    have h := Blk.new (W1.alloc (.cells #[.int .i64 16, .int .i64 (a : Int), .int .i64 (b : Int), .int .i64 im] 38)) 28 c.arr
    rw [World.size_alloc] at h
    exact h)
  have HB3 := Lib.hid (bl_new (bl_new HB1.out (.cells #[.int .i64 16, .int .i64 (a : Int), .int .i64 (b : Int), .int .i64 im] 38)) (.cells c.arr 28))
  have HX3 := Lib.hid ((HX1.out.alloc (.cells #[.int .i64 16, .int .i64 (a : Int), .int .i64 (b : Int), .int .i64 im] 38)).alloc (.cells c.arr 28))
  have HR3 := Lib.hid ((HR1.out.alloc (.cells #[.int .i64 16, .int .i64 (a : Int), .int .i64 (b : Int), .int .i64 im] 38)).alloc (.cells c.arr 28))
  have HG3 := Lib.hid (show w.heap.size + 1 < W1.heap.size from HR1.out.lt)
  have hgw := HM.out.p.lt
  have HM3 := Lib.hid (HM.out.below HB3.out)
  clear x0 x1 x2 x3 x4 x5 x6 x7 x8 x9 x10 xlt HX1 HR1
  rw [show (Obj.cells #[.int .u32 (c.r 0), .int .u32 (c.r 1), .int .u32 (c.r 2), .int .u32 (c.r 3), .int .u32 (c.r 4), .int .u32 (c.r 5), .int .u32 (c.r 6), .int .u32 (c.r 7), .complex .f64 (c.z 0).1 (c.z 0).2, .complex .f64 (c.z 1).1 (c.z 1).2, .int .u32 c.pc] 28) = Obj.cells c.arr 28 from rfl]
  generalize hgn : W1.heap.size + 1 = gn at *
  have HN1 := Lib.hid (show gn ≠ g ∧ gn ≠ B ∧ w.heap.size ≠ gn ∧ w.heap.size + 1 ≠ gn ∧ w.heap.size ≠ B ∧ w.heap.size + 1 ≠ B ∧ w.heap.size ≤ gn from by have := HG3.out; omega)
  generalize (W1.alloc (.cells #[.int .i64 16, .int .i64 (a : Int), .int .i64 (b : Int), .int .i64 im] 38)).alloc (.cells c.arr 28) = W3 at *
  clear hgn hgw HG3 HB1
  refine (sw_any HC3.out HM3.out HN1.out.1 HN1.out.2.1 HC.out a b ha hb im hi).mono ?_
  rintro e V (⟨hz, rfl, hmv0⟩ | ⟨hno, rfl, hmv1⟩)
  · have hp : execP c m 16 a b im = (c.setPc (nextP c), 0, set4 m (atP c b im) (c.r a)) := by unfold execP; rw [if_neg (by decide), if_neg (by decide), if_pos rfl, if_pos hz]
    have HP := Lib.hid hp
    clear hp hz
    have hmv := hmv0
    have HMV := Lib.hid hmv
    have hpq : (c).pc = c.pc := rfl
    have HPQ := Lib.hid hpq
    have HRV := Lib.hid (HR3.out.but HMV.out.b (fun h => by rcases h with h | h; exact HN1.out.2.2.2.1 h; exact HN1.out.2.2.2.2.2.1 h))
    obtain ⟨x0, x1, x2, x3, x4, x5, x6, x7, x8, x9, x10, xlt⟩ := cp_all HMV.out.c
    have xf10 := HMV.out.c.frozen 10
    rw [hpq] at x10
    obtain ⟨r0, r1, r2, r3, r4, r5, r6, r7, r8, r9, r10, rlt⟩ := row11 (HRV.out)
    have rf0 := (HRV.out).frozen 0
    have rf1 := (HRV.out).frozen 1
    have rf2 := (HRV.out).frozen 2
    have rf3 := (HRV.out).frozen 3
    have rf4 := (HRV.out).frozen 4
    have rf5 := (HRV.out).frozen 5
    have rf6 := (HRV.out).frozen 6
    have rf7 := (HRV.out).frozen 7
    have rf8 := (HRV.out).frozen 8
    have rf9 := (HRV.out).frozen 9
    have rf10 := (HRV.out).frozen 10
    clear hmv hpq
    have hne := HN1.out.2.2.2.1
    have hne2 := HN1.out.2.2.2.1.symm
    go_wp2
    have HRW := HRV.out.far (p := ⟨gn, 10, none⟩) HN1.out.2.2.2.1 (.int .u32 ((c.pc + 4) % 4294967296))
    have hbt0 := But.setCell (S := fun k => k = B) ((But.of_below (S := fun k => k = B) HB3.out).trans HMV.out.b (fun i h => by rcases h with h | h; exact .inr (by rw [h]; exact HN1.out.2.2.2.2.2.2); exact .inl h)) (p := ⟨gn, 10, none⟩) (.inr HN1.out.2.2.2.2.2.2) (.int .u32 ((c.pc + 4) % 4294967296))
    have hbt := set11_but (S := fun k => k = B) (g := w.heap.size + 1) hbt0 (.inr (by omega)) (.int .u32 (c.r 0)) (.int .u32 (c.r 1)) (.int .u32 (c.r 2)) (.int .u32 (c.r 3)) (.int .u32 (c.r 4)) (.int .u32 (c.r 5)) (.int .u32 (c.r 6)) (.int .u32 (c.r 7)) (.complex .f64 (c.z 0).1 (c.z 0).2) (.complex .f64 (c.z 1).1 (c.z 1).2) (.int .u32 ((c.pc + 4) % 4294967296))
    have hbm := set11_but (S := fun k => k = gn ∨ k = w.heap.size + 1) (g := w.heap.size + 1) (But.setCell (S := fun k => k = gn ∨ k = w.heap.size + 1) (But.refl _ V) (p := ⟨gn, 10, none⟩) (.inl (.inl rfl)) (.int .u32 ((c.pc + 4) % 4294967296))) (.inl (.inr rfl)) (.int .u32 (c.r 0)) (.int .u32 (c.r 1)) (.int .u32 (c.r 2)) (.int .u32 (c.r 3)) (.int .u32 (c.r 4)) (.int .u32 (c.r 5)) (.int .u32 (c.r 6)) (.int .u32 (c.r 7)) (.complex .f64 (c.z 0).1 (c.z 0).2) (.complex .f64 (c.z 1).1 (c.z 1).2) (.int .u32 ((c.pc + 4) % 4294967296))
    have hgw := HM.out.p.lt
    refine bodyPost_ret (results_row_tmp Tryd.results15 _ rfl (set11_blk HRW (.int .u32 (c.r 0)) (.int .u32 (c.r 1)) (.int .u32 (c.r 2)) (.int .u32 (c.r 3)) (.int .u32 (c.r 4)) (.int .u32 (c.r 5)) (.int .u32 (c.r 6)) (.int .u32 (c.r 7)) (.complex .f64 (c.z 0).1 (c.z 0).2) (.complex .f64 (c.z 1).1 (c.z 1).2) (.int .u32 ((c.pc + 4) % 4294967296))) Tryd.underlying28 rfl (by kernel_rfl)) rfl ?_
    rw [HP.out]
    exact ⟨rfl, HMV.out.m.but hbm (fun h => by rcases h with h | h; exact HN1.out.1 h.symm; omega) (fun h => by rcases h with h | h; exact HN1.out.2.1 h.symm; exact HN1.out.2.2.2.2.2.1 h.symm), hbt⟩
  · have hp : execP c m 16 a b im = (c, 2, m) := by unfold execP; rw [if_neg (by decide), if_neg (by decide), if_pos rfl, if_neg hno]
    have HP := Lib.hid hp
    clear hp hno
    have HMV := Lib.hid (hmv1)
    have HXV := Lib.hid (HX3.out.but HMV.out.b (fun h => by rcases h with h | h; exact HN1.out.2.2.1 h; exact HN1.out.2.2.2.2.1 h))
    have HRV := Lib.hid (HR3.out.but HMV.out.b (fun h => by rcases h with h | h; exact HN1.out.2.2.2.1 h; exact HN1.out.2.2.2.2.2.1 h))
    obtain ⟨x0, x1, x2, x3, x4, x5, x6, x7, x8, x9, x10, xlt⟩ := cp_all HXV.out
    obtain ⟨r0, r1, r2, r3, r4, r5, r6, r7, r8, r9, r10, rlt⟩ := row11 (HRV.out)
    have rf0 := (HRV.out).frozen 0
    have rf1 := (HRV.out).frozen 1
    have rf2 := (HRV.out).frozen 2
    have rf3 := (HRV.out).frozen 3
    have rf4 := (HRV.out).frozen 4
    have rf5 := (HRV.out).frozen 5
    have rf6 := (HRV.out).frozen 6
    have rf7 := (HRV.out).frozen 7
    have rf8 := (HRV.out).frozen 8
    have rf9 := (HRV.out).frozen 9
    have rf10 := (HRV.out).frozen 10
    go_wp2
    have hbt0 := (But.of_below (S := fun k => k = B) HB3.out).trans HMV.out.b (fun i h => by rcases h with h | h; exact .inr (by rw [h]; exact HN1.out.2.2.2.2.2.2); exact .inl h)
    have hbt := set11_but (S := fun k => k = B) (g := w.heap.size + 1) hbt0 (.inr (by omega)) (.int .u32 (c.r 0)) (.int .u32 (c.r 1)) (.int .u32 (c.r 2)) (.int .u32 (c.r 3)) (.int .u32 (c.r 4)) (.int .u32 (c.r 5)) (.int .u32 (c.r 6)) (.int .u32 (c.r 7)) (.complex .f64 (c.z 0).1 (c.z 0).2) (.complex .f64 (c.z 1).1 (c.z 1).2) (.int .u32 c.pc)
    have hbm := set11_but (S := fun k => k = w.heap.size + 1) (g := w.heap.size + 1) (But.refl (fun k => k = w.heap.size + 1) V) (.inl rfl) (.int .u32 (c.r 0)) (.int .u32 (c.r 1)) (.int .u32 (c.r 2)) (.int .u32 (c.r 3)) (.int .u32 (c.r 4)) (.int .u32 (c.r 5)) (.int .u32 (c.r 6)) (.int .u32 (c.r 7)) (.complex .f64 (c.z 0).1 (c.z 0).2) (.complex .f64 (c.z 1).1 (c.z 1).2) (.int .u32 c.pc)
    have hgw := HM.out.p.lt
    refine bodyPost_ret (results_row_tmp Tryd.results15 _ rfl (set11_blk HRV.out (.int .u32 (c.r 0)) (.int .u32 (c.r 1)) (.int .u32 (c.r 2)) (.int .u32 (c.r 3)) (.int .u32 (c.r 4)) (.int .u32 (c.r 5)) (.int .u32 (c.r 6)) (.int .u32 (c.r 7)) (.complex .f64 (c.z 0).1 (c.z 0).2) (.complex .f64 (c.z 1).1 (c.z 1).2) (.int .u32 c.pc)) Tryd.underlying28 rfl (by kernel_rfl)) rfl ?_
    rw [HP.out]
    exact ⟨rfl, HMV.out.m.but hbm (fun h => by omega) (fun h => HN1.out.2.2.2.2.2.1 h.symm), hbt⟩

set_option maxRecDepth 100000 in
set_option maxHeartbeats 16000000 in
theorem step_lb {w : World} (hL : I.Laid w) {g : Nat} {A : Option Addr} {B cap : Nat} {c : Cp} {m : List Int} (hM : RamAt w g A B cap m) (hc : c.Ok) (a b : Nat) (im : Int) (hf : fetchP c m = (⟨17, (a : Int), (b : Int), im⟩, 0)) (ha : a < 8) (hb : b < 8) (hi : -32768 ≤ im ∧ im ≤ 32767) (hBw : B < w.heap.size) :
    Calls Tryd.prog 15 #[.agg c.arr, .iface 31 (.pointer (some ⟨g, 0, none⟩))] w (StepOut w g A B cap (execP c m 17 a b im)) := by
  have HF := Lib.hid (fun W (hW : Below w.heap.size w W) => show Calls Tryd.prog 29 #[.agg c.arr, .iface 31 (.pointer (some ⟨g, 0, none⟩))] W fun e w' => e = .returned (.tuple #[.agg #[.int .i64 17, .int .i64 (a : Int), .int .i64 (b : Int), .int .i64 im], .int .i64 0]) ∧ Below W.heap.size W w' from by
    have h := fetch_any (hL.below hW) (hM.below hW) c hc
    rw [hf] at h
    exact h)
  have hb0 := bl_new (bl_new (Below.refl w.heap.size w) (.cells c.arr 28)) (.cells c0A 28)
  have hX := (Blk.new w 28 c.arr).alloc (.cells c0A 28)
  have hR := Blk.new (w.alloc (.cells c.arr 28)) 28 c0A
  rw [World.size_alloc] at hR
  have HM := Lib.hid hM
  have HC := Lib.hid hc
  have HB0 := Lib.hid hb0
  have HX0 := Lib.hid hX
  have HR0 := Lib.hid hR
  obtain ⟨x0, x1, x2, x3, x4, x5, x6, x7, x8, x9, x10, xlt⟩ := cp_all hX
  clear hb0 hX hR hL hM hc hf
  unfold c0A at *
  go_enter Tryd.func15, Tryd.ntmps15
  go_wp2_with fail
  refine (HF.out _ HB0.out).mono ?_
  rintro e W1 ⟨rfl, hb1⟩
  have HX1 := Lib.hid (HX0.out.below hb1 HX0.out.lt)
  have HR1 := Lib.hid (HR0.out.below hb1 HR0.out.lt)
  have HB1 := Lib.hid (bl_step HB0.out hb1)
  clear x0 x1 x2 x3 x4 x5 x6 x7 x8 x9 x10 xlt hb1 HX0 HR0 HB0 HF
  obtain ⟨x0, x1, x2, x3, x4, x5, x6, x7, x8, x9, x10, xlt⟩ := cp_all HX1.out
  go_wp2_with fail
  have HC3 := Lib.hid (show CpAt ((W1.alloc (.cells #[.int .i64 17, .int .i64 (a : Int), .int .i64 (b : Int), .int .i64 im] 38)).alloc (.cells c.arr 28)) (W1.heap.size + 1) c from by
    have h := Blk.new (W1.alloc (.cells #[.int .i64 17, .int .i64 (a : Int), .int .i64 (b : Int), .int .i64 im] 38)) 28 c.arr
    rw [World.size_alloc] at h
    exact h)
  have HB3 := Lib.hid (bl_new (bl_new HB1.out (.cells #[.int .i64 17, .int .i64 (a : Int), .int .i64 (b : Int), .int .i64 im] 38)) (.cells c.arr 28))
  have HX3 := Lib.hid ((HX1.out.alloc (.cells #[.int .i64 17, .int .i64 (a : Int), .int .i64 (b : Int), .int .i64 im] 38)).alloc (.cells c.arr 28))
  have HR3 := Lib.hid ((HR1.out.alloc (.cells #[.int .i64 17, .int .i64 (a : Int), .int .i64 (b : Int), .int .i64 im] 38)).alloc (.cells c.arr 28))
  have HG3 := Lib.hid (show w.heap.size + 1 < W1.heap.size from HR1.out.lt)
  have hgw := HM.out.p.lt
  have HM3 := Lib.hid (HM.out.below HB3.out)
  clear x0 x1 x2 x3 x4 x5 x6 x7 x8 x9 x10 xlt HX1 HR1
  rw [show (Obj.cells #[.int .u32 (c.r 0), .int .u32 (c.r 1), .int .u32 (c.r 2), .int .u32 (c.r 3), .int .u32 (c.r 4), .int .u32 (c.r 5), .int .u32 (c.r 6), .int .u32 (c.r 7), .complex .f64 (c.z 0).1 (c.z 0).2, .complex .f64 (c.z 1).1 (c.z 1).2, .int .u32 c.pc] 28) = Obj.cells c.arr 28 from rfl]
  generalize hgn : W1.heap.size + 1 = gn at *
  have HN1 := Lib.hid (show gn ≠ g ∧ gn ≠ B ∧ w.heap.size ≠ gn ∧ w.heap.size + 1 ≠ gn ∧ w.heap.size ≠ B ∧ w.heap.size + 1 ≠ B ∧ w.heap.size ≤ gn from by have := HG3.out; omega)
  generalize (W1.alloc (.cells #[.int .i64 17, .int .i64 (a : Int), .int .i64 (b : Int), .int .i64 im] 38)).alloc (.cells c.arr 28) = W3 at *
  clear hgn hgw HG3 HB1
  refine (lb_any HC3.out HM3.out HN1.out.1 HN1.out.2.1 HC.out a b ha hb im hi).mono ?_
  rintro e V (⟨hz, rfl, hmv0⟩ | ⟨hno, rfl, hbv⟩)
  · have hp : execP c m 17 a b im = ((c.setR a (m.getD (atP c b im) 0)).setPc (nextP c), 0, m) := by unfold execP; rw [if_neg (by decide), if_neg (by decide), if_neg (by decide), if_pos rfl, if_pos hz]
    have HP := Lib.hid hp
    clear hp hz
    have hmv := hmv0
    have HMV := Lib.hid hmv
    have hpq : (c.setR a (m.getD (atP c b im) 0)).pc = c.pc := rfl
    obtain ⟨cq, hcq⟩ : ∃ cq, c.setR a (m.getD (atP c b im) 0) = cq := ⟨_, rfl⟩
    rw [hcq] at hpq HMV
    have HCQ := Lib.hid hcq
    have HPQ := Lib.hid hpq
    have HRV := Lib.hid (HR3.out.but HMV.out.b (fun h => by rcases h with h | h; exact HN1.out.2.2.2.1 h; exact HN1.out.2.2.2.2.2.1 h))
    obtain ⟨x0, x1, x2, x3, x4, x5, x6, x7, x8, x9, x10, xlt⟩ := cp_all HMV.out.c
    have xf10 := HMV.out.c.frozen 10
    rw [hpq] at x10
    obtain ⟨r0, r1, r2, r3, r4, r5, r6, r7, r8, r9, r10, rlt⟩ := row11 (HRV.out)
    have rf0 := (HRV.out).frozen 0
    have rf1 := (HRV.out).frozen 1
    have rf2 := (HRV.out).frozen 2
    have rf3 := (HRV.out).frozen 3
    have rf4 := (HRV.out).frozen 4
    have rf5 := (HRV.out).frozen 5
    have rf6 := (HRV.out).frozen 6
    have rf7 := (HRV.out).frozen 7
    have rf8 := (HRV.out).frozen 8
    have rf9 := (HRV.out).frozen 9
    have rf10 := (HRV.out).frozen 10
    clear hmv hpq hcq
    have hne := HN1.out.2.2.2.1
    have hne2 := HN1.out.2.2.2.1.symm
    go_wp2
    have HRW := HRV.out.far (p := ⟨gn, 10, none⟩) HN1.out.2.2.2.1 (.int .u32 ((c.pc + 4) % 4294967296))
    have hbt0 := But.setCell (S := fun k => k = B) ((But.of_below (S := fun k => k = B) HB3.out).trans HMV.out.b (fun i h => by rcases h with h | h; exact .inr (by rw [h]; exact HN1.out.2.2.2.2.2.2); exact .inl h)) (p := ⟨gn, 10, none⟩) (.inr HN1.out.2.2.2.2.2.2) (.int .u32 ((c.pc + 4) % 4294967296))
    have hbt := set11_but (S := fun k => k = B) (g := w.heap.size + 1) hbt0 (.inr (by omega)) (.int .u32 (cq.r 0)) (.int .u32 (cq.r 1)) (.int .u32 (cq.r 2)) (.int .u32 (cq.r 3)) (.int .u32 (cq.r 4)) (.int .u32 (cq.r 5)) (.int .u32 (cq.r 6)) (.int .u32 (cq.r 7)) (.complex .f64 (cq.z 0).1 (cq.z 0).2) (.complex .f64 (cq.z 1).1 (cq.z 1).2) (.int .u32 ((c.pc + 4) % 4294967296))
    have hbm := set11_but (S := fun k => k = gn ∨ k = w.heap.size + 1) (g := w.heap.size + 1) (But.setCell (S := fun k => k = gn ∨ k = w.heap.size + 1) (But.refl _ V) (p := ⟨gn, 10, none⟩) (.inl (.inl rfl)) (.int .u32 ((c.pc + 4) % 4294967296))) (.inl (.inr rfl)) (.int .u32 (cq.r 0)) (.int .u32 (cq.r 1)) (.int .u32 (cq.r 2)) (.int .u32 (cq.r 3)) (.int .u32 (cq.r 4)) (.int .u32 (cq.r 5)) (.int .u32 (cq.r 6)) (.int .u32 (cq.r 7)) (.complex .f64 (cq.z 0).1 (cq.z 0).2) (.complex .f64 (cq.z 1).1 (cq.z 1).2) (.int .u32 ((c.pc + 4) % 4294967296))
    have hgw := HM.out.p.lt
    refine bodyPost_ret (results_row_tmp Tryd.results15 _ rfl (set11_blk HRW (.int .u32 (cq.r 0)) (.int .u32 (cq.r 1)) (.int .u32 (cq.r 2)) (.int .u32 (cq.r 3)) (.int .u32 (cq.r 4)) (.int .u32 (cq.r 5)) (.int .u32 (cq.r 6)) (.int .u32 (cq.r 7)) (.complex .f64 (cq.z 0).1 (cq.z 0).2) (.complex .f64 (cq.z 1).1 (cq.z 1).2) (.int .u32 ((c.pc + 4) % 4294967296))) Tryd.underlying28 rfl (by kernel_rfl)) rfl ?_
    rw [HP.out, HCQ.out]
    exact ⟨rfl, HMV.out.m.but hbm (fun h => by rcases h with h | h; exact HN1.out.1 h.symm; omega) (fun h => by rcases h with h | h; exact HN1.out.2.1 h.symm; exact HN1.out.2.2.2.2.2.1 h.symm), hbt⟩
  · have hp : execP c m 17 a b im = (c, 2, m) := by unfold execP; rw [if_neg (by decide), if_neg (by decide), if_neg (by decide), if_pos rfl, if_neg hno]
    have HP := Lib.hid hp
    clear hp hno
    have HMV := Lib.hid (moved_below HC3.out HM3.out hbv)
    have HXV := Lib.hid (HX3.out.but HMV.out.b (fun h => by rcases h with h | h; exact HN1.out.2.2.1 h; exact HN1.out.2.2.2.2.1 h))
    have HRV := Lib.hid (HR3.out.but HMV.out.b (fun h => by rcases h with h | h; exact HN1.out.2.2.2.1 h; exact HN1.out.2.2.2.2.2.1 h))
    obtain ⟨x0, x1, x2, x3, x4, x5, x6, x7, x8, x9, x10, xlt⟩ := cp_all HXV.out
    obtain ⟨r0, r1, r2, r3, r4, r5, r6, r7, r8, r9, r10, rlt⟩ := row11 (HRV.out)
    have rf0 := (HRV.out).frozen 0
    have rf1 := (HRV.out).frozen 1
    have rf2 := (HRV.out).frozen 2
    have rf3 := (HRV.out).frozen 3
    have rf4 := (HRV.out).frozen 4
    have rf5 := (HRV.out).frozen 5
    have rf6 := (HRV.out).frozen 6
    have rf7 := (HRV.out).frozen 7
    have rf8 := (HRV.out).frozen 8
    have rf9 := (HRV.out).frozen 9
    have rf10 := (HRV.out).frozen 10
    go_wp2
    have hbt0 := (But.of_below (S := fun k => k = B) HB3.out).trans HMV.out.b (fun i h => by rcases h with h | h; exact .inr (by rw [h]; exact HN1.out.2.2.2.2.2.2); exact .inl h)
    have hbt := set11_but (S := fun k => k = B) (g := w.heap.size + 1) hbt0 (.inr (by omega)) (.int .u32 (c.r 0)) (.int .u32 (c.r 1)) (.int .u32 (c.r 2)) (.int .u32 (c.r 3)) (.int .u32 (c.r 4)) (.int .u32 (c.r 5)) (.int .u32 (c.r 6)) (.int .u32 (c.r 7)) (.complex .f64 (c.z 0).1 (c.z 0).2) (.complex .f64 (c.z 1).1 (c.z 1).2) (.int .u32 c.pc)
    have hbm := set11_but (S := fun k => k = w.heap.size + 1) (g := w.heap.size + 1) (But.refl (fun k => k = w.heap.size + 1) V) (.inl rfl) (.int .u32 (c.r 0)) (.int .u32 (c.r 1)) (.int .u32 (c.r 2)) (.int .u32 (c.r 3)) (.int .u32 (c.r 4)) (.int .u32 (c.r 5)) (.int .u32 (c.r 6)) (.int .u32 (c.r 7)) (.complex .f64 (c.z 0).1 (c.z 0).2) (.complex .f64 (c.z 1).1 (c.z 1).2) (.int .u32 c.pc)
    have hgw := HM.out.p.lt
    refine bodyPost_ret (results_row_tmp Tryd.results15 _ rfl (set11_blk HRV.out (.int .u32 (c.r 0)) (.int .u32 (c.r 1)) (.int .u32 (c.r 2)) (.int .u32 (c.r 3)) (.int .u32 (c.r 4)) (.int .u32 (c.r 5)) (.int .u32 (c.r 6)) (.int .u32 (c.r 7)) (.complex .f64 (c.z 0).1 (c.z 0).2) (.complex .f64 (c.z 1).1 (c.z 1).2) (.int .u32 c.pc)) Tryd.underlying28 rfl (by kernel_rfl)) rfl ?_
    rw [HP.out]
    exact ⟨rfl, HMV.out.m.but hbm (fun h => by omega) (fun h => HN1.out.2.2.2.2.2.1 h.symm), hbt⟩

set_option maxRecDepth 100000 in
set_option maxHeartbeats 16000000 in
theorem step_sb {w : World} (hL : I.Laid w) {g : Nat} {A : Option Addr} {B cap : Nat} {c : Cp} {m : List Int} (hM : RamAt w g A B cap m) (hc : c.Ok) (a b : Nat) (im : Int) (hf : fetchP c m = (⟨18, (a : Int), (b : Int), im⟩, 0)) (ha : a < 8) (hb : b < 8) (hi : -32768 ≤ im ∧ im ≤ 32767) (hBw : B < w.heap.size) :
    Calls Tryd.prog 15 #[.agg c.arr, .iface 31 (.pointer (some ⟨g, 0, none⟩))] w (StepOut w g A B cap (execP c m 18 a b im)) := by
  have HF := Lib.hid (fun W (hW : Below w.heap.size w W) => show Calls Tryd.prog 29 #[.agg c.arr, .iface 31 (.pointer (some ⟨g, 0, none⟩))] W fun e w' => e = .returned (.tuple #[.agg #[.int .i64 18, .int .i64 (a : Int), .int .i64 (b : Int), .int .i64 im], .int .i64 0]) ∧ Below W.heap.size W w' from by
    have h := fetch_any (hL.below hW) (hM.below hW) c hc
    rw [hf] at h
    exact h)
  have hb0 := bl_new (bl_new (Below.refl w.heap.size w) (.cells c.arr 28)) (.cells c0A 28)
  have hX := (Blk.new w 28 c.arr).alloc (.cells c0A 28)
  have hR := Blk.new (w.alloc (.cells c.arr 28)) 28 c0A
  rw [World.size_alloc] at hR
  have HM := Lib.hid hM
  have HC := Lib.hid hc
  have HB0 := Lib.hid hb0
  have HX0 := Lib.hid hX
  have HR0 := Lib.hid hR
  obtain ⟨x0, x1, x2, x3, x4, x5, x6, x7, x8, x9, x10, xlt⟩ := cp_all hX
  clear hb0 hX hR hL hM hc hf
  unfold c0A at *
  go_enter Tryd.func15, Tryd.ntmps15
  go_wp2_with fail
  refine (HF.out _ HB0.out).mono ?_
  rintro e W1 ⟨rfl, hb1⟩
  have HX1 := Lib.hid (HX0.out.below hb1 HX0.out.lt)
  have HR1 := Lib.hid (HR0.out.below hb1 HR0.out.lt)
  have HB1 := Lib.hid (bl_step HB0.out hb1)
  clear x0 x1 x2 x3 x4 x5 x6 x7 x8 x9 x10 xlt hb1 HX0 HR0 HB0 HF
  obtain ⟨x0, x1, x2, x3, x4, x5, x6, x7, x8, x9, x10, xlt⟩ := cp_all HX1.out
  go_wp2_with fail
  have HC3 := Lib.hid (show CpAt ((W1.alloc (.cells #[.int .i64 18, .int .i64 (a : Int), .int .i64 (b : Int), .int .i64 im] 38)).alloc (.cells c.arr 28)) (W1.heap.size + 1) c from by
    have h := Blk.new (W1.alloc (.cells #[.int .i64 18, .int .i64 (a : Int), .int .i64 (b : Int), .int .i64 im] 38)) 28 c.arr
    rw [World.size_alloc] at h
    exact h)
  have HB3 := Lib.hid (bl_new (bl_new HB1.out (.cells #[.int .i64 18, .int .i64 (a : Int), .int .i64 (b : Int), .int .i64 im] 38)) (.cells c.arr 28))
  have HX3 := Lib.hid ((HX1.out.alloc (.cells #[.int .i64 18, .int .i64 (a : Int), .int .i64 (b : Int), .int .i64 im] 38)).alloc (.cells c.arr 28))
  have HR3 := Lib.hid ((HR1.out.alloc (.cells #[.int .i64 18, .int .i64 (a : Int), .int .i64 (b : Int), .int .i64 im] 38)).alloc (.cells c.arr 28))
  have HG3 := Lib.hid (show w.heap.size + 1 < W1.heap.size from HR1.out.lt)
  have hgw := HM.out.p.lt
  have HM3 := Lib.hid (HM.out.below HB3.out)
  clear x0 x1 x2 x3 x4 x5 x6 x7 x8 x9 x10 xlt HX1 HR1
  rw [show (Obj.cells #[.int .u32 (c.r 0), .int .u32 (c.r 1), .int .u32 (c.r 2), .int .u32 (c.r 3), .int .u32 (c.r 4), .int .u32 (c.r 5), .int .u32 (c.r 6), .int .u32 (c.r 7), .complex .f64 (c.z 0).1 (c.z 0).2, .complex .f64 (c.z 1).1 (c.z 1).2, .int .u32 c.pc] 28) = Obj.cells c.arr 28 from rfl]
  generalize hgn : W1.heap.size + 1 = gn at *
  have HN1 := Lib.hid (show gn ≠ g ∧ gn ≠ B ∧ w.heap.size ≠ gn ∧ w.heap.size + 1 ≠ gn ∧ w.heap.size ≠ B ∧ w.heap.size + 1 ≠ B ∧ w.heap.size ≤ gn from by have := HG3.out; omega)
  generalize (W1.alloc (.cells #[.int .i64 18, .int .i64 (a : Int), .int .i64 (b : Int), .int .i64 im] 38)).alloc (.cells c.arr 28) = W3 at *
  clear hgn hgw HG3 HB1
  refine (sb_any HC3.out HM3.out HN1.out.1 HN1.out.2.1 HC.out a b ha hb im hi).mono ?_
  rintro e V (⟨hz, rfl, hmv0⟩ | ⟨hno, rfl, hmv1⟩)
  · have hp : execP c m 18 a b im = (c.setPc (nextP c), 0, m.set (atP c b im) (c.r a % 256)) := by unfold execP; rw [if_neg (by decide), if_neg (by decide), if_neg (by decide), if_neg (by decide), if_pos rfl, if_pos hz]
    have HP := Lib.hid hp
    clear hp hz
    have hmv := hmv0
    have HMV := Lib.hid hmv
    have hpq : (c).pc = c.pc := rfl
    have HPQ := Lib.hid hpq
    have HRV := Lib.hid (HR3.out.but HMV.out.b (fun h => by rcases h with h | h; exact HN1.out.2.2.2.1 h; exact HN1.out.2.2.2.2.2.1 h))
    obtain ⟨x0, x1, x2, x3, x4, x5, x6, x7, x8, x9, x10, xlt⟩ := cp_all HMV.out.c
    have xf10 := HMV.out.c.frozen 10
    rw [hpq] at x10
    obtain ⟨r0, r1, r2, r3, r4, r5, r6, r7, r8, r9, r10, rlt⟩ := row11 (HRV.out)
    have rf0 := (HRV.out).frozen 0
    have rf1 := (HRV.out).frozen 1
    have rf2 := (HRV.out).frozen 2
    have rf3 := (HRV.out).frozen 3
    have rf4 := (HRV.out).frozen 4
    have rf5 := (HRV.out).frozen 5
    have rf6 := (HRV.out).frozen 6
    have rf7 := (HRV.out).frozen 7
    have rf8 := (HRV.out).frozen 8
    have rf9 := (HRV.out).frozen 9
    have rf10 := (HRV.out).frozen 10
    clear hmv hpq
    have hne := HN1.out.2.2.2.1
    have hne2 := HN1.out.2.2.2.1.symm
    go_wp2
    have HRW := HRV.out.far (p := ⟨gn, 10, none⟩) HN1.out.2.2.2.1 (.int .u32 ((c.pc + 4) % 4294967296))
    have hbt0 := But.setCell (S := fun k => k = B) ((But.of_below (S := fun k => k = B) HB3.out).trans HMV.out.b (fun i h => by rcases h with h | h; exact .inr (by rw [h]; exact HN1.out.2.2.2.2.2.2); exact .inl h)) (p := ⟨gn, 10, none⟩) (.inr HN1.out.2.2.2.2.2.2) (.int .u32 ((c.pc + 4) % 4294967296))
    have hbt := set11_but (S := fun k => k = B) (g := w.heap.size + 1) hbt0 (.inr (by omega)) (.int .u32 (c.r 0)) (.int .u32 (c.r 1)) (.int .u32 (c.r 2)) (.int .u32 (c.r 3)) (.int .u32 (c.r 4)) (.int .u32 (c.r 5)) (.int .u32 (c.r 6)) (.int .u32 (c.r 7)) (.complex .f64 (c.z 0).1 (c.z 0).2) (.complex .f64 (c.z 1).1 (c.z 1).2) (.int .u32 ((c.pc + 4) % 4294967296))
    have hbm := set11_but (S := fun k => k = gn ∨ k = w.heap.size + 1) (g := w.heap.size + 1) (But.setCell (S := fun k => k = gn ∨ k = w.heap.size + 1) (But.refl _ V) (p := ⟨gn, 10, none⟩) (.inl (.inl rfl)) (.int .u32 ((c.pc + 4) % 4294967296))) (.inl (.inr rfl)) (.int .u32 (c.r 0)) (.int .u32 (c.r 1)) (.int .u32 (c.r 2)) (.int .u32 (c.r 3)) (.int .u32 (c.r 4)) (.int .u32 (c.r 5)) (.int .u32 (c.r 6)) (.int .u32 (c.r 7)) (.complex .f64 (c.z 0).1 (c.z 0).2) (.complex .f64 (c.z 1).1 (c.z 1).2) (.int .u32 ((c.pc + 4) % 4294967296))
    have hgw := HM.out.p.lt
    refine bodyPost_ret (results_row_tmp Tryd.results15 _ rfl (set11_blk HRW (.int .u32 (c.r 0)) (.int .u32 (c.r 1)) (.int .u32 (c.r 2)) (.int .u32 (c.r 3)) (.int .u32 (c.r 4)) (.int .u32 (c.r 5)) (.int .u32 (c.r 6)) (.int .u32 (c.r 7)) (.complex .f64 (c.z 0).1 (c.z 0).2) (.complex .f64 (c.z 1).1 (c.z 1).2) (.int .u32 ((c.pc + 4) % 4294967296))) Tryd.underlying28 rfl (by kernel_rfl)) rfl ?_
    rw [HP.out]
    exact ⟨rfl, HMV.out.m.but hbm (fun h => by rcases h with h | h; exact HN1.out.1 h.symm; omega) (fun h => by rcases h with h | h; exact HN1.out.2.1 h.symm; exact HN1.out.2.2.2.2.2.1 h.symm), hbt⟩
  · have hp : execP c m 18 a b im = (c, 2, m) := by unfold execP; rw [if_neg (by decide), if_neg (by decide), if_neg (by decide), if_neg (by decide), if_pos rfl, if_neg hno]
    have HP := Lib.hid hp
    clear hp hno
    have HMV := Lib.hid (hmv1)
    have HXV := Lib.hid (HX3.out.but HMV.out.b (fun h => by rcases h with h | h; exact HN1.out.2.2.1 h; exact HN1.out.2.2.2.2.1 h))
    have HRV := Lib.hid (HR3.out.but HMV.out.b (fun h => by rcases h with h | h; exact HN1.out.2.2.2.1 h; exact HN1.out.2.2.2.2.2.1 h))
    obtain ⟨x0, x1, x2, x3, x4, x5, x6, x7, x8, x9, x10, xlt⟩ := cp_all HXV.out
    obtain ⟨r0, r1, r2, r3, r4, r5, r6, r7, r8, r9, r10, rlt⟩ := row11 (HRV.out)
    have rf0 := (HRV.out).frozen 0
    have rf1 := (HRV.out).frozen 1
    have rf2 := (HRV.out).frozen 2
    have rf3 := (HRV.out).frozen 3
    have rf4 := (HRV.out).frozen 4
    have rf5 := (HRV.out).frozen 5
    have rf6 := (HRV.out).frozen 6
    have rf7 := (HRV.out).frozen 7
    have rf8 := (HRV.out).frozen 8
    have rf9 := (HRV.out).frozen 9
    have rf10 := (HRV.out).frozen 10
    go_wp2
    have hbt0 := (But.of_below (S := fun k => k = B) HB3.out).trans HMV.out.b (fun i h => by rcases h with h | h; exact .inr (by rw [h]; exact HN1.out.2.2.2.2.2.2); exact .inl h)
    have hbt := set11_but (S := fun k => k = B) (g := w.heap.size + 1) hbt0 (.inr (by omega)) (.int .u32 (c.r 0)) (.int .u32 (c.r 1)) (.int .u32 (c.r 2)) (.int .u32 (c.r 3)) (.int .u32 (c.r 4)) (.int .u32 (c.r 5)) (.int .u32 (c.r 6)) (.int .u32 (c.r 7)) (.complex .f64 (c.z 0).1 (c.z 0).2) (.complex .f64 (c.z 1).1 (c.z 1).2) (.int .u32 c.pc)
    have hbm := set11_but (S := fun k => k = w.heap.size + 1) (g := w.heap.size + 1) (But.refl (fun k => k = w.heap.size + 1) V) (.inl rfl) (.int .u32 (c.r 0)) (.int .u32 (c.r 1)) (.int .u32 (c.r 2)) (.int .u32 (c.r 3)) (.int .u32 (c.r 4)) (.int .u32 (c.r 5)) (.int .u32 (c.r 6)) (.int .u32 (c.r 7)) (.complex .f64 (c.z 0).1 (c.z 0).2) (.complex .f64 (c.z 1).1 (c.z 1).2) (.int .u32 c.pc)
    have hgw := HM.out.p.lt
    refine bodyPost_ret (results_row_tmp Tryd.results15 _ rfl (set11_blk HRV.out (.int .u32 (c.r 0)) (.int .u32 (c.r 1)) (.int .u32 (c.r 2)) (.int .u32 (c.r 3)) (.int .u32 (c.r 4)) (.int .u32 (c.r 5)) (.int .u32 (c.r 6)) (.int .u32 (c.r 7)) (.complex .f64 (c.z 0).1 (c.z 0).2) (.complex .f64 (c.z 1).1 (c.z 1).2) (.int .u32 c.pc)) Tryd.underlying28 rfl (by kernel_rfl)) rfl ?_
    rw [HP.out]
    exact ⟨rfl, HMV.out.m.but hbm (fun h => by omega) (fun h => HN1.out.2.2.2.2.2.1 h.symm), hbt⟩

set_option maxRecDepth 100000 in
set_option maxHeartbeats 16000000 in
theorem step_jump {w : World} (hL : I.Laid w) {g : Nat} {A : Option Addr} {B cap : Nat} {c : Cp} {m : List Int} (hM : RamAt w g A B cap m) (hc : c.Ok) (a b : Nat) (im : Int) (op : Int) (hf : fetchP c m = (⟨op, (a : Int), (b : Int), im⟩, 0)) (hp0 : 19 ≤ op) (hp1 : op ≤ 23) (ha : a < 8) (hb : b < 8) (hi : -32768 ≤ im ∧ im ≤ 32767) (hBw : B < w.heap.size) :
    Calls Tryd.prog 15 #[.agg c.arr, .iface 31 (.pointer (some ⟨g, 0, none⟩))] w (StepOut w g A B cap (execP c m op a b im)) := by
  have hp : execP c m op a b im = ((jumpP c op a im).2.setPc (jumpP c op a im).1, 0, m) := by
    unfold execP
    rw [if_neg (by omega), if_neg (by omega), if_neg (by omega), if_neg (by omega), if_neg (by omega), if_pos ⟨hp0, hp1⟩]
  have HP := Lib.hid hp
  clear hp
  have ho1 : ¬ op = 24 := by omega
  have ho2 : (15 : Int) ≤ op := by omega
  have ho3 : ¬ op ≤ 18 := by omega
  have HF := Lib.hid (fun W (hW : Below w.heap.size w W) => show Calls Tryd.prog 29 #[.agg c.arr, .iface 31 (.pointer (some ⟨g, 0, none⟩))] W fun e w' => e = .returned (.tuple #[.agg #[.int .i64 op, .int .i64 (a : Int), .int .i64 (b : Int), .int .i64 im], .int .i64 0]) ∧ Below W.heap.size W w' from by
    have h := fetch_any (hL.below hW) (hM.below hW) c hc
    rw [hf] at h
    exact h)
  have hb0 := bl_new (bl_new (Below.refl w.heap.size w) (.cells c.arr 28)) (.cells c0A 28)
  have hX := (Blk.new w 28 c.arr).alloc (.cells c0A 28)
  have hR := Blk.new (w.alloc (.cells c.arr 28)) 28 c0A
  rw [World.size_alloc] at hR
  have HM := Lib.hid hM
  have HC := Lib.hid hc
  have HB0 := Lib.hid hb0
  have HX0 := Lib.hid hX
  have HR0 := Lib.hid hR
  obtain ⟨x0, x1, x2, x3, x4, x5, x6, x7, x8, x9, x10, xlt⟩ := cp_all hX
  clear hb0 hX hR hL hM hc hf
  unfold c0A at *
  go_enter Tryd.func15, Tryd.ntmps15
  go_wp2_with fail
  refine (HF.out _ HB0.out).mono ?_
  rintro e W1 ⟨rfl, hb1⟩
  have HX1 := Lib.hid (HX0.out.below hb1 HX0.out.lt)
  have HR1 := Lib.hid (HR0.out.below hb1 HR0.out.lt)
  have HB1 := Lib.hid (bl_step HB0.out hb1)
  clear x0 x1 x2 x3 x4 x5 x6 x7 x8 x9 x10 xlt hb1 HX0 HR0 HB0 HF
  obtain ⟨x0, x1, x2, x3, x4, x5, x6, x7, x8, x9, x10, xlt⟩ := cp_all HX1.out
  go_wp2_with fail
  have HC3 := Lib.hid (show CpAt ((W1.alloc (.cells #[.int .i64 op, .int .i64 (a : Int), .int .i64 (b : Int), .int .i64 im] 38)).alloc (.cells c.arr 28)) (W1.heap.size + 1) c from by
    have h := Blk.new (W1.alloc (.cells #[.int .i64 op, .int .i64 (a : Int), .int .i64 (b : Int), .int .i64 im] 38)) 28 c.arr
    rw [World.size_alloc] at h
    exact h)
  have HB3 := Lib.hid (bl_new (bl_new HB1.out (.cells #[.int .i64 op, .int .i64 (a : Int), .int .i64 (b : Int), .int .i64 im] 38)) (.cells c.arr 28))
  have HX3 := Lib.hid ((HX1.out.alloc (.cells #[.int .i64 op, .int .i64 (a : Int), .int .i64 (b : Int), .int .i64 im] 38)).alloc (.cells c.arr 28))
  have HR3 := Lib.hid ((HR1.out.alloc (.cells #[.int .i64 op, .int .i64 (a : Int), .int .i64 (b : Int), .int .i64 im] 38)).alloc (.cells c.arr 28))
  have HG3 := Lib.hid (show w.heap.size + 1 < W1.heap.size from HR1.out.lt)
  have hgw := HM.out.p.lt
  have HM3 := Lib.hid (HM.out.below HB3.out)
  clear x0 x1 x2 x3 x4 x5 x6 x7 x8 x9 x10 xlt HX1 HR1
  rw [show (Obj.cells #[.int .u32 (c.r 0), .int .u32 (c.r 1), .int .u32 (c.r 2), .int .u32 (c.r 3), .int .u32 (c.r 4), .int .u32 (c.r 5), .int .u32 (c.r 6), .int .u32 (c.r 7), .complex .f64 (c.z 0).1 (c.z 0).2, .complex .f64 (c.z 1).1 (c.z 1).2, .int .u32 c.pc] 28) = Obj.cells c.arr 28 from rfl]
  generalize hgn : W1.heap.size + 1 = gn at *
  have HN1 := Lib.hid (show gn ≠ g ∧ gn ≠ B ∧ w.heap.size ≠ gn ∧ w.heap.size + 1 ≠ gn ∧ w.heap.size ≠ B ∧ w.heap.size + 1 ≠ B ∧ w.heap.size ≤ gn from by have := HG3.out; omega)
  generalize (W1.alloc (.cells #[.int .i64 op, .int .i64 (a : Int), .int .i64 (b : Int), .int .i64 im] 38)).alloc (.cells c.arr 28) = W3 at *
  clear hgn hgw HG3 HB1
  refine (jump_any HC3.out HM3.out HN1.out.1 HN1.out.2.1 HC.out op (b : Int) a hp0 hp1 ha im hi).mono ?_
  rintro e V ⟨rfl, hmv0⟩
  obtain ⟨jv, hjv⟩ : ∃ jv, (jumpP c op a im).1 = jv := ⟨_, rfl⟩
  have HJV := Lib.hid hjv
  rw [hjv]
  clear hjv
  have hmv := hmv0
  have HMV := Lib.hid hmv
  have hpq : ((jumpP c op a im).2).pc = c.pc := jump_pc c op a im
  obtain ⟨cq, hcq⟩ : ∃ cq, (jumpP c op a im).2 = cq := ⟨_, rfl⟩
  rw [hcq] at hpq HMV
  have HCQ := Lib.hid hcq
  have HPQ := Lib.hid hpq
  have HRV := Lib.hid (HR3.out.but HMV.out.b (fun h => by rcases h with h | h; exact HN1.out.2.2.2.1 h; exact HN1.out.2.2.2.2.2.1 h))
  obtain ⟨x0, x1, x2, x3, x4, x5, x6, x7, x8, x9, x10, xlt⟩ := cp_all HMV.out.c
  have xf10 := HMV.out.c.frozen 10
  rw [hpq] at x10
  obtain ⟨r0, r1, r2, r3, r4, r5, r6, r7, r8, r9, r10, rlt⟩ := row11 (HRV.out)
  have rf0 := (HRV.out).frozen 0
  have rf1 := (HRV.out).frozen 1
  have rf2 := (HRV.out).frozen 2
  have rf3 := (HRV.out).frozen 3
  have rf4 := (HRV.out).frozen 4
  have rf5 := (HRV.out).frozen 5
  have rf6 := (HRV.out).frozen 6
  have rf7 := (HRV.out).frozen 7
  have rf8 := (HRV.out).frozen 8
  have rf9 := (HRV.out).frozen 9
  have rf10 := (HRV.out).frozen 10
  clear hmv hpq hcq
  have hne := HN1.out.2.2.2.1
  have hne2 := HN1.out.2.2.2.1.symm
  go_wp2
  have HRW := HRV.out.far (p := ⟨gn, 10, none⟩) HN1.out.2.2.2.1 (.int .u32 jv)
  have hbt0 := But.setCell (S := fun k => k = B) ((But.of_below (S := fun k => k = B) HB3.out).trans HMV.out.b (fun i h => by rcases h with h | h; exact .inr (by rw [h]; exact HN1.out.2.2.2.2.2.2); exact .inl h)) (p := ⟨gn, 10, none⟩) (.inr HN1.out.2.2.2.2.2.2) (.int .u32 jv)
  have hbt := set11_but (S := fun k => k = B) (g := w.heap.size + 1) hbt0 (.inr (by omega)) (.int .u32 (cq.r 0)) (.int .u32 (cq.r 1)) (.int .u32 (cq.r 2)) (.int .u32 (cq.r 3)) (.int .u32 (cq.r 4)) (.int .u32 (cq.r 5)) (.int .u32 (cq.r 6)) (.int .u32 (cq.r 7)) (.complex .f64 (cq.z 0).1 (cq.z 0).2) (.complex .f64 (cq.z 1).1 (cq.z 1).2) (.int .u32 jv)
  have hbm := set11_but (S := fun k => k = gn ∨ k = w.heap.size + 1) (g := w.heap.size + 1) (But.setCell (S := fun k => k = gn ∨ k = w.heap.size + 1) (But.refl _ V) (p := ⟨gn, 10, none⟩) (.inl (.inl rfl)) (.int .u32 jv)) (.inl (.inr rfl)) (.int .u32 (cq.r 0)) (.int .u32 (cq.r 1)) (.int .u32 (cq.r 2)) (.int .u32 (cq.r 3)) (.int .u32 (cq.r 4)) (.int .u32 (cq.r 5)) (.int .u32 (cq.r 6)) (.int .u32 (cq.r 7)) (.complex .f64 (cq.z 0).1 (cq.z 0).2) (.complex .f64 (cq.z 1).1 (cq.z 1).2) (.int .u32 jv)
  have hgw := HM.out.p.lt
  refine bodyPost_ret (results_row_tmp Tryd.results15 _ rfl (set11_blk HRW (.int .u32 (cq.r 0)) (.int .u32 (cq.r 1)) (.int .u32 (cq.r 2)) (.int .u32 (cq.r 3)) (.int .u32 (cq.r 4)) (.int .u32 (cq.r 5)) (.int .u32 (cq.r 6)) (.int .u32 (cq.r 7)) (.complex .f64 (cq.z 0).1 (cq.z 0).2) (.complex .f64 (cq.z 1).1 (cq.z 1).2) (.int .u32 jv)) Tryd.underlying28 rfl (by kernel_rfl)) rfl ?_
  rw [HP.out, HCQ.out]
  rw [HJV.out]
  exact ⟨rfl, HMV.out.m.but hbm (fun h => by rcases h with h | h; exact HN1.out.1 h.symm; omega) (fun h => by rcases h with h | h; exact HN1.out.2.1 h.symm; exact HN1.out.2.2.2.2.2.1 h.symm), hbt⟩

set_option maxRecDepth 100000 in
set_option maxHeartbeats 16000000 in
theorem step_whole {w : World} (hL : I.Laid w) {g : Nat} {A : Option Addr} {B cap : Nat} {c : Cp} {m : List Int} (hM : RamAt w g A B cap m) (hc : c.Ok) (a b : Nat) (im : Int) (op : Int) (hf : fetchP c m = (⟨op, (a : Int), (b : Int), im⟩, 0)) (hp0 : 25 ≤ op) (hw : WholeOk op a b) (hBw : B < w.heap.size) :
    Calls Tryd.prog 15 #[.agg c.arr, .iface 31 (.pointer (some ⟨g, 0, none⟩))] w (StepOut w g A B cap (execP c m op a b im)) := by
  have hp : execP c m op a b im = ((wholeP c op a b).setPc (nextP c), 0, m) := by
    unfold execP
    rw [if_neg (by omega), if_neg (by omega), if_neg (by omega), if_neg (by omega), if_neg (by omega), if_neg (by omega), if_pos hp0]
  have HP := Lib.hid hp
  clear hp
  have ho1 : ¬ op = 24 := by omega
  have ho2 : (15 : Int) ≤ op := by omega
  have ho3 : ¬ op ≤ 18 := by omega
  have ho4 : (19 : Int) ≤ op := by omega
  have ho5 : ¬ op ≤ 23 := by omega
  have HF := Lib.hid (fun W (hW : Below w.heap.size w W) => show Calls Tryd.prog 29 #[.agg c.arr, .iface 31 (.pointer (some ⟨g, 0, none⟩))] W fun e w' => e = .returned (.tuple #[.agg #[.int .i64 op, .int .i64 (a : Int), .int .i64 (b : Int), .int .i64 im], .int .i64 0]) ∧ Below W.heap.size W w' from by
    have h := fetch_any (hL.below hW) (hM.below hW) c hc
    rw [hf] at h
    exact h)
  have hb0 := bl_new (bl_new (Below.refl w.heap.size w) (.cells c.arr 28)) (.cells c0A 28)
  have hX := (Blk.new w 28 c.arr).alloc (.cells c0A 28)
  have hR := Blk.new (w.alloc (.cells c.arr 28)) 28 c0A
  rw [World.size_alloc] at hR
  have HM := Lib.hid hM
  have HC := Lib.hid hc
  have HB0 := Lib.hid hb0
  have HX0 := Lib.hid hX
  have HR0 := Lib.hid hR
  obtain ⟨x0, x1, x2, x3, x4, x5, x6, x7, x8, x9, x10, xlt⟩ := cp_all hX
  clear hb0 hX hR hL hM hc hf
  unfold c0A at *
  go_enter Tryd.func15, Tryd.ntmps15
  go_wp2_with fail
  refine (HF.out _ HB0.out).mono ?_
  rintro e W1 ⟨rfl, hb1⟩
  have HX1 := Lib.hid (HX0.out.below hb1 HX0.out.lt)
  have HR1 := Lib.hid (HR0.out.below hb1 HR0.out.lt)
  have HB1 := Lib.hid (bl_step HB0.out hb1)
  clear x0 x1 x2 x3 x4 x5 x6 x7 x8 x9 x10 xlt hb1 HX0 HR0 HB0 HF
  obtain ⟨x0, x1, x2, x3, x4, x5, x6, x7, x8, x9, x10, xlt⟩ := cp_all HX1.out
  go_wp2_with fail
  have HC3 := Lib.hid (show CpAt ((W1.alloc (.cells #[.int .i64 op, .int .i64 (a : Int), .int .i64 (b : Int), .int .i64 im] 38)).alloc (.cells c.arr 28)) (W1.heap.size + 1) c from by
    have h := Blk.new (W1.alloc (.cells #[.int .i64 op, .int .i64 (a : Int), .int .i64 (b : Int), .int .i64 im] 38)) 28 c.arr
    rw [World.size_alloc] at h
    exact h)
  have HB3 := Lib.hid (bl_new (bl_new HB1.out (.cells #[.int .i64 op, .int .i64 (a : Int), .int .i64 (b : Int), .int .i64 im] 38)) (.cells c.arr 28))
  have HX3 := Lib.hid ((HX1.out.alloc (.cells #[.int .i64 op, .int .i64 (a : Int), .int .i64 (b : Int), .int .i64 im] 38)).alloc (.cells c.arr 28))
  have HR3 := Lib.hid ((HR1.out.alloc (.cells #[.int .i64 op, .int .i64 (a : Int), .int .i64 (b : Int), .int .i64 im] 38)).alloc (.cells c.arr 28))
  have HG3 := Lib.hid (show w.heap.size + 1 < W1.heap.size from HR1.out.lt)
  have hgw := HM.out.p.lt
  have HM3 := Lib.hid (HM.out.below HB3.out)
  clear x0 x1 x2 x3 x4 x5 x6 x7 x8 x9 x10 xlt HX1 HR1
  rw [show (Obj.cells #[.int .u32 (c.r 0), .int .u32 (c.r 1), .int .u32 (c.r 2), .int .u32 (c.r 3), .int .u32 (c.r 4), .int .u32 (c.r 5), .int .u32 (c.r 6), .int .u32 (c.r 7), .complex .f64 (c.z 0).1 (c.z 0).2, .complex .f64 (c.z 1).1 (c.z 1).2, .int .u32 c.pc] 28) = Obj.cells c.arr 28 from rfl]
  generalize hgn : W1.heap.size + 1 = gn at *
  have HN1 := Lib.hid (show gn ≠ g ∧ gn ≠ B ∧ w.heap.size ≠ gn ∧ w.heap.size + 1 ≠ gn ∧ w.heap.size ≠ B ∧ w.heap.size + 1 ≠ B ∧ w.heap.size ≤ gn from by have := HG3.out; omega)
  generalize (W1.alloc (.cells #[.int .i64 op, .int .i64 (a : Int), .int .i64 (b : Int), .int .i64 im] 38)).alloc (.cells c.arr 28) = W3 at *
  clear hgn hgw HG3 HB1
  refine (whole_any HC3.out HM3.out HN1.out.1 HN1.out.2.1 HC.out im op a b hw).mono ?_
  rintro e V ⟨rfl, hmv0⟩
  have hmv := hmv0
  have HMV := Lib.hid hmv
  have hpq : (wholeP c op a b).pc = c.pc := whole_pc c op a b
  obtain ⟨cq, hcq⟩ : ∃ cq, wholeP c op a b = cq := ⟨_, rfl⟩
  rw [hcq] at hpq HMV
  have HCQ := Lib.hid hcq
  have HPQ := Lib.hid hpq
  have HRV := Lib.hid (HR3.out.but HMV.out.b (fun h => by rcases h with h | h; exact HN1.out.2.2.2.1 h; exact HN1.out.2.2.2.2.2.1 h))
  obtain ⟨x0, x1, x2, x3, x4, x5, x6, x7, x8, x9, x10, xlt⟩ := cp_all HMV.out.c
  have xf10 := HMV.out.c.frozen 10
  rw [hpq] at x10
  obtain ⟨r0, r1, r2, r3, r4, r5, r6, r7, r8, r9, r10, rlt⟩ := row11 (HRV.out)
  have rf0 := (HRV.out).frozen 0
  have rf1 := (HRV.out).frozen 1
  have rf2 := (HRV.out).frozen 2
  have rf3 := (HRV.out).frozen 3
  have rf4 := (HRV.out).frozen 4
  have rf5 := (HRV.out).frozen 5
  have rf6 := (HRV.out).frozen 6
  have rf7 := (HRV.out).frozen 7
  have rf8 := (HRV.out).frozen 8
  have rf9 := (HRV.out).frozen 9
  have rf10 := (HRV.out).frozen 10
  clear hmv hpq hcq
  have hne := HN1.out.2.2.2.1
  have hne2 := HN1.out.2.2.2.1.symm
  go_wp2
  have HRW := HRV.out.far (p := ⟨gn, 10, none⟩) HN1.out.2.2.2.1 (.int .u32 ((c.pc + 4) % 4294967296))
  have hbt0 := But.setCell (S := fun k => k = B) ((But.of_below (S := fun k => k = B) HB3.out).trans HMV.out.b (fun i h => by rcases h with h | h; exact .inr (by rw [h]; exact HN1.out.2.2.2.2.2.2); exact .inl h)) (p := ⟨gn, 10, none⟩) (.inr HN1.out.2.2.2.2.2.2) (.int .u32 ((c.pc + 4) % 4294967296))
  have hbt := set11_but (S := fun k => k = B) (g := w.heap.size + 1) hbt0 (.inr (by omega)) (.int .u32 (cq.r 0)) (.int .u32 (cq.r 1)) (.int .u32 (cq.r 2)) (.int .u32 (cq.r 3)) (.int .u32 (cq.r 4)) (.int .u32 (cq.r 5)) (.int .u32 (cq.r 6)) (.int .u32 (cq.r 7)) (.complex .f64 (cq.z 0).1 (cq.z 0).2) (.complex .f64 (cq.z 1).1 (cq.z 1).2) (.int .u32 ((c.pc + 4) % 4294967296))
  have hbm := set11_but (S := fun k => k = gn ∨ k = w.heap.size + 1) (g := w.heap.size + 1) (But.setCell (S := fun k => k = gn ∨ k = w.heap.size + 1) (But.refl _ V) (p := ⟨gn, 10, none⟩) (.inl (.inl rfl)) (.int .u32 ((c.pc + 4) % 4294967296))) (.inl (.inr rfl)) (.int .u32 (cq.r 0)) (.int .u32 (cq.r 1)) (.int .u32 (cq.r 2)) (.int .u32 (cq.r 3)) (.int .u32 (cq.r 4)) (.int .u32 (cq.r 5)) (.int .u32 (cq.r 6)) (.int .u32 (cq.r 7)) (.complex .f64 (cq.z 0).1 (cq.z 0).2) (.complex .f64 (cq.z 1).1 (cq.z 1).2) (.int .u32 ((c.pc + 4) % 4294967296))
  have hgw := HM.out.p.lt
  refine bodyPost_ret (results_row_tmp Tryd.results15 _ rfl (set11_blk HRW (.int .u32 (cq.r 0)) (.int .u32 (cq.r 1)) (.int .u32 (cq.r 2)) (.int .u32 (cq.r 3)) (.int .u32 (cq.r 4)) (.int .u32 (cq.r 5)) (.int .u32 (cq.r 6)) (.int .u32 (cq.r 7)) (.complex .f64 (cq.z 0).1 (cq.z 0).2) (.complex .f64 (cq.z 1).1 (cq.z 1).2) (.int .u32 ((c.pc + 4) % 4294967296))) Tryd.underlying28 rfl (by kernel_rfl)) rfl ?_
  rw [HP.out, HCQ.out]
  exact ⟨rfl, HMV.out.m.but hbm (fun h => by rcases h with h | h; exact HN1.out.1 h.symm; omega) (fun h => by rcases h with h | h; exact HN1.out.2.1 h.symm; exact HN1.out.2.2.2.2.2.1 h.symm), hbt⟩

set_option maxRecDepth 100000 in
set_option maxHeartbeats 16000000 in
theorem step_nil {w : World} (c : Cp) :
    Calls Tryd.prog 15 #[.agg c.arr, .nilIface] w fun e w' => e = .returned (.tuple #[.agg c.arr, .int .i64 2]) ∧ Below w.heap.size w w' := by
  have HF := Lib.hid (fun W (hW : Below w.heap.size w W) => show Calls Tryd.prog 29 #[.agg c.arr, .nilIface] W fun e w' => e = .returned (.tuple #[.agg #[.int .i64 0, .int .i64 0, .int .i64 0, .int .i64 0], .int .i64 2]) ∧ Below W.heap.size W w' from fetch_nil c)
  have hb0 := bl_new (bl_new (Below.refl w.heap.size w) (.cells c.arr 28)) (.cells c0A 28)
  have hX := (Blk.new w 28 c.arr).alloc (.cells c0A 28)
  have hR := Blk.new (w.alloc (.cells c.arr 28)) 28 c0A
  rw [World.size_alloc] at hR
  have HB0 := Lib.hid hb0
  have HX0 := Lib.hid hX
  have HR0 := Lib.hid hR
  obtain ⟨x0, x1, x2, x3, x4, x5, x6, x7, x8, x9, x10, xlt⟩ := cp_all hX
  clear hb0 hX hR
  unfold c0A at *
  go_enter Tryd.func15, Tryd.ntmps15
  go_wp2_with fail
  refine (HF.out _ HB0.out).mono ?_
  rintro e W1 ⟨rfl, hb1⟩
  have HX1 := Lib.hid (HX0.out.below hb1 HX0.out.lt)
  have HR1 := Lib.hid (HR0.out.below hb1 HR0.out.lt)
  have HB1 := Lib.hid (bl_step HB0.out hb1)
  clear x0 x1 x2 x3 x4 x5 x6 x7 x8 x9 x10 xlt hb1 HX0 HR0 HB0 HF
  obtain ⟨x0, x1, x2, x3, x4, x5, x6, x7, x8, x9, x10, xlt⟩ := cp_all HX1.out
  obtain ⟨r0, r1, r2, r3, r4, r5, r6, r7, r8, r9, r10, rlt⟩ := row11 (HR1.out)
  have rf0 := (HR1.out).frozen 0
  have rf1 := (HR1.out).frozen 1
  have rf2 := (HR1.out).frozen 2
  have rf3 := (HR1.out).frozen 3
  have rf4 := (HR1.out).frozen 4
  have rf5 := (HR1.out).frozen 5
  have rf6 := (HR1.out).frozen 6
  have rf7 := (HR1.out).frozen 7
  have rf8 := (HR1.out).frozen 8
  have rf9 := (HR1.out).frozen 9
  have rf10 := (HR1.out).frozen 10
  go_wp2
  have hbt := set11_but (S := fun _ => False) (g := w.heap.size + 1) (But.of_below HB1.out) (.inr (by omega)) (.int .u32 (c.r 0)) (.int .u32 (c.r 1)) (.int .u32 (c.r 2)) (.int .u32 (c.r 3)) (.int .u32 (c.r 4)) (.int .u32 (c.r 5)) (.int .u32 (c.r 6)) (.int .u32 (c.r 7)) (.complex .f64 (c.z 0).1 (c.z 0).2) (.complex .f64 (c.z 1).1 (c.z 1).2) (.int .u32 c.pc)
  exact bodyPost_ret (results_row_tmp Tryd.results15 _ rfl ((set11_blk HR1.out (.int .u32 (c.r 0)) (.int .u32 (c.r 1)) (.int .u32 (c.r 2)) (.int .u32 (c.r 3)) (.int .u32 (c.r 4)) (.int .u32 (c.r 5)) (.int .u32 (c.r 6)) (.int .u32 (c.r 7)) (.complex .f64 (c.z 0).1 (c.z 0).2) (.complex .f64 (c.z 1).1 (c.z 1).2) (.int .u32 c.pc)).alloc _) Tryd.underlying28 rfl (by kernel_rfl)) rfl ⟨rfl, (hbt.alloc _).below (fun _ h => h.elim) (Nat.le_refl _)⟩

/-- A step. -/
noncomputable def stepP (c : Cp) (m : List Int) : Cp × Int × List Int :=
  if (fetchP c m).2 ≠ 0 then (c, (fetchP c m).2, m) else execP c m (fetchP c m).1.op (fetchP c m).1.a.toNat (fetchP c m).1.b.toNat (fetchP c m).1.imm
theorem fetch_may {c : Cp} {m : List Int} (h : (fetchP c m).2 = 0) : I.MayI (fetchP c m).1 := by
  unfold fetchP at h ⊢
  by_cases h4 : c.pc % 4 = 0
  · rw [if_pos h4] at h ⊢
    cases hw : wordM m c.pc.toNat with
    | none => rw [hw] at h; exact absurd h (by decide)
    | some v =>
      rw [hw] at h
      dsimp only at h ⊢
      by_cases hm : I.MayI (I.decI v)
      · rw [if_pos hm]; exact hm
      · rw [if_neg hm] at h; exact absurd h (by decide)
  · rw [if_neg h4] at h
    exact absurd h (by decide)
end
end Go.Proofs.YtoglmemmdolbmaaDoor
namespace Go.Proofs.YtoglmemmdolbmaaDoor
section
open Go.RowKit
set_option linter.unusedVariables false
set_option linter.unusedSimpArgs false
attribute [local irreducible] floatOfInt wz

theorem whole_ok {x : I.Ins} (h : I.MayI x) (ho : 25 ≤ x.op) : WholeOk x.op x.a.toNat x.b.toNat := by
  obtain ⟨op, a, b, im⟩ := x
  have hs := I.may_small h
  obtain ⟨⟨h0, h1⟩, ⟨h2, h3⟩, ⟨h4, h5⟩, _⟩ := h
  dsimp only at *
  have hf : ∀ k : Fin 30, 25 ≤ k.1 → max (I.fA (I.fR (k.1 : Int))) 0 = 1 ∧ (k.1 < 27 → max (I.fB (I.fR (k.1 : Int))) 0 = 6) ∧ (27 ≤ k.1 → max (I.fB (I.fR (k.1 : Int))) 0 ≤ 1) := by decide +kernel
  obtain ⟨n, rfl⟩ := Int.eq_ofNat_of_zero_le h0
  obtain ⟨f1, f2, f3⟩ := hf ⟨n, by omega⟩ (by show 25 ≤ n; omega)
  dsimp only at f1 f2 f3
  unfold WholeOk
  by_cases hn : n < 27
  · have := f2 hn
    left
    exact ⟨by omega, by omega, by omega⟩
  · have := f3 (by omega)
    right
    by_cases h29 : n = 29
    · right
      exact ⟨by omega, by omega⟩
    · left
      exact ⟨by omega, by omega, by omega⟩
theorem step_any {w : World} (hL : I.Laid w) {g : Nat} {A : Option Addr} {B cap : Nat} {c : Cp} {m : List Int} (hM : RamAt w g A B cap m) (hc : c.Ok) (hBw : B < w.heap.size) :
    Calls Tryd.prog 15 #[.agg c.arr, .iface 31 (.pointer (some ⟨g, 0, none⟩))] w (StepOut w g A B cap (stepP c m)) := by
  unfold stepP
  by_cases ht : (fetchP c m).2 = 0
  · rw [if_neg (fun h => h ht)]
    have hm := fetch_may ht
    obtain ⟨x, hx⟩ : ∃ x, (fetchP c m).1 = x := ⟨_, rfl⟩
    rw [hx] at hm ⊢
    have hs := I.may_small hm
    have hf : fetchP c m = (x, 0) := by rw [← hx, ← ht]
    have hwo := fun ho => whole_ok hm ho
    obtain ⟨op, a, b, im⟩ := x
    dsimp only at hs hwo ⊢
    obtain ⟨⟨s1, s2⟩, ⟨s3, s4⟩, ⟨s5, s6⟩, s7, s8⟩ := hs
    obtain ⟨a, rfl⟩ := Int.eq_ofNat_of_zero_le s3
    obtain ⟨b, rfl⟩ := Int.eq_ofNat_of_zero_le s5
    rw [Int.toNat_natCast, Int.toNat_natCast] at *
    have ha : a < 8 := by omega
    have hb : b < 8 := by omega
    clear hx hm s3 s4 s5 s6
    by_cases h24 : op = 24
    · subst h24; exact step_sys hL hM hc a b im hf
    by_cases h15 : op = 15
    · subst h15; exact step_lw hL hM hc a b im hf ha hb ⟨s7, s8⟩ hBw
    by_cases h16 : op = 16
    · subst h16; exact step_sw hL hM hc a b im hf ha hb ⟨s7, s8⟩ hBw
    by_cases h17 : op = 17
    · subst h17; exact step_lb hL hM hc a b im hf ha hb ⟨s7, s8⟩ hBw
    by_cases h18 : op = 18
    · subst h18; exact step_sb hL hM hc a b im hf ha hb ⟨s7, s8⟩ hBw
    by_cases hj : 19 ≤ op ∧ op ≤ 23
    · exact step_jump hL hM hc a b im op hf hj.1 hj.2 ha hb ⟨s7, s8⟩ hBw
    by_cases hw : 25 ≤ op
    · exact step_whole hL hM hc a b im op hf hw (hwo hw) hBw
    cases hcp : countP op im (c.r a) (c.r b) with
    | some v => exact step_count hL hM hc a b im op hf s1 (by omega) v hcp ha hb ⟨s7, s8⟩ hBw
    | none => exact step_none hL hM hc a b im op hf s1 (by omega) hcp ha hb ⟨s7, s8⟩ hBw
  · rw [if_pos ht]
    exact step_trap hL hM hc 0 0 0 (fetchP c m).1 (fetchP c m).2 rfl ht
end
end Go.Proofs.YtoglmemmdolbmaaDoor

/-
  The chapter's examples, walked (the law's alive). Condition: the tables lie as the program's text lays them.
-/
import Derived.Test.YtoglmemmdolbmaaDoorIsBy
import Derived.Test.YtoglmemmdolbmaaDoorIsPa
import Derived.Test.YtoglmemmdolbmaaDoorCoL
namespace Go.Proofs.YtoglmemmdolbmaaDoor
section
open Go.RowKit
set_option linter.unusedVariables false
set_option linter.unusedSimpArgs false

/-- A memory that came of a call, made from base on. -/
def NewRam (base : Nat) (m : List Int) (e : Ending) (w' : World) : Prop :=
  ∃ (g : Nat) (A : Option Addr) (B cap : Nat), e = .returned (.pointer (some ⟨g, 0, none⟩)) ∧ RamAt w' g A B cap m ∧ base ≤ g ∧ base ≤ B ∧ B < w'.heap.size
theorem flat_map (l : List Int) : l.flatMap B.bC = l.map (fun n => Value.int .u8 n) := by
  induction l with
  | nil => rfl
  | cons a r ih => rw [List.flatMap_cons, List.map_cons, ih]; rfl
theorem rowB_of {w : World} {base : Nat} {v : Value} {l : List Int} (h : B.OwnB w base v l) (hne : l ≠ []) : ∃ A Bk c, v = .slice A l.length c ∧ RowB w A Bk l ∧ base ≤ Bk ∧ Bk < w.heap.size ∧ l.length ≤ c := by
  have hpos : l.length ≠ 0 := fun h => hne (List.length_eq_zero_iff.1 h)
  obtain ⟨_, ⟨_, h0⟩ | ⟨g, cap, cur, hv, hb, hg, hc, _, hs, ht⟩⟩ := h
  · exact absurd h0 hpos
  · refine ⟨some ⟨g, 0, none⟩, g, cap, hv, fun _ => ⟨rfl, cur, hg, by omega, fun i x hx => ?_⟩, hb, (Array.getElem?_eq_some_iff.1 hg).1, hc⟩
    have hi : i < l.length := (List.getElem?_eq_some_iff.1 hx).1
    rw [flat_map, Nat.mul_one] at ht
    have h1 : (cur.toList.take l.length)[i]? = some (.int .u8 x) := by rw [ht, List.getElem?_map, hx]; rfl
    rw [List.getElem?_take_of_lt hi] at h1
    simpa using h1
theorem b4_low {x : Int} (h : 0 ≤ x ∧ x ≤ 4294967295) : ∀ y ∈ B.b4 x, 0 ≤ y ∧ y ≤ 255 := by
  intro y hy
  simp only [B.b4, List.mem_cons, List.not_mem_nil, or_false] at hy
  omega
theorem bytes_low {ws : List Int} (h : B.Words ws) : ∀ y ∈ B.bytesL ws, 0 ≤ y ∧ y ≤ 255 := by
  intro y hy
  unfold B.bytesL at hy
  obtain ⟨x, hx, hy⟩ := List.mem_flatMap.1 hy
  obtain ⟨i, hi⟩ := List.mem_iff_getElem?.1 hx
  exact b4_low (h i x hi) y hy

set_option maxRecDepth 100000 in
set_option maxHeartbeats 4000000 in
theorem ram_any {w : World} (hG : I.Ground w) (s : ByteArray) (hs : s.size ≤ 1000000) {ws : List Int} {n er : Int} (ha : I.asmP (toL s) = (ws, n, er)) (hw : B.Words ws) (hne : ws ≠ []) (hl : ws.length ≤ 100000) :
    Calls Tryd.prog 10 #[.string s] w fun e w' => NewRam w.heap.size (B.bytesL ws) e w' ∧ Below w.heap.size w w' := by
  have HA := Lib.hid (I.asm_any hG s hs ha)
  have HB := Lib.hid (fun W A c (h : I.WordsAt W A ws) => B.isaBytes_any (w := W) A c ws (by omega) h hw)
  have HW := Lib.hid hw
  have hbl := B.bytesL_len ws
  have hpos : ws.length ≠ 0 := fun h => hne (List.length_eq_zero_iff.1 h)
  have HNE := Lib.hid (show B.bytesL ws ≠ [] from fun h => by rw [h] at hbl; simp at hbl; omega)
  have HLEN := Lib.hid (show (B.bytesL ws).length ≤ 1000000 from by omega)
  clear hG ha hw hne hbl hpos hs hl
  go_enter Tryd.func10, Tryd.ntmps10
  go_wp2_with (fail)
  refine HA.out.mono ?_
  rintro e W1 ⟨A, c, rfl, hwa, hc, hb1⟩
  have HB1 := Lib.hid hb1
  have HWA := Lib.hid hwa
  clear hb1 hwa HA
  go_wp2_with (fail)
  refine (HB.out W1 A c HWA.out).mono ?_
  rintro e W2 ⟨v, rfl, hown, hb2⟩
  obtain ⟨A2, Bk, c2, rfl, hrow, hBk, hBl, hcap⟩ := rowB_of hown HNE.out
  have HB2 := Lib.hid (bl_step HB1.out hb2)
  have hs1 := HB1.out.size
  have hnew := Blk.new W2 46 #[.slice A2 (B.bytesL ws).length c2]
  have hbn := bl_new (Below.refl W2.heap.size W2) (.cells #[.slice A2 (B.bytesL ws).length c2] 46)
  have HR := Lib.hid (show RamAt (W2.alloc (.cells #[.slice A2 (B.bytesL ws).length c2] 46)) W2.heap.size A2 Bk c2 (B.bytesL ws) from
    ⟨hnew, fun h => by
      obtain ⟨hA, cs, hc, rest⟩ := hrow h
      exact ⟨hA, cs, hc.below hbn hc.lt, rest⟩, hcap, by omega, bytes_low HW.out, HLEN.out⟩)
  have hs2 := HB2.out.size
  clear hown hrow hb2 hnew hbn
  go_wp2
  go_ret
  exact ⟨⟨_, A2, Bk, c2, rfl, HR.out, hs2, by omega, by simp; omega⟩, bl_new HB2.out _⟩
end
end Go.Proofs.YtoglmemmdolbmaaDoor
namespace Go.Proofs.YtoglmemmdolbmaaDoor
section
open Go.RowKit Go.Shelf
set_option linter.unusedVariables false

theorem mo_whole (p : Int) : Whole (floatOfInt .f64 (wz p)) (wz p) := ⟨flo_int (by have := wz_range p; omega), (wz_range p).1, (wz_range p).2⟩
theorem mo_isP (p q : Int) : isP (floatOfInt .f64 (wz p)) (floatOfInt .f64 (wz q)) = true := (isP_iff _ _).2 ⟨⟨_, mo_whole p⟩, ⟨_, mo_whole q⟩⟩
theorem zre_zmk (p q : Int) : zre (zmk p q) = wz p := by
  show re (floatOfInt .f64 (wz p)) (floatOfInt .f64 (wz q)) = wz p
  unfold re; rw [mo_isP, if_pos rfl, prt_eq (mo_whole p)]
theorem zim_zmk (p q : Int) : zim (zmk p q) = wz q := by
  show im (floatOfInt .f64 (wz p)) (floatOfInt .f64 (wz q)) = wz q
  unfold im; rw [mo_isP, if_pos rfl, prt_eq (mo_whole q)]
theorem mo_eql (p q : Int) (w : World) : (binOp .eql 25 (mk p q) (mk p q)).run Tryd.prog w = .ok (.bool true) w := by
  have h : ∀ n : Int, FloatKind.f64.format.order (floatOfInt .f64 (wz n)) (floatOfInt .f64 (wz n)) = some .eq := fun n => by
    have hf := flo_int (n := wz n) (by have := wz_range n; omega)
    rw [flo_order hf hf, compare_eq.2 rfl]
  unfold mk
  rw [run_eql_complex, h, h]
  rfl
theorem mo_guard (p q : Int) (x y : Operand) (w : World) : (eqGuard .eql 25 x y (mk p q) (mk p q)).run Tryd.prog w = .ok () w := by
  unfold mk
  simp [eqGuard, go_sem]

theorem exec_count (c : Cp) (m : List Int) {op im v : Int} {a b : Nat} (h1 : op ≤ 14) (hv : countP op im (c.r a) (c.r b) = some v) : execP c m op a b im = ((c.setR a v).setPc (nextP c), 0, m) := by
  unfold execP
  rw [if_neg (by omega), if_neg (by omega), if_neg (by omega), if_neg (by omega), if_neg (by omega), if_neg (by omega), if_neg (by omega), hv]
theorem exec_nop (c : Cp) (m : List Int) {op im : Int} {a b : Nat} (h1 : op ≤ 14) (hv : countP op im (c.r a) (c.r b) = none) : execP c m op a b im = (c.setPc (nextP c), 0, m) := by
  unfold execP
  rw [if_neg (by omega), if_neg (by omega), if_neg (by omega), if_neg (by omega), if_neg (by omega), if_neg (by omega), if_neg (by omega), hv]
theorem exec_whole (c : Cp) (m : List Int) {op im : Int} {a b : Nat} (h1 : 25 ≤ op) : execP c m op a b im = ((wholeP c op a b).setPc (nextP c), 0, m) := by
  unfold execP
  rw [if_neg (by omega), if_neg (by omega), if_neg (by omega), if_neg (by omega), if_neg (by omega), if_neg (by omega), if_pos h1]
theorem exec_jump (c : Cp) (m : List Int) {op im : Int} {a b : Nat} (h1 : 19 ≤ op) (h2 : op ≤ 23) : execP c m op a b im = ((jumpP c op a im).2.setPc (jumpP c op a im).1, 0, m) := by
  unfold execP
  rw [if_neg (by omega), if_neg (by omega), if_neg (by omega), if_neg (by omega), if_neg (by omega), if_pos ⟨h1, h2⟩]
theorem run_go {c c' : Cp} {m m' : List Int} (k : Nat) (h : stepP c m = (c', 0, m')) : runP c m (k + 1) = ((runP c' m' k).1, (runP c' m' k).2.1 + 1, (runP c' m' k).2.2.1, (runP c' m' k).2.2.2) := by
  rw [run_more (by rw [h]), h]
theorem run_at {c c' : Cp} {m m' : List Int} {t : Int} (k : Nat) (h : stepP c m = (c', t, m')) (ht : t ≠ 0) : runP c m (k + 1) = (c', 0, t, m') := by
  rw [run_trap (by rw [h]; exact ht), h]

def cpu0 : Cp := ⟨fun _ => 0, fun _ => (0, 0), 0⟩
theorem cpu0_ok : cpu0.Ok := ⟨fun _ => ⟨Int.le_refl 0, by show (0 : Int) ≤ 4294967295; decide⟩, Int.le_refl 0, by show (0 : Int) ≤ 4294967295; decide⟩
/-- The bytes of a program's text. -/
def memOf (s : List UInt8) : List Int := B.bytesL (I.asmP s).1
def s1 : List UInt8 := [108, 105, 32, 49, 32, 53, 10, 97, 100, 100, 32, 49, 32, 49, 10, 115, 121, 115, 10]
def s2 : List UInt8 := [122, 115, 101, 116, 32, 48, 32, 49, 10, 122, 109, 117, 108, 32, 48, 32, 48, 10, 122, 103, 101, 116, 32, 48, 32, 52, 10]
theorem f1_0 : fetchAt 0 (memOf s1) = (⟨1, 1, 0, 5⟩, 0) := by decide +kernel
theorem f1_4 : fetchAt 4 (memOf s1) = (⟨4, 1, 1, 0⟩, 0) := by decide +kernel
theorem f1_8 : fetchAt 8 (memOf s1) = (⟨24, 0, 0, 0⟩, 0) := by decide +kernel
theorem f2_0 : fetchAt 0 (memOf s2) = (⟨25, 0, 1, 0⟩, 0) := by decide +kernel
theorem f2_4 : fetchAt 4 (memOf s2) = (⟨28, 0, 0, 0⟩, 0) := by decide +kernel
theorem f2_8 : fetchAt 8 (memOf s2) = (⟨26, 0, 4, 0⟩, 0) := by decide +kernel
theorem run1 : ∃ c, runP cpu0 (memOf s1) 99 = (c, 2, 1, memOf s1) ∧ c.r 1 = 10 ∧ c.pc = 8 := by
  have e1 := (step_lit (c := cpu0) rfl f1_0).trans (exec_count cpu0 (memOf s1) (by decide) (show countP 1 5 (cpu0.r 1) (cpu0.r 0) = some 5 from rfl))
  obtain ⟨c1, hc1⟩ : ∃ c1, c1 = (cpu0.setR (1 : Int).toNat 5).setPc (nextP cpu0) := ⟨_, rfl⟩
  rw [← hc1] at e1
  have e2 := (step_lit (c := c1) (by rw [hc1]; rfl) f1_4).trans (exec_count c1 (memOf s1) (by decide) (show countP 4 0 (c1.r 1) (c1.r 1) = some 10 from by rw [hc1]; rfl))
  obtain ⟨c2, hc2⟩ : ∃ c2, c2 = (c1.setR (1 : Int).toNat 10).setPc (nextP c1) := ⟨_, rfl⟩
  rw [← hc2] at e2
  have e3 : stepP c2 (memOf s1) = (c2, 1, memOf s1) := step_lit (c := c2) (by rw [hc2, hc1]; rfl) f1_8
  refine ⟨c2, ?_, by rw [hc2]; rfl, by rw [hc2, hc1]; rfl⟩
  rw [run_go 98 e1, run_go 97 e2, run_at 96 e3 (by decide)]
def cpu1 : Cp := ⟨fun i => if i = 1 then 2 else if i = 2 then 3 else 0, fun _ => (0, 0), 0⟩
theorem cpu1_ok : cpu1.Ok := ⟨fun k => by
  show 0 ≤ (if k = 1 then (2 : Int) else if k = 2 then 3 else 0) ∧ (if k = 1 then (2 : Int) else if k = 2 then 3 else 0) ≤ 4294967295
  split
  · decide
  · split <;> decide, Int.le_refl 0, by show (0 : Int) ≤ 4294967295; decide⟩
theorem run2 : ∃ d, runP cpu1 (memOf s2) 3 = (d, 3, 0, memOf s2) ∧ d.z 0 = zmk (-5) 12 ∧ d.r 4 = 4294967291 ∧ d.r 5 = 12 := by
  have e1 := (step_lit (c := cpu1) rfl f2_0).trans (exec_whole cpu1 (memOf s2) (by decide))
  obtain ⟨c1, hc1⟩ : ∃ c1, c1 = (wholeP cpu1 25 (0 : Int).toNat (1 : Int).toNat).setPc (nextP cpu1) := ⟨_, rfl⟩
  rw [← hc1] at e1
  have hz1 : c1.z 0 = zmk 2 3 := by
    rw [hc1]
    show zmk (wrap32 2) (wrap32 3) = _
    rw [show wrap32 2 = 2 from by unfold wrap32; omega, show wrap32 3 = 3 from by unfold wrap32; omega]
  have e2 := (step_lit (c := c1) (by rw [hc1]; rfl) f2_4).trans (exec_whole c1 (memOf s2) (by decide))
  obtain ⟨c2, hc2⟩ : ∃ c2, c2 = (wholeP c1 28 (0 : Int).toNat (0 : Int).toNat).setPc (nextP c1) := ⟨_, rfl⟩
  rw [← hc2] at e2
  have hz2 : c2.z 0 = zmk (-5) 12 := by
    rw [hc2]
    show zmk (zre (c1.z 0) * zre (c1.z 0) - zim (c1.z 0) * zim (c1.z 0)) (zre (c1.z 0) * zim (c1.z 0) + zim (c1.z 0) * zre (c1.z 0)) = _
    rw [hz1, zre_zmk, zim_zmk, show wz 2 = 2 by decide, show wz 3 = 3 by decide]
    rfl
  have e3 := (step_lit (c := c2) (by rw [hc2, hc1]; rfl) f2_8).trans (exec_whole c2 (memOf s2) (by decide))
  obtain ⟨c3, hc3⟩ : ∃ c3, c3 = (wholeP c2 26 (0 : Int).toNat (4 : Int).toNat).setPc (nextP c2) := ⟨_, rfl⟩
  rw [← hc3] at e3
  refine ⟨c3, ?_, ?_, ?_, ?_⟩
  · rw [run_go 2 e1, run_go 1 e2, run_go 0 e3]; rfl
  · rw [hc3]; exact hz2
  · rw [hc3]
    show zre (c2.z 0) % 4294967296 = _
    rw [hz2, zre_zmk]
    decide
  · rw [hc3]
    show zim (c2.z 0) % 4294967296 = _
    rw [hz2, zim_zmk]
    decide
end
end Go.Proofs.YtoglmemmdolbmaaDoor
namespace Go.Proofs.YtoglmemmdolbmaaDoor
section
open Go.RowKit Go.Shelf
set_option linter.unusedVariables false
set_option linter.unusedSimpArgs false
attribute [local go_sem] Oper.semAt_some
attribute [local go_sem] run_store_complex
attribute [local irreducible] floatOfInt wz

/-- A program's text that is run: what Run says of it. -/
theorem words_of (s : List UInt8) (h : ((I.asmP s).1.all fun x => decide (0 ≤ x ∧ x ≤ 4294967295)) = true) : B.Words (I.asmP s).1 := fun i x hx => by
  have := List.all_eq_true.1 h x (List.mem_of_getElem? hx)
  simpa using this
theorem ramText {w : World} (hG : I.Ground w) (s : ByteArray) (hs : s.size ≤ 1000000) (hw : ((I.asmP (toL s)).1.all fun x => decide (0 ≤ x ∧ x ≤ 4294967295)) = true) (hne : ((I.asmP (toL s)).1.isEmpty) = false) (hl : (I.asmP (toL s)).1.length ≤ 100000) :
    Calls Tryd.prog 10 #[.string s] w fun e w' => NewRam w.heap.size (memOf (toL s)) e w' ∧ Below w.heap.size w w' :=
  ram_any hG s hs (ws := (I.asmP (toL s)).1) (n := (I.asmP (toL s)).2.1) (er := (I.asmP (toL s)).2.2) rfl (words_of _ hw) (fun h => by rw [h] at hne; cases hne) hl

set_option maxRecDepth 100000 in
set_option maxHeartbeats 16000000 in
theorem alive_any {w : World} (hG : I.Ground w) : Calls Tryd.prog 8 #[] w fun e w' => e = .returned (.bool true) ∧ Below w.heap.size w w' := by
  have H1 := Lib.hid (fun W (hW : Below w.heap.size w W) => show Calls Tryd.prog 10 #[.string ⟨#[108, 105, 32, 49, 32, 53, 10, 97, 100, 100, 32, 49, 32, 49, 10, 115, 121, 115, 10]⟩] W fun e w' => NewRam W.heap.size (memOf s1) e w' ∧ Below W.heap.size W w' from
    ramText (hG.below hW) _ (by decide) (by decide +kernel) (by decide +kernel) (by decide +kernel))
  have H2 := Lib.hid (fun W (hW : Below w.heap.size w W) => show Calls Tryd.prog 10 #[.string ⟨#[122, 115, 101, 116, 32, 48, 32, 49, 10, 122, 109, 117, 108, 32, 48, 32, 48, 10, 122, 103, 101, 116, 32, 48, 32, 52, 10]⟩] W fun e w' => NewRam W.heap.size (memOf s2) e w' ∧ Below W.heap.size W w' from
    ramText (hG.below hW) _ (by decide) (by decide +kernel) (by decide +kernel) (by decide +kernel))
  have HR := Lib.hid (fun W (hW : Below w.heap.size w W) g A B cap m (hM : RamAt W g A B cap m) (hB : B < W.heap.size) (hw : w.heap.size ≤ B) c (hc : c.Ok) most (hm : most ≤ 9223372036854775807) =>
    run_any (hG.laid.below hW) hM hB (by have := hG.laid.klt; omega) c hc most hm)
  obtain ⟨ca, ra, rb, rc⟩ := run1
  obtain ⟨cb, rd, re', rf, rg⟩ := run2
  have HMK := Lib.hid (fun W => show Calls Tryd.prog 22 #[.int .i64 (-5), .int .i64 12] W fun e w' => e = .returned (.complex .f64 (zmk (-5) 12).1 (zmk (-5) 12).2) ∧ w' = W from (gMake_any (w := W) (-5) 12).mono fun e w' h => ⟨h.1, h.2.symm⟩)
  have k1 := fun w : World => show (binOp .eql 25 (.complex .f64 (zmk (-5) 12).1 (zmk (-5) 12).2) (.complex .f64 (zmk (-5) 12).1 (zmk (-5) 12).2)).run Tryd.prog w = .ok (.bool true) w from mo_eql (-5) 12 w
  have g1 := fun (x y : Operand) (w : World) => show (eqGuard .eql 25 x y (.complex .f64 (zmk (-5) 12).1 (zmk (-5) 12).2) (.complex .f64 (zmk (-5) 12).1 (zmk (-5) 12).2)).run Tryd.prog w = .ok () w from mo_guard (-5) 12 x y w
  clear hG
  go_enter Tryd.func8, Tryd.ntmps8
  go_wp2_with (fail)
  refine (H1.out _ (Below.refl _ _)).mono ?_
  rintro e W1 ⟨⟨g, A, B, cap, rfl, hM, hg, hB, hBl⟩, hb1⟩
  have hrun := HR.out W1 hb1 g A B cap _ hM hBl hB cpu0 cpu0_ok 99 (by decide)
  rw [show ((99 : Int)).toNat = 99 from rfl, ra] at hrun
  have HRUN := Lib.hid (show Calls Tryd.prog 9 _ W1 fun e w' => e = .returned (.tuple #[.agg #[.int .u32 (ca.r 0), .int .u32 (ca.r 1), .int .u32 (ca.r 2), .int .u32 (ca.r 3), .int .u32 (ca.r 4), .int .u32 (ca.r 5), .int .u32 (ca.r 6), .int .u32 (ca.r 7), .complex .f64 (ca.z 0).1 (ca.z 0).2, .complex .f64 (ca.z 1).1 (ca.z 1).2, .int .u32 ca.pc], .int .i64 2, .int .i64 1]) ∧ RamAt w' g A B cap (memOf s1) ∧ But (fun k => k = B) W1 w' from hrun)
  have HB1 := Lib.hid hb1
  have HGB := Lib.hid (show w.heap.size ≤ B from hB)
  clear hrun hb1 hM hg hB hBl
  go_wp2_with (fail)
  refine HRUN.out.mono ?_
  rintro e W2 ⟨rfl, hm2, hb2⟩
  have HB2 := Lib.hid (HB1.out.trans (hb2.below (B := w.heap.size) (fun k hk => by have := HGB.out; omega) HB1.out.size))
  have hs2 := HB2.out.size
  have HX2 := Lib.hid (Blk.new W2 28 ca.arr)
  have HB3 := Lib.hid (bl_new HB2.out (.cells ca.arr 28))
  clear hb2 hm2 HRUN HB1
  have HB3 := Lib.hid (bl_new HB2.out (.cells #[.int .u32 (ca.r 0), .int .u32 10, .int .u32 (ca.r 2), .int .u32 (ca.r 3), .int .u32 (ca.r 4), .int .u32 (ca.r 5), .int .u32 (ca.r 6), .int .u32 (ca.r 7), .complex .f64 (ca.z 0).1 (ca.z 0).2, .complex .f64 (ca.z 1).1 (ca.z 1).2, .int .u32 8] 28))
  have HX3 := Lib.hid (Blk.new W2 28 #[.int .u32 (ca.r 0), .int .u32 10, .int .u32 (ca.r 2), .int .u32 (ca.r 3), .int .u32 (ca.r 4), .int .u32 (ca.r 5), .int .u32 (ca.r 6), .int .u32 (ca.r 7), .complex .f64 (ca.z 0).1 (ca.z 0).2, .complex .f64 (ca.z 1).1 (ca.z 1).2, .int .u32 8])
  go_wp2_with (fail)
  generalize W2.alloc (.cells #[.int .u32 (ca.r 0), .int .u32 10, .int .u32 (ca.r 2), .int .u32 (ca.r 3), .int .u32 (ca.r 4), .int .u32 (ca.r 5), .int .u32 (ca.r 6), .int .u32 (ca.r 7), .complex .f64 (ca.z 0).1 (ca.z 0).2, .complex .f64 (ca.z 1).1 (ca.z 1).2, .int .u32 8] 28) = W3 at *
  refine (H2.out _ HB3.out).mono ?_
  rintro e W4 ⟨⟨g, A, B, cap, rfl, hM, hg, hB, hBl⟩, hb4⟩
  have HB4 := Lib.hid (bl_step HB3.out hb4)
  have HX4 := Lib.hid (HX3.out.below hb4 HX3.out.lt)
  have hs3 := HB3.out.size
  have hxlt := HX3.out.lt
  have hrun := HR.out W4 HB4.out g A B cap _ hM hBl (by omega) cpu1 cpu1_ok 3 (by decide)
  rw [show ((3 : Int)).toNat = 3 from rfl, rd] at hrun
  have HRUN := Lib.hid (show Calls Tryd.prog 9 #[.agg #[.int .u32 0, .int .u32 2, .int .u32 3, .int .u32 0, .int .u32 0, .int .u32 0, .int .u32 0, .int .u32 0, .complex .f64 0 0, .complex .f64 0 0, .int .u32 0], .iface 31 (.pointer (some ⟨g, 0, none⟩)), .int .i64 3] W4 fun e w' => e = .returned (.tuple #[.agg #[.int .u32 (cb.r 0), .int .u32 (cb.r 1), .int .u32 (cb.r 2), .int .u32 (cb.r 3), .int .u32 (cb.r 4), .int .u32 (cb.r 5), .int .u32 (cb.r 6), .int .u32 (cb.r 7), .complex .f64 (cb.z 0).1 (cb.z 0).2, .complex .f64 (cb.z 1).1 (cb.z 1).2, .int .u32 cb.pc], .int .i64 3, .int .i64 0]) ∧ RamAt w' g A B cap (memOf s2) ∧ But (fun k => k = B) W4 w' from hrun)
  have HGB := Lib.hid (show w.heap.size ≤ B ∧ W3.heap.size ≤ B from ⟨by omega, hB⟩)
  clear hrun hb4 hM hg hB hBl HX3 HB3
  go_wp2_with (fail)
  refine HRUN.out.mono ?_
  rintro e W5 ⟨rfl, hm5, hb5⟩
  have HB5 := Lib.hid (HB4.out.trans (hb5.below (B := w.heap.size) (fun k hk => by have := HGB.out.1; omega) HB4.out.size))
  have HX5 := Lib.hid (HX4.out.but hb5 (by have := HGB.out.2; omega))
  clear hb5 hm5 HRUN HB4 HX4
  go_upto_region 3 with (fail)
  have hx6 := HX5.out.alloc (.cells #[.int .u32 (cb.r 0), .int .u32 (cb.r 1), .int .u32 (cb.r 2), .int .u32 (cb.r 3), .int .u32 4294967291, .int .u32 12, .int .u32 (cb.r 6), .int .u32 (cb.r 7), .complex .f64 (zmk (-5) 12).1 (zmk (-5) 12).2, .complex .f64 (cb.z 1).1 (cb.z 1).2, .int .u32 cb.pc] 28)
  have hy6 := Blk.new W5 28 #[.int .u32 (cb.r 0), .int .u32 (cb.r 1), .int .u32 (cb.r 2), .int .u32 (cb.r 3), .int .u32 4294967291, .int .u32 12, .int .u32 (cb.r 6), .int .u32 (cb.r 7), .complex .f64 (zmk (-5) 12).1 (zmk (-5) 12).2, .complex .f64 (cb.z 1).1 (cb.z 1).2, .int .u32 cb.pc]
  have hb6 := bl_new HB5.out (.cells #[.int .u32 (cb.r 0), .int .u32 (cb.r 1), .int .u32 (cb.r 2), .int .u32 (cb.r 3), .int .u32 4294967291, .int .u32 12, .int .u32 (cb.r 6), .int .u32 (cb.r 7), .complex .f64 (zmk (-5) 12).1 (zmk (-5) 12).2, .complex .f64 (cb.z 1).1 (cb.z 1).2, .int .u32 cb.pc] 28)
  have HB6 := Lib.hid hb6
  clear hb6 ra rb rc rd re' rf rg
  generalize W5.alloc (.cells #[.int .u32 (cb.r 0), .int .u32 (cb.r 1), .int .u32 (cb.r 2), .int .u32 (cb.r 3), .int .u32 4294967291, .int .u32 12, .int .u32 (cb.r 6), .int .u32 (cb.r 7), .complex .f64 (zmk (-5) 12).1 (zmk (-5) 12).2, .complex .f64 (cb.z 1).1 (cb.z 1).2, .int .u32 cb.pc] 28) = W6 at *
  obtain ⟨x0, x1, x2, x3, x4, x5, x6, x7, x8, x9, x10, xlt⟩ := row11 hx6
  obtain ⟨y0, y1, y2, y3, y4, y5, y6, y7, y8, y9, y10, ylt⟩ := row11 hy6
  clear hx6 hy6
  go_quiet (exact Calls.quiet_of_same (HMK.out _))
  go_wp2
  go_ret
  exact ⟨rfl, by first | exact HB6.out | exact HB6.out.drew | exact below_drewN HB6.out _⟩
end
end Go.Proofs.YtoglmemmdolbmaaDoor

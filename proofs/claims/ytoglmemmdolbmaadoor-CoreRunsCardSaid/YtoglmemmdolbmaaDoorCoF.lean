/-
  How a run begins (the law's Cpu), walked. Condition: the parts are words.
-/
import Derived.Test.YtoglmemmdolbmaaDoorCoE
import Derived.Test.YtoglmemmdolbmaaDoorCo6
namespace Go.Proofs.YtoglmemmdolbmaaDoor
open Go.RowKit Go.Shelf
set_option linter.unusedVariables false
set_option linter.unusedSimpArgs false
attribute [local go_sem] Oper.semAt_some
attribute [local go_sem] run_store_complex
attribute [local irreducible] floatOfInt wz

theorem results_row1 {P : Program} {fn : Func} {p : Tmp} {ty : TypeId} (h : fn.results = #[.cell p ty]) (tmps : Array Value) {w : World} {g : Nat} {t : TypeId} {cs : Array Value} {d : TypeDesc}
    (hp : tmps.getD p undef = .pointer (some ⟨g, 0, none⟩)) (hg : Blk w g t cs) (hu : P.underlying ty = some d) (hd : (match d with | .struct _ | .array _ _ => true | _ => false) = true) (hi : (P.info? ty).map (·.size) = some cs.size) :
    (results fn tmps).run P w = .ok (.agg cs) w := by
  have e1 := run_loadVar_row w g t ty cs (0, 0) d hg hu hd hi
  have p1 : tmps[p]?.getD undef = .pointer (some ⟨g, 0, none⟩) := by simpa using hp
  simp only [results, h]
  simp [Sem.run_bind, Result.andThen, p1, asAddr, e1]
/-- The Cpu of a start. -/
noncomputable def cpuS (r : Nat → Int) (a b c d pc : Int) : Cp := ⟨r, fun i => if i = 0 then (floatOfInt .f64 a, floatOfInt .f64 b) else (floatOfInt .f64 c, floatOfInt .f64 d), pc⟩
def startArr (r : Nat → Int) (a b c d pc : Int) : Array Value := #[.int .u32 (r 0), .int .u32 (r 1), .int .u32 (r 2), .int .u32 (r 3), .int .u32 (r 4), .int .u32 (r 5), .int .u32 (r 6), .int .u32 (r 7), .int .i32 a, .int .i32 b, .int .i32 c, .int .i32 d, .int .u32 pc]
set_option maxRecDepth 100000 in
set_option maxHeartbeats 16000000 in
theorem cpu_any {w : World} (r : Nat → Int) (a b c d pc : Int) : Calls Tryd.prog 12 #[.agg (startArr r a b c d pc)] w fun e w' => e = .returned (.agg (cpuS r a b c d pc).arr) ∧ Below w.heap.size w w' := by
  have hX := Blk.new w 42 (startArr r a b c d pc)
  have HB := Lib.hid (bl_new (Below.refl w.heap.size w) (.cells (startArr r a b c d pc) 42))
  have HX := Lib.hid hX
  have s0 := hX.cell 0
  have s1 := hX.cell 1
  have s2 := hX.cell 2
  have s3 := hX.cell 3
  have s4 := hX.cell 4
  have s5 := hX.cell 5
  have s6 := hX.cell 6
  have s7 := hX.cell 7
  have s8 := hX.cell 8
  have s9 := hX.cell 9
  have s10 := hX.cell 10
  have s11 := hX.cell 11
  have s12 := hX.cell 12
  have slt := hX.lt
  unfold startArr at *
  simp only [List.getElem?_toArray, List.getElem?_cons_zero, List.getElem?_cons_succ] at s0 s1 s2 s3 s4 s5 s6 s7 s8 s9 s10 s11 s12
  clear hX
  go_enter Tryd.func12, Tryd.ntmps12
  go_wp2
  have hn := Blk.new (w.alloc (.cells #[.int .u32 (r 0), .int .u32 (r 1), .int .u32 (r 2), .int .u32 (r 3), .int .u32 (r 4), .int .u32 (r 5), .int .u32 (r 6), .int .u32 (r 7), .int .i32 a, .int .i32 b, .int .i32 c, .int .i32 d, .int .u32 pc] 42)) 28 (cpuS r a b c d pc).arr
  rw [World.size_alloc] at hn
  exact bodyPost_ret (results_row1 Tryd.results12 _ rfl hn Tryd.underlying28 rfl (by kernel_rfl)) rfl ⟨rfl, bl_new HB.out _⟩
end Go.Proofs.YtoglmemmdolbmaaDoor

/-
  New frames. Condition: none.
-/
import Derived.Test.YtlecfdchmcghlaaFr3
namespace Go.Proofs.Ytlecfdchmcghlaa
open Go.RowKit Go.Lib
set_option linter.unusedVariables false
set_option linter.unusedSimpArgs false

theorem bl_new {v W : World} (h : Below v.heap.size v W) (o : Obj) : Below v.heap.size v (W.alloc o) := h.alloc h.size o
theorem flat_len {s : Nat} : ∀ (rows : List (List Value)), (∀ r ∈ rows, r.length = s) → rows.flatten.length = rows.length * s
  | [], _ => by simp
  | y :: ys, h => by
    rw [List.flatten_cons, List.length_append, flat_len ys (fun r hr => h r (List.mem_cons_of_mem _ hr)), h y (List.mem_cons_self ..), List.length_cons, Nat.succ_mul, Nat.add_comm]
theorem made_rows {n : Nat} (hn : 1 ≤ n ∧ n ≤ 256) : madeCells zrow.toArray (n * 65) = ((frows (Fs.new n)).flatten ++ []).toArray := by
  have hok := Fs.new_ok hn
  rw [List.append_nil]
  apply Array.ext'
  unfold madeCells
  rw [Array.toList_map, Array.toList_range]
  apply List.ext_getElem?
  intro i
  have hl := flat_len (s := 65) (frows (Fs.new n)) (frows_all hok)
  rw [frows_len] at hl
  by_cases hi : i < n * 65
  · rw [List.getElem?_map, List.getElem?_range hi]
    have h1 := flat_get (frows (Fs.new n)) (i / 65) (i % 65) (frow (Fs.new n) (i / 65)) (frows_all hok) (Nat.mod_lt _ (by decide)) (frows_get _ (show i / 65 < n by omega))
    rw [show i / 65 * 65 + i % 65 = i by omega] at h1
    rw [h1]
    have hz : frow (Fs.new n) (i / 65) = zrow := rfl
    rw [hz]
    have hj : i % 65 < zrow.length := Nat.mod_lt _ (by decide)
    rw [List.getElem?_eq_getElem hj]
    show some (zrow.toArray[i % zrow.toArray.size]!) = _
    rw [show zrow.toArray.size = 65 from rfl]
    simp [hj]
  · rw [List.getElem?_eq_none (by rw [List.length_map, List.length_range]; omega), List.getElem?_eq_none (by rw [hl]; show n * 65 ≤ i; omega)]
theorem infoF : (Try.prog.info? 99).map (fun i => (i.zero, i.size, i.bytes)) = some (some (.agg zrow.toArray), 65, 72) := by kernel_rfl
set_option maxRecDepth 100000 in
theorem make_frames {n : Nat} (hn : 1 ≤ n ∧ n ≤ 256) (w : World) : (Instr.makeSlice 54 (.int .i64 (n : Int)) (.int .i64 (n : Int))).run Try.prog w = .ok (.slice (some ⟨w.heap.size, 0, none⟩) n n) (w.alloc (.cells ((frows (Fs.new n)).flatten ++ []).toArray 99)) := by
  have hi := infoF
  cases hq : Try.prog.info? 99 with
  | none => rw [hq] at hi; cases hi
  | some i =>
    rw [hq] at hi
    have hi := Option.some.inj hi
    have h1 : i.zero = some (.agg zrow.toArray) := congrArg (·.1) hi
    have h2 : i.size = 65 := congrArg (·.2.1) hi
    have h3 : i.bytes = 72 := congrArg (·.2.2) hi
    have h := run_makeSlice (P := Try.prog) w 54 99 i (.agg zrow.toArray) Try.underlying54 hq h1 .i64 .i64 (n : Int) (n : Int) (by omega) (by omega) (by rw [h2]; omega) (by rw [h3]; omega) (by omega)
    rw [Int.toNat_natCast, h2] at h
    rw [h]
    show Result.ok _ (w.alloc (.cells (madeCells zrow.toArray (n * 65)) _)) = _
    rw [made_rows hn]
set_option maxRecDepth 100000 in
theorem frNew_bad {w : World} (n : Int) (h : n < 1 ∨ 256 < n) :
    Calls Try.prog 10 #[.int .i64 n] w fun e w' => e = .returned (.tuple #[.pointer none, .int .i64 2]) ∧ w = w' := by
  by_cases h1 : n < 1
  · clear h
    go_enter Try.func10, Try.ntmps10
    go_wp2
    go_ret2
    exact ⟨rfl, rfl⟩
  · have h2 : 256 < n := by omega
    clear h
    go_enter Try.func10, Try.ntmps10
    go_wp2
    go_ret2
    exact ⟨rfl, rfl⟩
set_option maxRecDepth 100000 in
set_option maxHeartbeats 2000000 in
theorem frNew_any {w : World} (n : Nat) (hn : 1 ≤ n ∧ n ≤ 256) :
    Calls Try.prog 10 #[.int .i64 (n : Int)] w fun e w' => e = .returned (.tuple #[.pointer (some ⟨w.heap.size + 1, 0, none⟩), .int .i64 0]) ∧ FrAt w' (w.heap.size + 1) w.heap.size n (Fs.new n) ∧ Below w.heap.size w w' := by
  have hm := make_frames hn w
  have HP := Blk.new (w.alloc (.cells ((frows (Fs.new n)).flatten ++ []).toArray 99)) 56 #[.slice (some ⟨w.heap.size, 0, none⟩) n n]
  rw [World.size_alloc] at HP
  have HB := Lib.hid (bl_new (bl_new (Below.refl w.heap.size w) (.cells ((frows (Fs.new n)).flatten ++ []).toArray 99)) (.cells #[.slice (some ⟨w.heap.size, 0, none⟩) n n] 56))
  have HF := Lib.hid (show FrAt ((w.alloc (.cells ((frows (Fs.new n)).flatten ++ []).toArray 99)).alloc (.cells #[.slice (some ⟨w.heap.size, 0, none⟩) n n] 56)) (w.heap.size + 1) w.heap.size n (Fs.new n) from
    ⟨HP, ⟨[], (Blk.new w 99 _).alloc _⟩, by omega, Nat.le_refl _, Fs.new_ok hn⟩)
  have h1 : ¬ (n : Int) < 1 := by omega
  have h2 : ¬ (256 : Int) < (n : Int) := by omega
  clear HP
  generalize ((frows (Fs.new n)).flatten ++ []).toArray = cs at *
  go_enter Try.func10, Try.ntmps10
  go_wp2
  go_ret2
  exact ⟨rfl, HF.out, HB.out⟩
end Go.Proofs.Ytlecfdchmcghlaa

/-
  The tables of package call, and walks over its smallest functions and its reference's. Condition: the tables lie as the program's text lays them.
-/
import Derived.Deep.RegionHeld3
import Derived.Test.YthmjddnccgiinaaDoorTab
namespace Go.Proofs.YthmjddnccgiinaaDoor
open Go.RowKit
set_option linter.unusedVariables false
set_option linter.unusedSimpArgs false

def kindsL : List (List UInt8 × Int) := [([], -1), ([101, 120, 105, 116], 1), ([102, 111, 114, 107], 0), ([119, 97, 105, 116], 1), ([103, 101, 116, 112, 105, 100], 0), ([103, 101, 116, 112, 112, 105, 100], 0), ([112, 105, 112, 101], 1), ([114, 101, 97, 100], 3), ([119, 114, 105, 116, 101], 3), ([99, 108, 111, 115, 101], 1), ([100, 117, 112], 1), ([107, 105, 108, 108], 2), ([109, 97, 115, 107], 1), ([104, 97, 110, 100, 108, 101], 2), ([115, 105, 103, 114, 101, 116, 117, 114, 110], 0), ([102, 117, 116, 101, 120, 119, 97, 105, 116], 2), ([102, 117, 116, 101, 120, 119, 97, 107, 101], 2), ([115, 108, 101, 101, 112], 1), ([121, 105, 101, 108, 100], 0), ([109, 97, 112], 3), ([117, 110, 109, 97, 112], 2), ([97, 102, 102, 105, 110, 105, 116, 121], 1), ([112, 114, 105, 110, 116], 1)]
def codesL : List (Int × List UInt8) := [(1, [69, 80, 69, 82, 77]), (3, [69, 83, 82, 67, 72]), (4, [69, 73, 78, 84, 82]), (9, [69, 66, 65, 68, 70]), (10, [69, 67, 72, 73, 76, 68]), (11, [69, 65, 71, 65, 73, 78]), (12, [69, 78, 79, 77, 69, 77]), (14, [69, 70, 65, 85, 76, 84]), (16, [69, 66, 85, 83, 89]), (22, [69, 73, 78, 86, 65, 76]), (23, [69, 78, 70, 73, 76, 69]), (24, [69, 77, 70, 73, 76, 69]), (32, [69, 80, 73, 80, 69]), (38, [69, 78, 79, 83, 89, 83]), (60, [69, 78, 79, 84, 67, 76, 79, 83, 69, 68])]
def kArr : Array Value := (kindsL.flatMap pairSI).toArray
def cArr : Array Value := (codesL.flatMap pairIS).toArray
/-- The word and the count of row k; the number and the word of row k. -/
def kN (k : Nat) : ByteArray := ⟨(kindsL.getD k ([], -1)).1.toArray⟩
def kM (k : Nat) : Int := (kindsL.getD k ([], -1)).2
def cN (k : Nat) : Int := (codesL.getD k (0, [])).1
def cS (k : Nat) : ByteArray := ⟨(codesL.getD k (0, [])).2.toArray⟩
structure Laid (w : World) : Prop where
  kinds : ∃ t, Blk w 0 t kArr
structure Codes (w : World) : Prop where
  codes : ∃ t, Blk w 1 t cArr
theorem Laid.klt {w : World} (h : Laid w) : 0 < w.heap.size := h.kinds.elim fun _ x => x.lt
theorem Laid.belowB {B : Nat} {w w' : World} (h : Laid w) (hb : Below B w w') (hk : 0 < B) : Laid w' := by
  obtain ⟨t, h1⟩ := h
  exact ⟨t, h1.below hb hk⟩
theorem Laid.below {w w' : World} (h : Laid w) (hb : Below w.heap.size w w') : Laid w' := h.belowB hb h.klt
theorem Codes.below {w w' : World} (h : Codes w) (hb : Below w.heap.size w w') : Codes w' := by
  obtain ⟨t, h1⟩ := h
  exact ⟨t, h1.below hb h1.lt⟩
theorem kArr_at {k : Nat} (hk : k < 23) : kArr[k * 2]? = some (.string (kN k)) ∧ kArr[k * 2 + 1]? = some (.int .i64 (kM k)) := by
  have h : kindsL[k]? = some (kindsL.getD k ([], -1)) := by
    have hl : k < kindsL.length := hk
    rw [List.getD_eq_getElem?_getD, List.getElem?_eq_getElem hl]; rfl
  have h0 := tab_flat pairSI 2 (fun _ => rfl) kindsL k 0 _ (by omega) h
  have h1 := tab_flat pairSI 2 (fun _ => rfl) kindsL k 1 _ (by omega) h
  unfold kArr
  rw [List.getElem?_toArray, List.getElem?_toArray]
  exact ⟨h0, h1⟩
theorem cArr_at {k : Nat} (hk : k < 15) : cArr[k * 2]? = some (.int .i64 (cN k)) ∧ cArr[k * 2 + 1]? = some (.string (cS k)) := by
  have h : codesL[k]? = some (codesL.getD k (0, [])) := by
    have hl : k < codesL.length := hk
    rw [List.getD_eq_getElem?_getD, List.getElem?_eq_getElem hl]; rfl
  have h0 := tab_flat pairIS 2 (fun _ => rfl) codesL k 0 _ (by omega) h
  have h1 := tab_flat pairIS 2 (fun _ => rfl) codesL k 1 _ (by omega) h
  unfold cArr
  rw [List.getElem?_toArray, List.getElem?_toArray]
  exact ⟨h0, h1⟩
theorem Laid.kcell {w : World} (h : Laid w) {k : Nat} (hk : k < 23) : w.cell? ⟨0, k * 2, none⟩ = some (.string (kN k)) ∧ w.cell? ⟨0, k * 2 + 1, none⟩ = some (.int .i64 (kM k)) ∧ 0 < w.heap.size :=
  h.kinds.elim fun _ x => ⟨(x.cell _).trans (kArr_at hk).1, (x.cell _).trans (kArr_at hk).2, x.lt⟩

/-- A call's row, whatever number is asked for. -/
def kR (n : Int) : Nat := if 1 ≤ n ∧ n < 23 then n.toNat else 0
theorem kR_lt (n : Int) : kR n < 23 := by unfold kR; split <;> omega
theorem kR_in {k : Nat} (h1 : 1 ≤ k) (h2 : k < 23) : kR (k : Int) = k := by unfold kR; rw [if_pos (by omega)]; omega
theorem kR_out {n : Int} (h : n < 1 ∨ 23 ≤ n) : kR n = 0 := by unfold kR; rw [if_neg (by omega)]

set_option maxHeartbeats 1000000 in
theorem of_any {w : World} (hL : Laid w) (n : Int) : Calls Tryd.prog 32 #[.int .i64 n] w fun e w' => e = .returned (.agg #[.string (kN (kR n)), .int .i64 (kM (kR n))]) ∧ Below w.heap.size w w' := by
  by_cases h : 1 ≤ n ∧ n < 23
  · obtain ⟨k, rfl⟩ := Int.eq_ofNat_of_zero_le (show 0 ≤ n by omega)
    have h1 : 1 ≤ k := by omega
    have h2 : k < 23 := by omega
    rw [kR_in h1 h2]
    obtain ⟨c0, c1, hlt⟩ := hL.kcell h2
    have hn1 : ¬ (k : Int) < 1 := by omega
    have hn2 : (k : Int) < 23 := by omega
    clear h hL
    go_enter Tryd.func32, Tryd.ntmps32
    go_wp2
    exact bodyPost_ret (v := .agg #[.string (kN k), .int .i64 (kM k)]) (by simp [results, Tryd.results32, go_sem]) rfl ⟨rfl, (Below.refl _ _).alloc (Nat.le_refl _) _⟩
  · rw [kR_out (by omega)]
    obtain ⟨c0, c1, hlt⟩ := hL.kcell (show 0 < 23 by omega)
    simp only [Nat.zero_mul, Nat.zero_add] at c0 c1
    generalize kN 0 = s at *
    generalize kM 0 = m at *
    clear hL
    by_cases hn : n < 1
    · clear h
      go_enter Tryd.func32, Tryd.ntmps32
      go_wp2
      exact bodyPost_ret (v := .agg #[.string s, .int .i64 m]) (by simp [results, Tryd.results32, go_sem]) rfl ⟨rfl, (Below.refl _ _).alloc (Nat.le_refl _) _⟩
    · have hn2 : 23 ≤ n := by omega
      clear h
      go_enter Tryd.func32, Tryd.ntmps32
      go_wp2
      exact bodyPost_ret (v := .agg #[.string s, .int .i64 m]) (by simp [results, Tryd.results32, go_sem]) rfl ⟨rfl, (Below.refl _ _).alloc (Nat.le_refl _) _⟩
theorem kind_name (s : ByteArray) (m : Int) (w : World) : (Instr.field 62 (.agg #[.string s, .int .i64 m]) 0).run Tryd.prog w = .ok (.string s) w := by kernel_rfl
theorem kind_many (s : ByteArray) (m : Int) (w : World) : (Instr.field 62 (.agg #[.string s, .int .i64 m]) 1).run Tryd.prog w = .ok (.int .i64 m) w := by kernel_rfl
set_option maxRecDepth 100000 in
theorem name_any {w : World} (hL : Laid w) (n : Int) : Calls Tryd.prog 12 #[.int .i64 n] w fun e w' => e = .returned (.string (kN (kR n))) ∧ Below w.heap.size w w' := by
  have H := Lib.hid (of_any hL n)
  generalize kR n = r at *
  have HF := fun w => kind_name (kN r) (kM r) w
  clear hL
  go_enter Tryd.func12, Tryd.ntmps12
  go_wp2_with fail
  refine H.out.mono ?_
  rintro e w1 ⟨rfl, hb⟩
  go_wp2
  go_ret
  exact ⟨rfl, hb⟩
set_option maxRecDepth 100000 in
theorem many_any {w : World} (hL : Laid w) (n : Int) : Calls Tryd.prog 13 #[.int .i64 n] w fun e w' => e = .returned (.int .i64 (kM (kR n))) ∧ Below w.heap.size w w' := by
  have H := Lib.hid (of_any hL n)
  generalize kR n = r at *
  have HF := fun w => kind_many (kN r) (kM r) w
  clear hL
  go_enter Tryd.func13, Tryd.ntmps13
  go_wp2_with fail
  refine H.out.mono ?_
  rintro e w1 ⟨rfl, hb⟩
  go_wp2
  go_ret
  exact ⟨rfl, hb⟩

end Go.Proofs.YthmjddnccgiinaaDoor

/-
  The chapter's space, its first examples, a space with some pages mapped: walked. Condition: none.
-/
import Derived.Test.YtlecfdchmcghlaaUs3
namespace Go.Proofs.Ytlecfdchmcghlaa
open Go.RowKit Go.Shelf
set_option linter.unusedVariables false
set_option linter.unusedSimpArgs false
attribute [local go_sem] Oper.semAt_some

/-- The chapter's space. -/
def CS0 : Fs × M := (mapA (Fs.new 4) m0 0 1 true false).2
def ab : ByteArray := ⟨#[97, 98]⟩
def CS1 : Fs × M := (putA CS0.1 CS0.2 60 ab).2
def CS2 : Fs × M := (putA CS1.1 CS1.2 62 ab).2
theorem c_put1 : (putA CS0.1 CS0.2 60 ab).1 = 0 := by decide +kernel
theorem c_put2 : (putA CS1.1 CS1.2 62 ab).1 = 14 := by decide +kernel
theorem c_text1 : textP CS2.1 CS2.2 60 9 = ([97, 98], 0) := by decide +kernel
theorem c_text2 : (textP CS2.1 CS2.2 60 2).2 = 22 := by decide +kernel
theorem str_ab : strOfNums [97, 98] = ab := by decide +kernel
set_option maxRecDepth 100000 in
set_option maxHeartbeats 2000000 in
theorem some_any {w W : World} (hw : Below w.heap.size w W) : Calls Try.prog 19 #[] W fun e W' => ∃ fb so, e = .returned (.pointer (some ⟨so, 0, none⟩)) ∧ MS w W' fb CS0.1 so CS0.2 := by
  have HW := Lib.hid hw
  clear hw
  go_enter Try.func19, Try.ntmps19
  go_wp2_with (fail)
  refine (asFrames 4 (by decide)).mono ?_
  rintro e W1 ⟨fb, lb, rfl, hf, hb1, g1, g2⟩
  have HF := Lib.hid hf
  have HB := Lib.hid (bl_step HW.out hb1)
  have HG := Lib.hid (show w.heap.size ≤ fb ∧ w.heap.size ≤ lb from ⟨Nat.le_trans HW.out.size g1, Nat.le_trans HW.out.size g2⟩)
  clear hf hb1 g1 g2
  go_wp2_with (fail)
  refine (msSpace HF.out (by decide) HB.out HG.out.1 HG.out.2).mono ?_
  rintro e W2 ⟨so, rfl, h2⟩
  have H2 := Lib.hid h2
  clear h2
  go_wp2_with (fail)
  refine (msMap H2.out 0 1 true false).mono ?_
  rintro e W3 ⟨rfl, h3, _⟩
  have H3 := Lib.hid h3
  clear h3
  go_wp2
  go_ret
  exact ⟨fb, so, rfl, H3.out⟩
set_option maxRecDepth 100000 in
set_option maxHeartbeats 4000000 in
theorem alive_any {w : World} : Calls Try.prog 6 #[] w fun e W' => e = .returned (.bool true) ∧ Below w.heap.size w W' := by
  go_enter Try.func6, Try.ntmps6
  go_wp2_with (fail)
  refine (some_any (Below.refl w.heap.size w)).mono ?_
  rintro e W1 ⟨fb, so, rfl, h1⟩
  have H1 := Lib.hid h1
  clear h1
  go_wp2_with (fail)
  refine (putText_any H1.out 60 (by decide) ab).mono ?_
  rintro e W2 ⟨rfl, h2⟩
  rw [c_put1]
  have H2 := Lib.hid (show MS w W2 fb CS1.1 so CS1.2 from h2)
  clear h2
  go_wp2_with (fail)
  refine (putText_any H2.out 62 (by decide) ab).mono ?_
  rintro e W3 ⟨rfl, h3⟩
  rw [c_put2]
  have H3 := Lib.hid (show MS w W3 fb CS2.1 so CS2.2 from h3)
  clear h3
  obtain ⟨lb, cap, bt, q, hfs⟩ := H3.out.fs
  have HFS := Lib.hid hfs
  have HL := Lib.hid H3.out.lo
  clear hfs
  go_wp2_with (fail)
  refine (text_any (HFS.out.below (Below.refl _ _)) H3.out.ok 60 9 (by decide) (by decide)).mono ?_
  rintro e W4 ⟨rfl, h4⟩
  rw [c_text1]
  simp only [str_ab]
  have H4 := Lib.hid h4
  clear h4
  go_wp2_with (fail)
  refine (text_any (HFS.out.below H4.out) H3.out.ok 60 2 (by decide) (by decide)).mono ?_
  rintro e W5 ⟨rfl, h5⟩
  rw [c_text2]
  have H5 := Lib.hid (bl_step (bl_step HL.out H4.out) h5)
  clear h5
  unfold ab
  go_wp2
  go_ret
  exact ⟨rfl, H5.out⟩
set_option maxRecDepth 100000 in
set_option maxHeartbeats 4000000 in
theorem mapped_any {w W : World} (hw : Below w.heap.size w W) (pages : Int) (hp : 0 ≤ pages ∧ pages ≤ 65535) : Calls Try.prog 7 #[.int .u16 pages] W fun e W' => ∃ fb so F m, e = .returned (.pointer (some ⟨so, 0, none⟩)) ∧ MS w W' fb F so m := by
  have HW := Lib.hid hw
  clear hw
  go_enter Try.func7, Try.ntmps7
  go_wp2_with (fail)
  refine (asFrames 64 (by decide)).mono ?_
  rintro e W1 ⟨fb, lb, rfl, hf, hb1, g1, g2⟩
  have HF := Lib.hid hf
  have HB := Lib.hid (bl_step HW.out hb1)
  have HG := Lib.hid (show w.heap.size ≤ fb ∧ w.heap.size ≤ lb from ⟨Nat.le_trans HW.out.size g1, Nat.le_trans HW.out.size g2⟩)
  clear hf hb1 g1 g2
  go_wp2_with (fail)
  refine (msSpace HF.out (by decide) HB.out HG.out.1 HG.out.2).mono ?_
  rintro e W2 ⟨so, rfl, h2⟩
  have H2 := Lib.hid h2
  clear h2
  go_wp2_with (fail)
  go_loopw [6] (fun i wr => ∃ k : Nat, i = .int .i64 (k : Int) ∧ k ≤ 16 ∧ ∃ F m, Hid (MS w wr fb F so m)) (fun i _ => 16 - (intOf i).toNat)
  case atStart => exact ⟨0, rfl, Nat.zero_le _, _, _, H2⟩
  case round =>
    obtain ⟨k, rfl, hk, F, m, HM⟩ := hrel
    by_cases hk6 : k < 16
    · have hki : (k : Int) < 16 := by omega
      go_wp2_with (refine (msMap HM.out k 1 true false).mono ?_; rintro e W3 ⟨rfl, h3, _⟩; have H3 := Lib.hid h3; clear h3)
      all_goals first
        | exact ⟨⟨k + 1, by go_num, by omega, _, _, H3⟩, by simp [intOf]; omega⟩
        | exact ⟨⟨k + 1, by go_num, by omega, _, _, HM⟩, by simp [intOf]; omega⟩
    · have hki : ¬ (k : Int) < 16 := by omega
      go_wp2
      go_ret
      exact ⟨_, _, rfl, _, _, HM.out⟩
end Go.Proofs.Ytlecfdchmcghlaa

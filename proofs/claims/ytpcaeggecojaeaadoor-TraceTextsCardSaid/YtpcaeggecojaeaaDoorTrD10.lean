/-
  The chapter's first examples hold. Condition: the tables lie as the program's text, and the library's, lay them.
-/
import Derived.Test.YtpcaeggecojaeaaDoorTrPl
namespace Go.Proofs.YtpcaeggecojaeaaDoor
open Go.RowKit
set_option linter.unusedVariables false
set_option linter.unusedSimpArgs false

set_option maxRecDepth 100000 in
set_option maxHeartbeats 4000000 in
theorem says_any {w : World} (hG : Ground w) (p c : Int) (k u : Nat) (hu : u < 4294967296) (hm : May ⟨p, k, c, u⟩) (s : ByteArray) (hs : s.data.toList = lineL ⟨p, k, c, u⟩) (hsz : s.size ≤ 1000000) :
    Calls Tryd.prog 24 #[.agg #[.int .i64 p, .int .i64 k, .int .i64 c, .int .u32 u], .string s] w fun e w' => e = .returned (.bool true) ∧ Below w.heap.size w w' := by
  have hb0 := (Below.refl w.heap.size w).alloc (Nat.le_refl _) (.cells #[.int .i64 p, .int .i64 k, .int .i64 c, .int .u32 u] 27)
  have HL := Lib.hid (fun W (hW : Below w.heap.size w W) => show Calls Tryd.prog 13 #[.agg #[.int .i64 p, .int .i64 k, .int .i64 c, .int .u32 u]] W fun e w' => e = .returned (.tuple #[.string s, .int .i64 0]) ∧ Below W.heap.size W w' from by
    have h := line_yes (hG.below hW) p c k u hu hm
    rw [← hs] at h
    exact h)
  have HR := Lib.hid (fun W (hW : Below w.heap.size w W) => show Calls Tryd.prog 16 #[.string s] W fun e w' => e = .returned (.tuple #[.agg #[.int .i64 p, .int .i64 k, .int .i64 c, .int .u32 u], .int .i64 0]) ∧ Below W.heap.size W w' from by
    have h := read_any (hG.below hW) s hsz
    rw [hs, read_line hm (by simp only; omega) (by simp only; omega)] at h
    exact h)
  have hx := Blk.new w 27 #[.int .i64 p, .int .i64 k, .int .i64 c, .int .u32 u]
  have HE := fun w => eqSeen ⟨p, k, c, u⟩ ⟨p, k, c, u⟩ w
  have hd : decide ((⟨p, k, c, u⟩ : S) = ⟨p, k, c, u⟩) = true := decide_eq_true rfl
  simp only [hd, S.cells] at HE
  have hq := seq_true (rfl : s = s)
  clear hm hs hd hG
  go_enter Tryd.func24, Tryd.ntmps24
  go_wp2_with fail
  refine (HL.out _ hb0).mono ?_
  rintro e w1 ⟨rfl, hb1⟩
  have hx1 := hx.below hb1 hx.lt
  have hB1 := hb0.trans (hb1.mono hb0.size)
  clear hx hb0 hb1
  go_wp2_with fail
  refine (HR.out _ hB1).mono ?_
  rintro e w2 ⟨rfl, hb2⟩
  have hx2 := hx1.below hb2 hx1.lt
  have HB2 := Lib.hid (hB1.trans (hb2.mono hB1.size))
  clear hx1 hb2 hB1
  have hxl := hx2.lt
  have hcx := ccells hx2
  go_wp2
  go_ret
  exact ⟨by first | rfl | simp, HB2.out.alloc HB2.out.size _⟩

theorem line_one : lineL ⟨3, 1, 2, 7⟩ = [51, 32, 114, 101, 115, 117, 108, 116, 32, 50, 32, 55] := by rw [← lineF_eq (by decide) (by decide) (by decide)]; decide
theorem line_two : lineL ⟨1, 4, 0, 255⟩ = [49, 32, 101, 120, 105, 116, 32, 50, 53, 53] := by rw [← lineF_eq (by decide) (by decide) (by decide)]; decide
theorem alive_any {w : World} (hG : Ground w) : Calls Tryd.prog 9 #[] w fun e w' => e = .returned (.bool true) ∧ Below w.heap.size w w' := by
  have H1 := Lib.hid (says_any hG 3 2 1 7 (by decide) (by decide) ⟨#[51, 32, 114, 101, 115, 117, 108, 116, 32, 50, 32, 55]⟩ line_one.symm (by decide))
  have H2 := Lib.hid (fun W (hW : Below w.heap.size w W) => says_any (hG.below hW) 1 0 4 255 (by decide) (by decide) ⟨#[49, 32, 101, 120, 105, 116, 32, 50, 53, 53]⟩ line_two.symm (by decide))
  clear hG
  go_enter Tryd.func9, Tryd.ntmps9
  go_wp2_with fail
  refine H1.out.mono ?_
  rintro e w1 ⟨rfl, hb1⟩
  have HB1 := Lib.hid hb1
  clear hb1
  go_wp2_with fail
  refine (H2.out _ HB1.out).mono ?_
  rintro e w2 ⟨rfl, hb2⟩
  have HB2 := Lib.hid (HB1.out.trans (hb2.mono HB1.out.size))
  clear hb2
  go_wp2
  go_ret
  exact ⟨rfl, HB2.out⟩
end Go.Proofs.YtpcaeggecojaeaaDoor

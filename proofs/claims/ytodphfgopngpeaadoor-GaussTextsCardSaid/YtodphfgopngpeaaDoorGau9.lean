/-
  The text of the chapter's number; the chapter's examples. No condition.
-/
import Derived.Test.YtodphfgopngpeaaDoorGau8
namespace Go.Proofs.YtodphfgopngpeaaDoor
open Go.RowKit Go.Shelf
set_option linter.unusedVariables false
set_option linter.unusedSimpArgs false
attribute [local irreducible] floatOfInt wz

set_option maxRecDepth 100000 in
theorem fmt0_any {w : World} (n : Int) (hn : n = 11 ∨ n = 10) : Calls Tryd.prog 47 #[.int .i64 n, .int .i64 10] w fun e w' => e = .returned (.string (if n = 11 then ⟨#[49, 49]⟩ else ⟨#[49, 48]⟩)) ∧ w = w' := by
  have H := Lib.hid (fun W => small_any (w := W) n hn)
  generalize (if n = 11 then (⟨#[49, 49]⟩ : ByteArray) else ⟨#[49, 48]⟩) = s at *
  have h0 : 0 ≤ n := by omega
  have h1 : n < 100 := by omega
  clear hn
  go_enter Tryd.func47, Tryd.ntmps47
  go_wp2_with (go_at_call 62; refine (H.out _).mono ?_; rintro e w1 ⟨rfl, rfl⟩)
  go_ret
  exact ⟨rfl, rfl⟩
set_option maxRecDepth 100000 in
theorem fmt_any {w : World} (n : Int) (hn : n = 11 ∨ n = 10) : Calls Tryd.prog 33 #[.int .i64 n, .int .i64 10] w fun e w' => e = .returned (.string (if n = 11 then ⟨#[49, 49]⟩ else ⟨#[49, 48]⟩)) ∧ w = w' := by
  have H := Lib.hid (fun W => fmt0_any (w := W) n hn)
  generalize (if n = 11 then (⟨#[49, 49]⟩ : ByteArray) else ⟨#[49, 48]⟩) = s at *
  clear hn
  go_enter Tryd.func33, Tryd.ntmps33
  go_wp2_with (go_at_call 47; refine (H.out _).mono ?_; rintro e w1 ⟨rfl, rfl⟩)
  go_ret
  exact ⟨rfl, rfl⟩
theorem wz_small {n : Int} (h0 : -524288 ≤ n) (h1 : n ≤ 524287) : wz n = n := by unfold wz; omega
set_option maxRecDepth 100000 in
theorem text_any {w : World} : Calls Tryd.prog 21 #[mk 11 10] w fun e w' => e = .returned (.string ⟨#[49, 49, 43, 49, 48, 105]⟩) ∧ Below w.heap.size w w' := by
  have HM := Lib.hid (fun W => mayMk (w := W) 11 10)
  have HP := Lib.hid (fun W => partsMk (w := W) 11 10)
  have H1 := Lib.hid (fun W => fmt_any (w := W) 11 (.inl rfl))
  have H2 := Lib.hid (fun W => fmt_any (w := W) 10 (.inr rfl))
  rw [wz_small (by decide) (by decide), wz_small (by decide) (by decide)] at HP
  simp only [if_true, show ¬ ((10 : Int) = 11) by decide, if_false] at H1 H2
  generalize mk 11 10 = v at *
  go_enter Tryd.func21, Tryd.ntmps21
  go_wp2_with fail
  refine (HM.out _).mono ?_
  rintro e w1 ⟨rfl, hb1⟩
  go_wp2_with fail
  refine (HP.out _).mono ?_
  rintro e w2 ⟨rfl, hb2⟩
  have HB := Lib.hid (hb1.trans (hb2.mono hb1.size))
  clear hb1 hb2
  go_wp2_with fail
  refine (H1.out _).mono ?_
  rintro e w3 ⟨rfl, rfl⟩
  go_wp2_with fail
  refine (H2.out _).mono ?_
  rintro e w3 ⟨rfl, rfl⟩
  go_wp2
  go_ret
  exact ⟨rfl, HB.out⟩

set_option maxRecDepth 100000 in
set_option maxHeartbeats 2000000 in
theorem alive_any {w : World} : Calls Tryd.prog 8 #[] w fun e w' => e = .returned (.bool true) ∧ Below w.heap.size w w' := by
  have HG := Lib.hid (fun W p q => gMake_any (w := W) p q)
  have HX := Lib.hid (fun W => mulMk (w := W) 2 3 4 (-1))
  have HA := Lib.hid (fun W => addMk (w := W) 524287 0 1 0)
  have HN := Lib.hid (fun W => normMk (w := W) 3 4)
  have HT := Lib.hid (fun W => text_any (w := W))
  rw [wz_small (n := 2) (by decide) (by decide), wz_small (n := 3) (by decide) (by decide), wz_small (n := 4) (by decide) (by decide), wz_small (n := -1) (by decide) (by decide), show mk (2 * 4 - 3 * -1) (2 * -1 + 3 * 4) = mk 11 10 from rfl] at HX
  rw [wz_small (n := 524287) (by decide) (by decide), wz_small (n := 0) (by decide) (by decide), wz_small (n := 1) (by decide) (by decide), show mk (524287 + 1) (0 + 0) = mk (-524288) 0 from mk_same (by unfold wz; decide) rfl] at HA
  rw [wz_small (n := 3) (by decide) (by decide), wz_small (n := 4) (by decide) (by decide), show (3 * 3 + 4 * 4 : Int) = 25 from rfl] at HN
  have k1 := fun w : World => mk_eql 11 10 w
  have k2 := fun w : World => mk_eql (-524288) 0 w
  have g1 := fun (x y : Operand) (w : World) => mk_guard 11 10 x y w
  have g2 := fun (x y : Operand) (w : World) => mk_guard (-524288) 0 x y w
  go_enter Tryd.func8, Tryd.ntmps8
  go_wp2_with fail
  refine (HG.out _ _ _).mono ?_
  rintro e w1 ⟨rfl, rfl⟩
  go_wp2_with fail
  refine (HG.out _ _ _).mono ?_
  rintro e w1 ⟨rfl, rfl⟩
  go_wp2_with fail
  refine (HX.out _).mono ?_
  rintro e w2 ⟨rfl, hb2⟩
  have HB2 := Lib.hid hb2
  clear hb2
  go_wp2_with fail
  refine (HG.out _ _ _).mono ?_
  rintro e w1 ⟨rfl, rfl⟩
  go_wp2_with fail
  refine (HG.out _ _ _).mono ?_
  rintro e w1 ⟨rfl, rfl⟩
  go_wp2_with fail
  refine (HT.out _).mono ?_
  rintro e w3 ⟨rfl, hb3⟩
  have HB3 := Lib.hid (HB2.out.trans (hb3.mono HB2.out.size))
  clear hb3
  go_wp2_with fail
  refine (HG.out _ _ _).mono ?_
  rintro e w1 ⟨rfl, rfl⟩
  go_wp2_with fail
  refine (HG.out _ _ _).mono ?_
  rintro e w1 ⟨rfl, rfl⟩
  go_wp2_with fail
  refine (HA.out _).mono ?_
  rintro e w4 ⟨rfl, hb4⟩
  have HB4 := Lib.hid (HB3.out.trans (hb4.mono HB3.out.size))
  clear hb4
  go_wp2_with fail
  refine (HG.out _ _ _).mono ?_
  rintro e w1 ⟨rfl, rfl⟩
  go_wp2_with fail
  refine (HG.out _ _ _).mono ?_
  rintro e w1 ⟨rfl, rfl⟩
  go_wp2_with fail
  refine (HN.out _).mono ?_
  rintro e w5 ⟨rfl, hb5⟩
  have HB5 := Lib.hid (HB4.out.trans (hb5.mono HB4.out.size))
  clear hb5
  go_wp2
  go_ret
  exact ⟨rfl, HB5.out⟩
end Go.Proofs.YtodphfgopngpeaaDoor

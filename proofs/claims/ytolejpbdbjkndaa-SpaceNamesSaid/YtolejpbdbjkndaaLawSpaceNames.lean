/-
  The law SpaceNames answers true: limits have their numbers; the examples of the chapter; what is refused, and of none. No condition.
-/
import Derived.Test.YtolejpbdbjkndaaSpN2
namespace Go.Proofs.Ytolejpbdbjkndaa.lawSpaceNames
open Go.ChangeShapes Go.WideShapes Go.ChangeAt Go.RowKit
set_option linter.unusedVariables false
set_option linter.unusedSimpArgs false
attribute [local go_sem] Oper.semAt_some

def U1 : Fs × M := unmapGo S1.1 S1.2 0 1
def M2 : Fs × M := mapGo U1.1 U1.2 0 false true 1
set_option maxRecDepth 100000 in
theorem read_facts : look S1.2 (2 : Int) = none ∧ look S1.2 (1 : Int) = some ⟨1, true, false, false, true⟩ ∧ pcJ 120 9 = 2 ∧ pcJ 120 8 = 1 ∧ cntP S1.2 1 2 ≠ 2 ∧ cntP S1.2 0 1 = 1 := by decide +kernel
set_option maxRecDepth 100000 in
theorem u1_facts : frameP U1.2 0 = (-1, false) ∧ frameP U1.2 64 = (1, false) ∧ cntP U1.2 0 1 = 0 ∧ (1 : Int) ≤ freeN U1.1 := by decide +kernel
set_option maxRecDepth 100000 in
theorem m2_facts : frameP M2.2 0 = (0, true) ∧ look M2.2 (0 : Int) = some ⟨0, false, true, false, true⟩ ∧ pcJ 4000 0 = 0 ∧ (0 : Int) ≤ freeN M2.1 := by decide +kernel
set_option maxRecDepth 100000 in
theorem m2_ok : usedB M2.1 M2.2 = true ∧ oneB M2.2 = true := by decide +kernel
theorem no_read : ¬ okK S1.2 120 false (pcJ 120 9) := fun h => by
  rw [read_facts.2.2.1] at h
  obtain ⟨x, hx, _⟩ := h 1 (by decide)
  have hx : look S1.2 (2 : Int) = some x := hx
  rw [read_facts.1] at hx
  cases hx
theorem yes_read : okK S1.2 120 false (pcJ 120 8) := fun j hj => by
  rw [read_facts.2.2.2.1] at hj
  have : j = 0 := by omega
  subst this
  exact ⟨_, read_facts.2.1, fun e => by cases e⟩
theorem no_write : ¬ okK M2.2 0 true (pcJ 0 1) := fun h => by
  obtain ⟨x, hx, hw⟩ := (okK_one M2.2 0 true).1 h
  have hx : look M2.2 (0 : Int) = some x := hx
  rw [m2_facts.2.1] at hx
  cases hx
  have := hw rfl
  cases this
theorem yes_write : okK M2.2 4000 true (pcJ 4000 0) := fun j hj => by
  rw [m2_facts.2.2.1] at hj
  omega

set_option maxRecDepth 200000 in
set_option maxHeartbeats 4000000 in
theorem walk {w : World} : Calls Try.prog 4 #[] w fun e w' => e = .returned (.bool true) ∧ Below w.heap.size w w' := by
  have H2 := Lib.hid (two_any (w := w))
  have HRF := Lib.hid read_facts
  have HUF := Lib.hid u1_facts
  have HMF := Lib.hid m2_facts
  have HNR := Lib.hid no_read
  have HYR := Lib.hid yes_read
  have HNW := Lib.hid no_write
  have HYW := Lib.hid yes_write
  have HO1 := Lib.hid (spOk_of s1_ok.1 s1_ok.2)
  have HOM := Lib.hid (spOk_of m2_ok.1 m2_ok.2)
  go_enter Try.func4, Try.ntmps4
  go_wp2_with (fail)
  refine H2.out.mono ?_
  rintro e W1 ⟨fb, lb, cap, sb, bt, q, rfl, hT⟩
  have HT1 := Lib.hid hT
  clear hT
  go_wp2_with (fail)
  refine (spRead_no HT1.out.fs HO1.out 120 9 (by decide) (by decide) HNR.out).mono ?_
  rintro e W2 ⟨rfl, hb⟩
  have HT2 := Lib.hid (HT1.out.below hb)
  clear hb HT1
  go_wp2_with (fail)
  refine (spRead_yes HT2.out.fs HO1.out 120 8 (by decide) (by decide) HYR.out).mono ?_
  rintro e W3 ⟨v, rfl, hrow, hb⟩
  obtain ⟨g, c, cur, rfl, _, _, _⟩ := row_open hrow (by decide)
  have HT3 := Lib.hid (HT2.out.below hb)
  clear hb hrow HT2
  go_wp2_with (fail)
  refine (spUnmap_few HT3.out.fs 1 2 (by decide) (by decide) HRF.out.2.2.2.2.1).mono ?_
  rintro e W4 ⟨rfl, hb⟩
  have HT4 := Lib.hid (HT3.out.below hb)
  clear hb HT3
  go_wp2_with (fail)
  refine (spUnmap_yes HT4.out.fs 0 1 (by decide) (by decide) HRF.out.2.2.2.2.2).mono ?_
  rintro e W5 ⟨rfl, ho⟩
  obtain ⟨q5, hT⟩ := HT4.out.fout ho
  have HT5 := Lib.hid (show TS w W5 fb lb cap U1.1 sb bt q5 U1.2 from hT)
  clear hT ho HT4
  go_wp2_with (fail)
  refine (spFrame_any HT5.out.fs 0 (by decide)).mono ?_
  rintro e W6 ⟨rfl, hb⟩
  rw [HUF.out.1]
  have HT6 := Lib.hid (HT5.out.below hb)
  clear hb HT5
  go_wp2_with (fail)
  refine (spFrame_any HT6.out.fs 64 (by decide)).mono ?_
  rintro e W7 ⟨rfl, hb⟩
  rw [HUF.out.2.1]
  have HT7 := Lib.hid (HT6.out.below hb)
  clear hb HT6
  go_wp2_with (fail)
  refine (spMap_yes HT7.out.fs 0 1 false true (by decide) (by decide) HUF.out.2.2.1 HUF.out.2.2.2).mono ?_
  rintro e W8 ⟨rfl, ho⟩
  obtain ⟨q8, hT⟩ := HT7.out.fout ho
  have HT8 := Lib.hid (show TS w W8 fb lb cap M2.1 sb bt q8 M2.2 from hT)
  clear hT ho HT7
  go_wp2_with (fail)
  refine (spFrame_any HT8.out.fs 0 (by decide)).mono ?_
  rintro e W9 ⟨rfl, hb⟩
  rw [HMF.out.1]
  have HT9 := Lib.hid (HT8.out.below hb)
  clear hb HT8
  go_wp2_with (fail)
  have hbl := bl_new (Below.refl W9.heap.size W9) (.cells #[.int .u8 1] 5)
  have HT10 := Lib.hid (HT9.out.below hbl)
  clear hbl HT9
  refine (spWrite_no HT10.out.fs HOM.out 0 1 (some ⟨W9.heap.size, 0, none⟩) 1 (by decide) (by decide) HNW.out).mono ?_
  rintro e W11 ⟨rfl, hb⟩
  have HT11 := Lib.hid (HT10.out.below hb)
  clear hb HT10
  go_wp2_with (fail)
  refine (spWrite_yes HT11.out.fs HOM.out 4000 0 none 0 (by decide) (by decide) HYW.out (by rw [HMF.out.2.2.1]; exact HMF.out.2.2.2) [] rfl (fun x hx => by cases hx) (fun h => absurd h (by decide)) (Nat.le_refl _)).mono ?_
  rintro e W12 ⟨rfl, ho⟩
  rw [HMF.out.2.2.1] at ho
  have HT12 := Lib.hid (show TS w W12 fb lb cap M2.1 sb bt q8 M2.2 from HT11.out.wout ho)
  clear ho HT11
  go_wp2_with (fail)
  refine (nilRead_any 0 0).mono ?_
  rintro e W13 ⟨rfl, hb⟩
  have HT13 := Lib.hid (HT12.out.below hb)
  clear hb HT12
  go_wp2_with (fail)
  refine alive_any.mono ?_
  rintro e W14 ⟨rfl, hb⟩
  have HT14 := Lib.hid (HT13.out.below hb)
  clear hb HT13
  go_wp2_with (fail)
  refine (nilMap_any 0 1 true true).mono ?_
  rintro e _ ⟨rfl, rfl⟩
  go_wp2_with (fail)
  refine nilClone_any.mono ?_
  rintro e _ ⟨rfl, rfl⟩
  go_wp2_with (fail)
  refine nilNew_any.mono ?_
  rintro e _ ⟨rfl, rfl⟩
  go_wp2_with (fail)
  refine nilDirty_any.mono ?_
  rintro e _ ⟨rfl, rfl⟩
  go_wp2
  go_ret
  exact ⟨rfl, HT14.out.lo⟩

theorem own : ownKnob Try.prog.godebug = none := by kernel_rfl
theorem laidOut : laidOutB Try.prog = true := by kernel_rfl

set_option maxRecDepth 100000 in
theorem lifted (os : Os) (started : os.Started) (H : Type) (enc : TypeId × Value → H) :
    ReturnsInHanded {} Try.checked os 4 .any (Rows.spaceNamesSpec.pre6 enc Try.prog Try.f4 Rows.spaceNamesRow.domain false) (Rows.spaceNamesSpec.post enc Try.prog Try.f4 false true false false) := by
  refine returnsInHanded_of_change (C := Try.checked) own started (by kernel_rfl) Try.func4
    (ChangeSpec.witness6 (enc := enc) (C := Try.checked) false ⟨#[], #[], []⟩ 8 (by kernel_rfl) (by kernel_rfl) (by kernel_rfl) (by kernel_rfl)) ?_
  intro W base args ds gs before hval0 hW hcnd _
  have hval : ∀ (j : Nat) t v, Try.f4.params[j]? = some t → args[j]? = some v → Value.okWide Try.prog W .any base t v := hval0
  have hW' := hW
  obtain ⟨p, q, hA0, hV, rfl, hfz, hnd⟩ := hW
  have hA : DataW.TrodAll enc Try.prog W 0 (fun _ => true) true Try.f4.params.toList args.toList ds p := hA0
  rw [Try.params4] at hA hval
  obtain ⟨hv, rfl, rfl⟩ := trodAll_nil hA
  have hargs : args = #[] := by
    rcases args with ⟨as'⟩
    cases as' with
    | nil => rfl
    | cons a b => cases hv
  subst hargs
  refine walk.mono fun e W' ⟨he, hb⟩ => ?_
  subst he
  exact ⟨_, rfl, law_post (tb := 4) laidOut (by kernel_rfl) rfl rfl Try.underlying4 hW' (fun _ => rfl) hb⟩

theorem holds : Rows.SpaceNamesSaid :=
  OpenClaim.holds_of_wide 4 Try.f4 rfl rfl rfl rfl rfl rfl rfl ⟨rfl, rfl, rfl, rfl, rfl⟩ rfl rfl rfl rfl rfl (by kernel_rfl) Try.func4 (by kernel_rfl)
    (of_decide_eq_true (by kernel_rfl)) (by unfold Func.isWrapper; first | (rw [if_pos (by decide +kernel)]; kernel_rfl) | (rw [if_neg (by decide +kernel)]; exact ⟨rfl, rfl⟩))
    (fun os started H enc _ => lifted os started H enc)
end Go.Proofs.Ytolejpbdbjkndaa.lawSpaceNames

/-
  The law CoreTouches answers true for every input, the program's tables lying as its text lays them. No other condition.
-/
import Derived.Test.YtoglmemmdolbmaaGreatDoorCards
import Derived.Test.YtoglmemmdolbmaaGreatDoorTie
import Derived.Test.YtoglmemmdolbmaaGreatDoorCoT
import Derived.Test.YtoglmemmdolbmaaGreatDoorCoO
import Derived.Test.YtoglmemmdolbmaaGreatDoorIsK
namespace Go.Proofs.YtoglmemmdolbmaaGreatDoor.lawCoreTouches
open Go.ChangeShapes Go.WideShapes Go.ChangeAt Go.RowKit Go.ChangeMaps
set_option linter.unusedVariables false
set_option linter.unusedSimpArgs false

set_option maxRecDepth 100000 in
theorem lifted (os : Os) (started : os.Started) (H : Type) (enc : TypeId × Value → H) :
    ReturnsInHanded {} Tryz.checked os 3 .any (fun w args => (Rows.coreTouchesSpec.pre enc Tryz.prog Tryz.f3 [] false w args ∧ laidMetH Tryz.prog Rows.coreTouchesRow.laid w) ∧ sizedMet enc Tryz.prog Tryz.f3 (OpenSpec.ofChange Rows.coreTouchesSpec) false w args)
      (Rows.coreTouchesSpec.post enc Tryz.prog Tryz.f3 false true false false) := by
  refine handed_all (C := Tryz.checked) (X := fun w _ => laidMetH Tryz.prog Rows.coreTouchesRow.laid w) (fun _ _ _ hh h => h.of_heap hh) own started (by kernel_rfl) Tryz.func3
    (ChangeSpec.witness_shaped (enc := enc) (C := Tryz.checked) (os := os) (X := fun w _ => laidMetH Tryz.prog Rows.coreTouchesRow.laid w) false (World.laidAll Tryz.prog os Rows.coreTouchesRow.laid) #[.agg #[.int .u32 0, .int .u32 0, .int .u32 0, .int .u32 0, .int .u32 0, .int .u32 0, .int .u32 0, .int .u32 0, .int .i32 0, .int .i32 0, .int .i32 0, .int .i32 0, .int .u32 0], .slice none 0 0, .slice none 0 0] 8 (World.laidAll_os _ _ _)
      (World.shaped_of_ZipB (by kernel_rfl) (by kernel_rfl)) (by kernel_rfl) (by kernel_rfl) (by kernel_rfl)
      (by rw [MakeChecks.laidMetH_plain _ _ _ (by kernel_rfl)]; exact laidMet_laidAll _ (by kernel_rfl) (by kernel_rfl))) ?_
  intro W base args ds gs before hval0 hW hL hSh
  have hval : ∀ (j : Nat) t v, Tryz.f3.params[j]? = some t → args[j]? = some v → Value.okWide Tryz.prog W .any base t v := hval0
  have hW' := hW
  obtain ⟨p, q, hA0, hV, rfl, hfz, hnd⟩ := hW
  have hA : DataW.TrodAll enc Tryz.prog W 0 (fun _ => true) true Tryz.f3.params.toList args.toList ds p := hA0
  rw [Tryz.params3] at hA hval
  obtain ⟨v0, vs0, d0, ds0, p0, q0, hv0, rfl, rfl, h0, hr0⟩ := trodAll_cons hA
  obtain ⟨v1, vs1, d1, ds1, p1, q1, hv1, rfl, rfl, h1, hr1⟩ := trodAll_cons hr0
  obtain ⟨v2, vs2, d2, ds2, p2, q2, hv2, rfl, rfl, h2, hr2⟩ := trodAll_cons hr1
  obtain ⟨hvn, rfl, rfl⟩ := trodAll_nil hr2
  obtain rfl : args = #[v0, v1, v2] := by
    subst hvn; subst hv2; subst hv1
    rw [show args = args.toList.toArray from rfl, hv0]
  obtain ⟨r0, a0, b0, c0, d0, pc0, rfl, hr0x, ha0, hb0, hc0, hd0, hp0⟩ := open_start (hval 0 25 v0 rfl rfl) h0
  obtain ⟨A1, k1, l1, rfl, hA1, hx1, hl1, hk1⟩ := open_bytes7 (hval 1 26 v1 rfl rfl) h1
  obtain ⟨A2, k2, l2, rfl, hA2, hx2, hl2, hk2⟩ := open_bytes7 (hval 2 26 v2 rfl rfl) h2
  rw [MakeChecks.laidMetH_plain _ _ _ (by kernel_rfl)] at hL
  have hI := I.ground_of hL hSh (by simp [Rows.coreTouchesRow]) (by simp [Rows.coreTouchesRow])
  refine (touchesLaw_any hI r0 a0 b0 c0 d0 pc0 ⟨hr0x, hp0⟩ A1 k1 l1 hA1 hx1 A2 k2 l2 hA2 hx2 hl1 hl2 hk2).mono fun e W' ⟨he, hb⟩ => ?_
  subst he
  exact ⟨_, rfl, law_post (tb := 4) laidOut (by kernel_rfl) rfl rfl Tryz.underlying4 hW' (fun _ => rfl) hb⟩

theorem row_holds : Rows.CoreTouchesSaid :=
  OpenClaim.holds_of_wide 3 Tryz.f3 rfl rfl rfl rfl rfl rfl rfl ⟨rfl, rfl, rfl, rfl, rfl⟩ rfl rfl rfl rfl rfl (by kernel_rfl) Tryz.func3 (by kernel_rfl)
    (of_decide_eq_true (by kernel_rfl)) (by unfold Func.isWrapper; first | (rw [if_pos (by decide +kernel)]; kernel_rfl) | (rw [if_neg (by decide +kernel)]; exact ⟨rfl, rfl⟩))
    (fun os started H enc _ => lifted os started H enc)

/-- THE TIED CARD. -/
theorem holds : Rows.CoreTouchesCardSaid :=
  Claim7.holds_tied_plain_at .later [] [.data, .data, .data, .data, .data, .pinned] true (true, "05535abc39a1d3258fc052d9c3ef6d04ad99d004efd49eec75792ffbf90bf35c") false
    row_holds (fun _ h => by cases h) (by kernel_rfl) (fun _ h => by cases h) coreTouches_row_tie rfl ⟨rfl, rfl⟩ (by kernel_rfl) rfl
    (fun f fn hf hfn => by
      obtain rfl : f = 3 := Option.some.inj ((show Tryz.prog.funcNamed "carryall/carryalllaw07.CoreTouches" = some 3 by kernel_rfl).symm.trans hf) |>.symm
      obtain rfl : fn = Tryz.f3 := (Option.some.inj (Tryz.func3.symm.trans hfn)).symm
      exact ⟨by kernel_rfl, fun j t ht => by
        rw [Tryz.params3] at ht
        have hm : t ∈ [25, 26, 26] := by simpa using Array.mem_of_getElem? ht
        have hall : ([25, 26, 26].all fun u => !Tryz.prog.wantsStandIn u) = true := by kernel_rfl
        exact (show Tryz.prog.wantsStandIn t = false by simpa using List.all_eq_true.1 hall t hm)⟩)
    (by kernel_rfl)
end Go.Proofs.YtoglmemmdolbmaaGreatDoor.lawCoreTouches

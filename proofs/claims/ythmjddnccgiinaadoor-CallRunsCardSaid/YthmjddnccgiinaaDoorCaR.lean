/-
  The law CallRuns, walked: a program of calls is assembled. Condition: the tables lie as the program's text, and the library's, lay them.
-/
import Derived.Test.YthmjddnccgiinaaDoorCaA
import Derived.Test.YthmjddnccgiinaaDoorCaRp
import Derived.Test.YthmjddnccgiinaaDoorIsF
namespace Go.Proofs.YthmjddnccgiinaaDoor
open Go.RowKit Go.Shelf
set_option linter.unusedVariables false
set_option linter.unusedSimpArgs false
attribute [local go_sem] Oper.semAt_some

theorem agN_kM {x : Cl} (h : MayC x) : kM (kR x.n) = (agN x.n : Int) := by
  have := h.1
  unfold agN
  omega
set_option maxRecDepth 100000 in
set_option maxHeartbeats 8000000 in
theorem runsLaw_any {w : World} (hG : Ground w) (hC : Codes w) (hI : I.Ground w) (A : Option Addr) (ca : Nat) (l : List Cl) (hA : CallsAt w A l) (hl : l.length ≤ maxLen) (hr : ∀ x ∈ l, InC x) :
    Calls Tryd.prog 5 #[.slice A l.length ca] w fun e w' => e = .returned (.bool true) ∧ Below w.heap.size w w' := by
  unfold maxLen at hl
  have HAL := Lib.hid (alive_any hG hC)
  by_cases hbig : 60 < l.length
  · have hb : (60 : Int) < (l.length : Int) := by omega
    clear hA hr hG hC hI
    go_enter Tryd.func5, Tryd.ntmps5
    go_wp2_with fail
    refine HAL.out.mono ?_
    rintro e W1 ⟨rfl, hb1⟩
    have HB := Lib.hid hb1
    clear hb1
    go_wp2
    go_ret
    exact ⟨rfl, HB.out⟩
  have hb : ¬ (60 : Int) < (l.length : Int) := by omega
  have hl60 : l.length ≤ 60 := by omega
  have HP := Lib.hid (fun W (hW : Below w.heap.size w W) => program_any (hG.below hW) A ca l (hA.below hW) (by omega) fun x hx => (hr x hx).2)
  by_cases hfine : ∀ x ∈ l, FineC x
  case neg =>
    have hp : progO l = none := if_neg hfine
    rw [hp] at HP
    have HP2 := Lib.hid (fun W (hW : Below w.heap.size w W) => show Calls Tryd.prog 24 #[.slice A l.length ca] W fun e w' => e = .returned (.tuple #[.string ⟨#[]⟩, .int .i64 160]) ∧ Below W.heap.size W w' from HP.out W hW)
    have HS := Lib.hid (fun W (hW : Below w.heap.size w W) => I.asm_any (hI.below hW) ⟨#[]⟩ (by decide) (ws := []) (n := 0) (er := 0) (by decide +kernel))
    clear hA hr hG hC hI HP hfine hp hbig
    go_enter Tryd.func5, Tryd.ntmps5
    go_wp2_with fail
    refine HAL.out.mono ?_
    rintro e W1 ⟨rfl, hb1⟩
    have HB1 := Lib.hid hb1
    clear hb1
    go_wp2_with fail
    refine (HP2.out _ HB1.out).mono ?_
    rintro e W2 ⟨rfl, hb2⟩
    have HB2 := Lib.hid (bl_step HB1.out hb2)
    clear hb2
    go_wp2_with fail
    refine (HS.out _ HB2.out).mono ?_
    rintro e W3 ⟨B, cb, rfl, _, _, hb3⟩
    have HB3 := Lib.hid (bl_step HB2.out hb3)
    clear hb3
    go_wp2
    go_ret
    exact ⟨by first | rfl | simp, HB3.out⟩
  have hp : progO l = some (progL l) := if_pos hfine
  rw [hp] at HP
  have hrf : ∀ x ∈ l, RangeC x ∧ FineC x := fun x hx => ⟨(hr x hx).2, hfine x hx⟩
  obtain ⟨s, hs⟩ : ∃ s : ByteArray, (⟨(progL l).toArray⟩ : ByteArray) = s := ⟨_, rfl⟩
  have hsl : s.data.toList = progL l := by rw [← hs]
  have hsz : s.size ≤ 1000000 := by
    have h1 : s.size = (progL l).length := by rw [← hsl]; exact (Array.length_toList).symm
    have h2 : (progL l).length ≤ l.length * 200 := flat_len callP 200 l fun x hx => callP_len (hrf x hx).1 (hrf x hx).2.1
    omega
  have HP2 := Lib.hid (fun W (hW : Below w.heap.size w W) => show Calls Tryd.prog 24 #[.slice A l.length ca] W fun e w' => e = .returned (.tuple #[.string s, .int .i64 0]) ∧ Below W.heap.size W w' from by
    rw [← hs]
    exact HP.out W hW)
  have HS := Lib.hid (fun W (hW : Below w.heap.size w W) => I.asm_any (hI.below hW) s hsz (ws := allW l) (n := 0) (er := 0) (by
    show I.asmP s.data.toList = _
    rw [hsl]
    exact asm_prog hrf hl60))
  have hwl := allW_len l
  have HMY := Lib.hid (fun (x : Cl) (hx : x ∈ l) W (hW : Below w.heap.size w W) => show Calls Tryd.prog 13 #[.int .i64 x.n] W fun e w' => e = .returned (.int .i64 (agN x.n : Int)) ∧ Below W.heap.size W w' from by
    have h := many_any (hG.below hW).laid x.n
    rw [agN_kM (hfine x hx).1] at h
    exact h)
  have HOF := Lib.hid (fun (k : Nat) (hk : k ≤ l.length) => show offW l k ≤ 300 from by
    have h := allW_len (l.take k)
    rw [List.length_take] at h
    unfold offW
    omega)
  have HDC := Lib.hid (fun (y : I.Ins) (hy : I.MayI y) W (hW : Below w.heap.size w W) => I.dec_at (hI.below hW) (I.encI y) y (I.encI_range hy) (I.dec_enc hy) hy)
  have HRF := Lib.hid hrf
  have HAA := Lib.hid hA
  clear hA hr hG hC hI HP hfine hp hbig hrf hs hsl hsz
  go_enter Tryd.func5, Tryd.ntmps5
  go_wp2_with fail
  refine HAL.out.mono ?_
  rintro e W1 ⟨rfl, hb1⟩
  have HB1 := Lib.hid hb1
  clear hb1
  go_wp2_with fail
  refine (HP2.out _ HB1.out).mono ?_
  rintro e W2 ⟨rfl, hb2⟩
  have HB2 := Lib.hid (bl_step HB1.out hb2)
  clear hb2
  go_wp2_with fail
  refine (HS.out _ HB2.out).mono ?_
  rintro e W3 ⟨B, cb, rfl, hB, _, hb3⟩
  have HB3 := Lib.hid (bl_step HB2.out hb3)
  have HW3 := Lib.hid hB
  have HO0 : Hid (0 = (offW l 0 : Int)) := rfl
  clear hb3 hB HB1 HB2 HP2 HS HAL
  go_wp2_with fail
  go_loopw [9, 10] (fun m i wr => ∃ k : Nat, i = .int .i64 (k : Int) ∧ k ≤ l.length ∧ m = .int .i64 (offW l k : Int) ∧ Hid (Below W3.heap.size W3 wr)) (fun _ i _ => l.length - (intOf i).toNat)
  case atStart => exact ⟨0, rfl, Nat.zero_le _, by rw [← HO0.out], Lib.hid (Below.refl _ _)⟩
  case round =>
    obtain ⟨k, rfl, hk, rfl, HB⟩ := hrel
    by_cases hkl : k < l.length
    · have hkb : (k : Int) < (l.length : Int) := by omega
      have hxe : l[k]? = some l[k] := List.getElem?_eq_getElem hkl
      have hxm := List.getElem_mem hkl
      obtain ⟨b, off, rfl, hbl, c0, c1, c2, c3⟩ := call_at (HAA.out.below (bl_step HB3.out HB.out)) hxe
      have hof := HOF.out k hk
      have hnx := offW_step hxe
      have hag := agN_le l[k].n
      have HM := Lib.hid (HMY.out _ hxm)
      generalize l[k] = x at *
      have HN := Lib.hid (show ((offW l k : Int) + 2 + (agN x.n : Int)) = (offW l (k + 1) : Int) from by omega)
      generalize offW l k = o at *
      obtain ⟨xn, xa, xb, xc⟩ := x
      dsimp only at c0 c1 c2 c3 hag HM HN
      generalize agN xn = an at *
      clear c1 c2 c3 hnx hxe hxm
      go_wp2_with fail
      refine (HM.out _ (bl_step HB3.out HB.out)).mono ?_
      rintro e W5 ⟨rfl, hb5⟩
      have HB5 := Lib.hid (bl_step HB.out hb5)
      clear hb5
      go_wp2
      go_roundw
      case rel => exact ⟨k + 1, by go_num, by omega, by rw [HN.out], HB5⟩
      case measure => simp [intOf]; omega
    · have hkk : k = l.length := by omega
      subst hkk
      have hkb : ¬ (l.length : Int) < (l.length : Int) := by omega
      have HOA := Lib.hid (offW_all l)
      have hoa : (offW l l.length : Int) = ((allW l).length : Int) := by rw [offW_all]
      rw [hoa]
      clear hoa
      rename World => wo
      have HBO := Lib.hid (bl_step HB3.out HB.out)
      have HWO := Lib.hid (HW3.out.below HB.out)
      clear HB HB3 HW3 HOA
      go_wp2_with fail
      go_loopw [11, 12] (fun a i wr => ∃ k : Nat, i = .int .i64 (k : Int) ∧ k ≤ l.length ∧ a = .int .i64 (offW l k : Int) ∧ Hid (Below wo.heap.size wo wr)) (fun _ i _ => l.length - (intOf i).toNat)
      case atStart => exact ⟨0, rfl, Nat.zero_le _, by rw [← HO0.out], Lib.hid (Below.refl _ _)⟩
      case round =>
        obtain ⟨k, rfl, hk, rfl, HB⟩ := hrel
        rename World => wi
        by_cases hkl : k < l.length
        · have hkb : (k : Int) < (l.length : Int) := by omega
          have hxe : l[k]? = some l[k] := List.getElem?_eq_getElem hkl
          have hxm := List.getElem_mem hkl
          have hof := HOF.out k hk
          have hof1 := HOF.out (k + 1) hkl
          have hnx := offW_step hxe
          have hag := agN_le l[k].n
          have HM := Lib.hid (HMY.out _ hxm)
          have HBI := Lib.hid (bl_step HBO.out HB.out)
          have HWI := Lib.hid (HWO.out.below HB.out)
          have HKW := Lib.hid (fun (j : Nat) (hj : j < 1 + agN l[k].n) => (allW_at hxe (by omega)).trans (wordC_at hj))
          have HKL := Lib.hid ((allW_at hxe (show 1 + agN l[k].n < 2 + agN l[k].n from by omega)).trans (wordC_last l[k]))
          have HMW := Lib.hid (fun (j : Nat) (hj : j < 1 + agN l[k].n) => want_may (HRF.out _ hxm).1 (HRF.out _ hxm).2 hj)
          have HRX := Lib.hid (HRF.out _ hxm)
          have hlen : offW l k + (2 + agN l[k].n) ≤ (allW l).length := by
            have h1 := (List.getElem?_eq_some_iff.1 HKL.out).1
            omega
          have HCL := Lib.hid (fun W (hW : Below wi.heap.size wi W) => call_at (HAA.out.below (bl_step HBI.out hW)) hxe)
          generalize l[k] = x at *
          have HN := Lib.hid (show ((offW l k : Int) + (1 + (agN x.n : Int)) + 1) = (offW l (k + 1) : Int) from by omega)
          generalize offW l k = o at *
          obtain ⟨xn, xa, xb, xc⟩ := x
          dsimp only at hag HM HN HKW HKL HMW HCL hlen
          have ranges := HRX.out.1
          have fines := HRX.out.2
          obtain ⟨⟨ra0, ra1⟩, ⟨rb0, rb1⟩, ⟨rc0, rc1⟩⟩ := ranges
          obtain ⟨_, fa, fb, fc⟩ := fines
          dsimp only at ra0 ra1 rb0 rb1 rc0 rc1 fa fb fc
          generalize agN xn = an at *
          generalize (allW l).length = N at *
          clear hnx hxe hxm HRX
          obtain ⟨b, off, rfl, hbl, c0, c1, c2, c3⟩ := HCL.out _ (Below.refl _ _)
          clear c1 c2 c3
          go_wp2_with fail
          refine (HM.out _ HBI.out).mono ?_
          rintro e W5 ⟨rfl, hb5⟩
          have HB5 := Lib.hid hb5
          clear hb5 c0 hbl HM
          go_wp2_with fail
          go_loopw [14] (fun i wr => ∃ (J : Int) (j : Nat), i = .int .i64 J ∧ J = (j : Int) ∧ j ≤ 1 + an ∧ Hid (Below wi.heap.size wi wr)) (fun i _ => 1 + an - (intOf i).toNat)
          case atStart => exact ⟨0, 0, rfl, rfl, by omega, HB5⟩
          case round =>
            obtain ⟨J, j, rfl, hJ, hj, HBJ⟩ := hrel
            rename World => wj
            clear HB5
            obtain ⟨b', off', e', hbl, c0, c1, c2, c3⟩ := HCL.out _ HBJ.out
            injection e' with e'
            injection e' with e1 e2 _
            subst e1 e2
            by_cases hjl : j < 1 + an
            · have hy := HMW.out j hjl
              obtain ⟨g, oo, rfl, hgl, d0⟩ := I.wordsAt_cell (HWI.out.below HBJ.out) (HKW.out j hjl)
              have HD := Lib.hid (HDC.out _ hy _ (bl_step HBI.out HBJ.out))
              have HE := I.eqI_same ⟨1, (j : Int), 0, wantC ⟨xn, xa, xb, xc⟩ j⟩
              dsimp only at HE HD
              generalize I.encI _ = E at *
              clear hy
              rcases (show j = 0 ∨ j = 1 ∨ j = 2 ∨ j = 3 by omega) with rfl | rfl | rfl | rfl
              · have hJ0 : J = 0 := hJ
                subst hJ0
                simp only [wantC, List.getD_cons_zero, List.getD_cons_succ, Int.natCast_zero, Int.cast_ofNat_Int, Int.natCast_one, Nat.add_zero] at d0 HD HE
                have HE' := Lib.hid HE
                clear HE c0 c1 c2 c3 hbl hJ
                go_wp2_with fail
                refine HD.out.mono ?_
                rintro e W6 ⟨rfl, hb6⟩
                have HX6 := Lib.hid (Blk.new W6 46 #[.int .i64 1, .int .i64 0, .int .i64 0, .int .i64 xn])
                have HB6 := Lib.hid (bl_new (bl_step HBJ.out hb6) (.cells #[.int .i64 1, .int .i64 0, .int .i64 0, .int .i64 xn] 46))
                clear hb6 d0 hgl
                obtain ⟨x0, x1, x2, x3, xlt⟩ := I.ccells HX6.out
                obtain ⟨b', off', e', hbl, c0, c1, c2, c3⟩ := HCL.out _ HB6.out
                injection e' with e'
                injection e' with e1 e2 _
                subst e1 e2
                have HE := HE'.out
                go_wp2
                go_roundw
                case rel => exact ⟨_, 1, rfl, rfl, by omega, HB6⟩
                case measure => first | (simp [intOf]; done) | (simp [intOf]; omega)
              · have hJ0 : J = 1 := hJ
                subst hJ0
                simp only [wantC, List.getD_cons_zero, List.getD_cons_succ, Int.natCast_zero, Int.cast_ofNat_Int, Int.natCast_one, Nat.add_zero] at d0 HD HE
                have HE' := Lib.hid HE
                clear HE c0 c1 c2 c3 hbl hJ
                go_wp2_with fail
                refine HD.out.mono ?_
                rintro e W6 ⟨rfl, hb6⟩
                have HX6 := Lib.hid (Blk.new W6 46 #[.int .i64 1, .int .i64 1, .int .i64 0, .int .i64 xa])
                have HB6 := Lib.hid (bl_new (bl_step HBJ.out hb6) (.cells #[.int .i64 1, .int .i64 1, .int .i64 0, .int .i64 xa] 46))
                clear hb6 d0 hgl
                obtain ⟨x0, x1, x2, x3, xlt⟩ := I.ccells HX6.out
                obtain ⟨b', off', e', hbl, c0, c1, c2, c3⟩ := HCL.out _ HB6.out
                injection e' with e'
                injection e' with e1 e2 _
                subst e1 e2
                have HE := HE'.out
                go_wp2
                go_roundw
                case rel => exact ⟨_, 2, rfl, rfl, by omega, HB6⟩
                case measure => first | (simp [intOf]; done) | (simp [intOf]; omega)
              · have hJ0 : J = 2 := hJ
                subst hJ0
                simp only [wantC, List.getD_cons_zero, List.getD_cons_succ, Int.natCast_zero, Int.cast_ofNat_Int, Int.natCast_one, Nat.add_zero] at d0 HD HE
                have HE' := Lib.hid HE
                clear HE c0 c1 c2 c3 hbl hJ
                go_wp2_with fail
                refine HD.out.mono ?_
                rintro e W6 ⟨rfl, hb6⟩
                have HX6 := Lib.hid (Blk.new W6 46 #[.int .i64 1, .int .i64 2, .int .i64 0, .int .i64 xb])
                have HB6 := Lib.hid (bl_new (bl_step HBJ.out hb6) (.cells #[.int .i64 1, .int .i64 2, .int .i64 0, .int .i64 xb] 46))
                clear hb6 d0 hgl
                obtain ⟨x0, x1, x2, x3, xlt⟩ := I.ccells HX6.out
                obtain ⟨b', off', e', hbl, c0, c1, c2, c3⟩ := HCL.out _ HB6.out
                injection e' with e'
                injection e' with e1 e2 _
                subst e1 e2
                have HE := HE'.out
                go_wp2
                go_roundw
                case rel => exact ⟨_, 3, rfl, rfl, by omega, HB6⟩
                case measure => first | (simp [intOf]; done) | (simp [intOf]; omega)
              · have hJ0 : J = 3 := hJ
                subst hJ0
                simp only [wantC, List.getD_cons_zero, List.getD_cons_succ, Int.natCast_zero, Int.cast_ofNat_Int, Int.natCast_one, Nat.add_zero] at d0 HD HE
                have HE' := Lib.hid HE
                clear HE c0 c1 c2 c3 hbl hJ
                go_wp2_with fail
                refine HD.out.mono ?_
                rintro e W6 ⟨rfl, hb6⟩
                have HX6 := Lib.hid (Blk.new W6 46 #[.int .i64 1, .int .i64 3, .int .i64 0, .int .i64 xc])
                have HB6 := Lib.hid (bl_new (bl_step HBJ.out hb6) (.cells #[.int .i64 1, .int .i64 3, .int .i64 0, .int .i64 xc] 46))
                clear hb6 d0 hgl
                obtain ⟨x0, x1, x2, x3, xlt⟩ := I.ccells HX6.out
                obtain ⟨b', off', e', hbl, c0, c1, c2, c3⟩ := HCL.out _ HB6.out
                injection e' with e'
                injection e' with e1 e2 _
                subst e1 e2
                have HE := HE'.out
                go_wp2
                go_roundw
                case rel => exact ⟨_, 4, rfl, rfl, by omega, HB6⟩
                case measure => first | (simp [intOf]; done) | (simp [intOf]; omega)
            · have hj2 : j = 1 + an := by omega
              subst hj2
              have hjb : ¬ (J : Int) < 1 + (an : Int) := by omega
              obtain ⟨g, oo, rfl, hgl, d0⟩ := I.wordsAt_cell (HWI.out.below HBJ.out) HKL.out
              have HD := Lib.hid (HDC.out _ may_sys _ (bl_step HBI.out HBJ.out))
              generalize I.encI _ = E at *
              have hJe : J = 1 + (an : Int) := by omega
              subst hJe
              clear hJ c0 c1 c2 c3 hbl
              go_wp2_with fail
              refine HD.out.mono ?_
              rintro e W6 ⟨rfl, hb6⟩
              have HX6 := Lib.hid (Blk.new W6 46 #[.int .i64 24, .int .i64 0, .int .i64 0, .int .i64 0])
              have HB6 := Lib.hid (bl_step HB.out (bl_new (bl_step HBJ.out hb6) (.cells #[.int .i64 24, .int .i64 0, .int .i64 0, .int .i64 0] 46)))
              clear hb6 d0 hgl
              obtain ⟨x0, x1, x2, x3, xlt⟩ := I.ccells HX6.out
              go_wp2
              go_roundw
              case rel => exact ⟨k + 1, by go_num, by omega, by rw [← HN.out], HB6⟩
              case measure => simp [intOf]; omega
        · have hkk : k = l.length := by omega
          subst hkk
          have hkb : ¬ (l.length : Int) < (l.length : Int) := by omega
          have HBZ := Lib.hid (bl_step HBO.out HB.out)
          go_wp2
          go_ret
          exact ⟨rfl, HBZ.out⟩
end Go.Proofs.YthmjddnccgiinaaDoor

/-
  The law TraceJoins, walked. Condition: the tables lie as the program's text, and the library's, lay them.
-/
import Derived.Test.YtpcaeggecojaeaaDoorTrApp
namespace Go.Proofs.YtpcaeggecojaeaaDoor
open Go.RowKit
set_option linter.unusedVariables false
set_option linter.unusedSimpArgs false

theorem lines_app (xs ys : List S) : linesL (xs ++ ys) = linesL xs ++ linesL ys := by unfold linesL; rw [List.flatMap_append]
theorem vals_app {xs ys : List S} (h : Vals xs) (k : Vals ys) : Vals (xs ++ ys) := fun x hx => (List.mem_append.1 hx).elim (h x) (k x)
theorem text_yes {xs : List S} (h : Fine xs) : textL xs = some (linesL xs) := if_pos h
theorem text_no {xs : List S} (h : ¬ Fine xs) : textL xs = none := if_neg h
/-- Texts of two, and of both: one behind the other, if there are any. -/
theorem joint (xs ys : List S) (hx : xs.length ≤ 200) (hy : ys.length ≤ 200) :
    (∃ s t, textL xs = some s ∧ textL ys = some t ∧ textL (xs ++ ys) = some (s ++ t)) ∨ (∃ s, textL xs = some s ∧ textL ys = none ∧ textL (xs ++ ys) = none) ∨ (∃ q, textL xs = none ∧ textL ys = q ∧ textL (xs ++ ys) = none) := by
  have hl : (xs ++ ys).length ≤ 10000 := by rw [List.length_append]; omega
  by_cases h1 : Fine xs
  · by_cases h2 : Fine ys
    · exact .inl ⟨_, _, text_yes h1, text_yes h2, by rw [text_yes ⟨hl, fun x hx => (List.mem_append.1 hx).elim (h1.2 x) (h2.2 x)⟩, lines_app]⟩
    · exact .inr (.inl ⟨_, text_yes h1, text_no h2, text_no fun h => h2 ⟨by omega, fun x hx => h.2 x (List.mem_append_right _ hx)⟩⟩)
  · exact .inr (.inr ⟨_, text_no h1, rfl, text_no fun h => h1 ⟨by omega, fun x hx => h.2 x (List.mem_append_left _ hx)⟩⟩)
theorem textD_len {xs : List S} (hv : Vals xs) : ((textL xs).getD []).length ≤ 2010000 := by
  by_cases h : Fine xs
  · rw [text_yes h]
    have h1 := lines_len xs h.2 hv
    have h2 := h.1
    show (linesL xs).length ≤ _
    omega
  · rw [text_no h]
    exact Nat.zero_le _
theorem first_app (xs ys : List S) : first xs (xs ++ ys) = if ys = [] then -1 else (xs.length : Int) := by
  by_cases h : ys = []
  · rw [if_pos h, h, List.append_nil, first_self]
  · rw [if_neg h]
    refine (isFirst_here (k := xs.length) (fun j hj => (List.getElem?_append_left hj).symm) ?_).symm
    rw [List.getElem?_eq_none (Nat.le_refl _), List.getElem?_append_right (Nat.le_refl _), Nat.sub_self]
    cases ys with
    | nil => exact absurd rfl h
    | cons y ys => simp
theorem sel_app (ps : List Int) (xs ys : List S) : selOf ps (xs ++ ys) = selOf ps xs ++ selOf ps ys := List.filter_append ..
theorem without_app (c : Int) (xs ys : List S) : without c (xs ++ ys) = without c xs ++ without c ys := List.filter_append ..
theorem selOf_len (ps : List Int) (xs : List S) : (selOf ps xs).length ≤ xs.length := List.length_filter_le ..
theorem without_len (c : Int) (xs : List S) : (without c xs).length ≤ xs.length := List.length_filter_le ..

set_option maxRecDepth 100000 in
set_option maxHeartbeats 16000000 in
theorem joinsLaw_any {w : World} (hG : Ground w) (A B C : Option Addr) (ca cb cc : Nat) (xs ys : List S) (ps : List Int) (hx : SeenAt w A xs) (hy : SeenAt w B ys) (hp : IntsAt w C ps) (hxl : xs.length ≤ maxLen) (hyl : ys.length ≤ maxLen) (hpl : ps.length ≤ maxLen) (hvx : Vals xs) (hvy : Vals ys) :
    Calls Tryd.prog 7 #[.slice A xs.length ca, .slice B ys.length cb, .slice C ps.length cc] w fun e w' => e = .returned (.bool true) ∧ Below w.heap.size w w' := by
  unfold maxLen at hxl hyl hpl
  have HAL := Lib.hid (alive_any hG)
  by_cases hbig : 200 < xs.length ∨ 200 < ys.length ∨ 20 < ps.length
  · clear hx hy hp hvx hvy hG
    have hc : (200 : Int) < (xs.length : Int) ∨ (¬ (200 : Int) < (xs.length : Int) ∧ (200 : Int) < (ys.length : Int)) ∨ (¬ (200 : Int) < (xs.length : Int) ∧ ¬ (200 : Int) < (ys.length : Int) ∧ (20 : Int) < (ps.length : Int)) := by omega
    clear hbig
    rcases hc with h1 | ⟨h1, h2⟩ | ⟨h1, h2, h3⟩
    all_goals
      go_enter Tryd.func7, Tryd.ntmps7
      go_wp2_with fail
      refine HAL.out.mono ?_
      rintro e w1 ⟨rfl, hb1⟩
      have HB1 := Lib.hid hb1
      clear hb1
      go_wp2
      go_ret
      exact ⟨rfl, HB1.out⟩
  have h1 : ¬ (200 : Int) < (xs.length : Int) := by omega
  have h2 : ¬ (200 : Int) < (ys.length : Int) := by omega
  have h3 : ¬ (20 : Int) < (ps.length : Int) := by omega
  clear hbig
  have HX := Lib.hid hx
  have HY := Lib.hid hy
  have HP := Lib.hid hp
  have HG := Lib.hid hG
  have HVX := Lib.hid hvx
  have HVY := Lib.hid hvy
  clear hx hy hp hG hvx hvy
  go_enter Tryd.func7, Tryd.ntmps7
  go_wp2_with fail
  refine HAL.out.mono ?_
  rintro e W1 ⟨rfl, hb1⟩
  have HB1 := Lib.hid hb1
  clear hb1 HAL
  go_wp2_with (at_builtin; refine append_seen rfl _ _ rfl W1.heap.size (.slice (some ⟨W1.heap.size, 0, none⟩) 0 0) [] rfl (World.ownsRow_lit W1 #[] 0 (Nat.le_refl _) (by decide) rfl) A ca xs rfl ((HX.out.below HB1.out).alloc _) (by simp; omega) (by simp) ?_)
  intro v2 W2 ho2 hb2
  have hB2 := (bl_new (Below.refl W1.heap.size W1) _).trans hb2
  have s2 := hB2.size
  have HY2 := Lib.hid ((HY.out.below HB1.out).below hB2)
  clear hb2
  go_wp2_with (at_builtin; refine append_seen rfl _ _ rfl W1.heap.size v2 xs rfl ho2 B cb ys rfl HY2.out (by omega) s2 ?_)
  intro v3 W3 ho3 hb3
  obtain ⟨D, cd, rfl, hD, _⟩ := ownS_at ho3
  have HB3 := Lib.hid (HB1.out.trans ((hB2.trans hb3).mono HB1.out.size))
  have HD := Lib.hid hD
  have hzl : (xs ++ ys).length = xs.length + ys.length := List.length_append
  have HFA := Lib.hid (first_app xs ys)
  have HSA := Lib.hid (sel_app ps xs ys)
  have HWA := Lib.hid (without_app 2 xs ys)
  have HVZ := Lib.hid (vals_app HVX.out HVY.out)
  have hjt := joint xs ys (by omega) (by omega)
  clear ho2 ho3 hb3 hB2 hD HB1 HY2 s2
  generalize xs ++ ys = zs at *
  have l1 := selOf_len ps xs
  have l2 := selOf_len ps ys
  have m1 := without_len 2 xs
  have m2 := without_len 2 ys
  have l3 := selOf_len ps zs
  have m3 := without_len 2 zs
  -- of
  have HC := Lib.hid (of_any A C ca cc xs ps (HX.out.below HB3.out) (HP.out.below HB3.out) (by omega) (by omega))
  go_wp2_with fail
  refine HC.out.mono ?_
  rintro e W4 ⟨v4, rfl, ho4, hb4⟩
  have HB4 := Lib.hid (bl_step HB3.out HB3.out.size hb4)
  have HO4 := Lib.hid ho4
  have s4 := hb4.size
  clear ho4 HC
  have HC := Lib.hid (of_any B C cb cc ys ps (HY.out.below HB4.out) (HP.out.below HB4.out) (by omega) (by omega))
  go_wp2_with fail
  refine HC.out.mono ?_
  rintro e W5 ⟨v5, rfl, ho5, hb5⟩
  obtain ⟨E, ce, rfl, hE, _⟩ := ownS_at ho5
  have HB5 := Lib.hid (bl_step hb4 s4 hb5)
  have HE := Lib.hid hE
  have HO5 := Lib.hid (ownsRow_below HO4.out hb5)
  have s5 := HB5.out.size
  clear ho5 hE hb5 hb4 HC HO4
  go_wp2_with (at_builtin; refine append_seen rfl _ _ rfl W3.heap.size v4 _ rfl HO5.out E ce _ rfl HE.out (by omega) s5 ?_)
  intro v6 W6 ho6 hb6
  rw [← HSA.out] at ho6
  obtain ⟨F, cf, rfl, hF, _⟩ := ownS_at ho6
  have HB6 := Lib.hid (HB3.out.trans ((HB5.out.trans hb6).mono HB3.out.size))
  have HD6 := Lib.hid (HD.out.below (HB5.out.trans hb6))
  have HF := Lib.hid hF
  clear ho6 hb6 hF HE HO5 HB5 HB4 HB3 HD
  -- less
  have HC := Lib.hid (without_any A ca xs (HX.out.below HB6.out) (by omega) 2)
  go_wp2_with fail
  refine HC.out.mono ?_
  rintro e W7 ⟨v7, rfl, ho7, hb7⟩
  have HB7 := Lib.hid (bl_step HB6.out HB6.out.size hb7)
  have HO7 := Lib.hid ho7
  have s7 := hb7.size
  clear ho7 HC
  have HC := Lib.hid (without_any B cb ys (HY.out.below HB7.out) (by omega) 2)
  go_wp2_with fail
  refine HC.out.mono ?_
  rintro e W8 ⟨v8, rfl, ho8, hb8⟩
  obtain ⟨E8, c8, rfl, hE8, _⟩ := ownS_at ho8
  have HB8 := Lib.hid (bl_step hb7 s7 hb8)
  have HE8 := Lib.hid hE8
  have HO8 := Lib.hid (ownsRow_below HO7.out hb8)
  have s8 := HB8.out.size
  clear ho8 hE8 hb8 hb7 HC HO7
  go_wp2_with (at_builtin; refine append_seen rfl _ _ rfl W6.heap.size v7 _ rfl HO8.out E8 c8 _ rfl HE8.out (by omega) s8 ?_)
  intro v9 W9 ho9 hb9
  rw [← HWA.out] at ho9
  obtain ⟨G, cg, rfl, hG9, _⟩ := ownS_at ho9
  have HB9 := Lib.hid (HB6.out.trans ((HB8.out.trans hb9).mono HB6.out.size))
  have HD9 := Lib.hid (HD6.out.below (HB8.out.trans hb9))
  have HF9 := Lib.hid (HF.out.below (HB8.out.trans hb9))
  have HG9 := Lib.hid hG9
  clear ho9 hb9 hG9 HE8 HO8 HB8 HB7 HD6 HF HB6
  -- the texts
  obtain ⟨sx, hsx⟩ : ∃ sx : ByteArray, sx = ⟨((textL xs).getD []).toArray⟩ := ⟨_, rfl⟩
  obtain ⟨sy, hsy⟩ : ∃ sy : ByteArray, sy = ⟨((textL ys).getD []).toArray⟩ := ⟨_, rfl⟩
  obtain ⟨sz, hsz⟩ : ∃ sz : ByteArray, sz = ⟨((textL zs).getD []).toArray⟩ := ⟨_, rfl⟩
  obtain ⟨ex, hex⟩ : ∃ ex, ex = errN (textL xs) := ⟨_, rfl⟩
  obtain ⟨ey, hey⟩ : ∃ ey, ey = errN (textL ys) := ⟨_, rfl⟩
  obtain ⟨ez, hez⟩ : ∃ ez, ez = errN (textL zs) := ⟨_, rfl⟩
  have hcase : (ex = 0 ∧ ey = 0 ∧ ez = 0 ∧ sz = sx ++ sy) ∨ (ex = 0 ∧ ey = 210 ∧ ez = 210) ∨ (ex = 210 ∧ ez = 210) := by
    rcases hjt with ⟨s, t, e1, e2, e3⟩ | ⟨s, e1, e2, e3⟩ | ⟨q, e1, e2, e3⟩
    · refine .inl ⟨by rw [hex, e1]; rfl, by rw [hey, e2]; rfl, by rw [hez, e3]; rfl, ?_⟩
      rw [hsz, hsx, hsy, e1, e2, e3]
      exact ByteArray.ext (by rw [ByteArray.data_append]; simp)
    · exact .inr (.inl ⟨by rw [hex, e1]; rfl, by rw [hey, e2]; rfl, by rw [hez, e3]; rfl⟩)
    · exact .inr (.inr ⟨by rw [hex, e1]; rfl, by rw [hez, e3]; rfl⟩)
  have hsl : sx.size + sy.size ≤ 9223372036854775807 := by
    have h1 : sx.size ≤ 2010000 := by
      rw [hsx]
      show ((textL xs).getD []).toArray.size ≤ _
      rw [List.size_toArray]
      exact textD_len HVX.out
    have h2 : sy.size ≤ 2010000 := by
      rw [hsy]
      show ((textL ys).getD []).toArray.size ≤ _
      rw [List.size_toArray]
      exact textD_len HVY.out
    omega
  have HTX := Lib.hid (show Calls Tryd.prog 18 #[.slice A xs.length ca] W9 fun e w' => e = .returned (.tuple #[.string sx, .int .i64 ex]) ∧ Below W9.heap.size W9 w' from by
    rw [hsx, hex]
    exact text_any (HG.out.below HB9.out) A ca xs (by omega) (HX.out.below HB9.out) HVX.out)
  have HTY := Lib.hid (fun W (hW : Below W9.heap.size W9 W) => show Calls Tryd.prog 18 #[.slice B ys.length cb] W fun e w' => e = .returned (.tuple #[.string sy, .int .i64 ey]) ∧ Below W.heap.size W w' from by
    rw [hsy, hey]
    exact text_any (HG.out.below (bl_step HB9.out HB9.out.size hW)) B cb ys (by omega) (HY.out.below (bl_step HB9.out HB9.out.size hW)) HVY.out)
  have HTZ := Lib.hid (fun W (hW : Below W9.heap.size W9 W) => show Calls Tryd.prog 18 #[.slice D (xs.length + ys.length) cd] W fun e w' => e = .returned (.tuple #[.string sz, .int .i64 ez]) ∧ Below W.heap.size W w' from by
    rw [hsz, hez, ← hzl]
    exact text_any (HG.out.below (bl_step HB9.out HB9.out.size hW)) D cd zs (by omega) (HD9.out.below hW) HVZ.out)
  have HCASE := Lib.hid hcase
  clear hsx hsy hsz hex hey hez hjt hcase
  go_wp2_with fail
  refine HTX.out.mono ?_
  rintro e W10 ⟨rfl, hb10⟩
  have HB10 := Lib.hid hb10
  clear hb10
  go_wp2_with fail
  refine (HTY.out _ HB10.out).mono ?_
  rintro e W11 ⟨rfl, hb11⟩
  have HB11 := Lib.hid (bl_step HB10.out HB10.out.size hb11)
  clear hb11 HB10
  go_wp2_with fail
  refine (HTZ.out _ HB11.out).mono ?_
  rintro e W12 ⟨rfl, hb12⟩
  have HB12 := Lib.hid (bl_step HB11.out HB11.out.size hb12)
  have HBW := Lib.hid (bl_step HB9.out HB9.out.size HB12.out)
  clear hb12 HB11 HTX HTY HTZ
  have HF12 := Lib.hid (HF9.out.below HB12.out)
  have HD12 := Lib.hid (HD9.out.below HB12.out)
  have HG12 := Lib.hid (HG9.out.below HB12.out)
  have HX12 := Lib.hid (HX.out.below HBW.out)
  have HP12 := Lib.hid (HP.out.below HBW.out)
  clear HF9 HD9 HG9 HB9 HB12 HX HY HP HG
  have HOF := Lib.hid (show Calls Tryd.prog 12 #[.slice D (xs.length + ys.length) cd, .slice C ps.length cc] W12 fun e w' => ∃ v, e = .returned v ∧ OwnS w' W12.heap.size v (selOf ps zs) ∧ Below W12.heap.size W12 w' from by
    rw [← hzl]
    exact of_any D C cd cc zs ps HD12.out HP12.out (by omega) (by omega))
  have HF1 := Lib.hid (fun (E : Option Addr) (ce : Nat) (W : World) (hW : Below W12.heap.size W12 W) (hE : SeenAt W E (selOf ps zs)) => show Calls Tryd.prog 10 #[.slice F (selOf ps zs).length cf, .slice E (selOf ps zs).length ce] W fun e w' => e = .returned (.int .i64 (-1)) ∧ Below W.heap.size W w' from by
    have h := first_any F E cf ce (selOf ps zs) (selOf ps zs) (HF12.out.below hW) hE (by omega) (by omega)
    rw [first_self] at h
    exact h)
  have HWI := Lib.hid (fun (W : World) (hW : Below W12.heap.size W12 W) => show Calls Tryd.prog 23 #[.slice D (xs.length + ys.length) cd, .int .i64 2] W fun e w' => ∃ v, e = .returned v ∧ OwnS w' W.heap.size v (without 2 zs) ∧ Below W.heap.size W w' from by
    rw [← hzl]
    exact without_any D cd zs (HD12.out.below hW) (by omega) 2)
  have HF2 := Lib.hid (fun (E : Option Addr) (ce : Nat) (W : World) (hW : Below W12.heap.size W12 W) (hE : SeenAt W E (without 2 zs)) => show Calls Tryd.prog 10 #[.slice G (without 2 zs).length cg, .slice E (without 2 zs).length ce] W fun e w' => e = .returned (.int .i64 (-1)) ∧ Below W.heap.size W w' from by
    have h := first_any G E cg ce (without 2 zs) (without 2 zs) (HG12.out.below hW) hE (by omega) (by omega)
    rw [first_self] at h
    exact h)
  obtain ⟨fr, hfr⟩ : ∃ fr : Int, fr = first xs zs := ⟨_, rfl⟩
  have HF3 := Lib.hid (fun (W : World) (hW : Below W12.heap.size W12 W) => show Calls Tryd.prog 10 #[.slice A xs.length ca, .slice D (xs.length + ys.length) cd] W fun e w' => e = .returned (.int .i64 fr) ∧ Below W.heap.size W w' from by
    rw [hfr, ← hzl]
    exact first_any A D ca cd xs zs (HX12.out.below hW) (HD12.out.below hW) (by omega) (by omega))
  have hlast : (¬ (0 : Int) < (ys.length : Int) ∧ fr = -1) ∨ ((0 : Int) < (ys.length : Int) ∧ fr = (xs.length : Int)) := by
    rw [hfr, HFA.out]
    by_cases h : ys = []
    · exact .inl ⟨by rw [h]; simp, if_pos h⟩
    · exact .inr ⟨by have := List.length_pos_iff.2 h; omega, if_neg h⟩
  clear hfr HF12 HD12 HG12 HX12 HP12 HFA HSA HWA HVX HVY HVZ
  generalize selOf ps zs = oz at *
  generalize without 2 zs = wz at *
  rcases HCASE.out with ⟨rfl, rfl, rfl, rfl⟩ | ⟨rfl, rfl, rfl⟩ | ⟨rfl, rfl⟩ <;> rcases hlast with ⟨hl, rfl⟩ | ⟨hl, rfl⟩
  all_goals
    go_wp2_with fail
    refine HOF.out.mono ?_
    rintro e W13 ⟨v, rfl, ho, hb13⟩
    obtain ⟨E, ce, rfl, hE, _⟩ := ownS_at ho
    have hs13 := hb13.size
    have HE := Lib.hid hE
    have HB13 := Lib.hid hb13
    clear ho hE hb13
    go_wp2_with fail
    refine (HF1.out _ _ _ HB13.out HE.out).mono ?_
    rintro e W14 ⟨rfl, hb14⟩
    have HB14 := Lib.hid (bl_step HB13.out HB13.out.size hb14)
    clear hb14 HE HB13
    go_wp2_with fail
    refine (HWI.out _ HB14.out).mono ?_
    rintro e W15 ⟨v, rfl, ho, hb15⟩
    obtain ⟨E', ce', rfl, hE, _⟩ := ownS_at ho
    have HE := Lib.hid hE
    have HB15 := Lib.hid (bl_step HB14.out HB14.out.size hb15)
    clear ho hE hb15 HB14
    go_wp2_with fail
    refine (HF2.out _ _ _ HB15.out HE.out).mono ?_
    rintro e W16 ⟨rfl, hb16⟩
    have HB16 := Lib.hid (bl_step HB15.out HB15.out.size hb16)
    clear hb16 HE HB15
    go_wp2_with fail
    refine (HF3.out _ HB16.out).mono ?_
    rintro e W17 ⟨rfl, hb17⟩
    have HB17 := Lib.hid (bl_step HBW.out HBW.out.size (bl_step HB16.out HB16.out.size hb17))
    clear hb17
    go_wp2
    go_ret
    exact ⟨by first | rfl | simp, HB17.out⟩
end Go.Proofs.YtpcaeggecojaeaaDoor

/-
  The law GaussNames, walked. Condition: the library's tables and errors lie as its text lays them.
-/
import Derived.Test.YtodphfgopngpeaaDoorGp4
namespace Go.Proofs.YtodphfgopngpeaaDoor
open Go.RowKit
set_option linter.unusedVariables false
set_option linter.unusedSimpArgs false
attribute [local irreducible] floatOfInt wz

theorem last_app (a d : List UInt8) {s : UInt8} (hs : PM s) (hd : ∀ c ∈ d, ¬ PM c) : LastP (a ++ s :: d) (a.length : Int) := by
  refine Or.inr ⟨a.length, rfl, ⟨s, ?_, hs⟩, fun j b hj hb => ?_⟩
  · rw [List.getElem?_append_right (Nat.le_refl _), Nat.sub_self]; rfl
  · rw [List.getElem?_append_right (by omega)] at hb
    obtain ⟨k, hk⟩ : ∃ k, j - a.length = k + 1 := ⟨j - a.length - 1, by omega⟩
    rw [hk, List.getElem?_cons_succ] at hb
    exact hd b (List.mem_of_getElem? hb)
theorem no_text {a d : List UInt8} {s : UInt8} {v : Int} (hs : PM s) (hd : ∀ c ∈ d, ¬ PM c) (ha : Lib.atoiAll a = .ok v) (h : InR v → Lib.itoa v ≠ a) (p q : Int) (hp : InR p) (hq : InR q) : a ++ s :: d ≠ textG p q := by
  intro he
  have h1 := lastP_one (last_app a d hs hd) (by rw [he]; exact last_text p q)
  have h2 : Lib.itoa p = a := by
    rw [← text_head p q, ← he, show (Lib.itoa p).length = a.length by omega, List.take_left]
  have h3 := atoi_itoa (n := p) (by have := hp.1; omega) (by have := hp.2; omega)
  rw [h2, ha] at h3
  injection h3 with h3
  subst h3
  exact h hp h2
theorem noPM_of {d : List UInt8} (h : (d.all fun c => decide (c ≠ 43 ∧ c ≠ 45)) = true) : ∀ c ∈ d, ¬ PM c := fun c hc hp => by
  have := List.all_eq_true.1 h c hc
  rw [decide_eq_true_eq] at this
  rcases hp with rfl | rfl
  · exact this.1 rfl
  · exact this.2 rfl
theorem itoa_lit {v : Int} {a : List UInt8} (h : (decide (-9223372036854775808 ≤ v ∧ v ≤ 9223372036854775807) && !decide (itoaF v = a)) = true) : Lib.itoa v ≠ a := by
  rw [Bool.and_eq_true, decide_eq_true_eq] at h
  rw [← itoaF_eq h.1.1 h.1.2]
  intro e
  rw [e] at h
  simp at h
theorem half_no : isP 4602678819172646912 0 = false := by
  rw [Bool.eq_false_iff]
  intro h
  obtain ⟨⟨n, hn, _⟩, _⟩ := (isP_iff _ _).1 h
  have hd : FloatKind.f64.decode 4602678819172646912 = .number false 4503599627370496 (-53) := by decide +kernel
  have h1 := (whole_num hd n).1 hn
  have h2 : (4503599627370496 : Int) = n * 9007199254740992 := h1
  omega
theorem big_no : isP 4692750811720056832 0 = false := by
  rw [Bool.eq_false_iff]
  intro h
  obtain ⟨⟨n, hn, h0, h1⟩, _⟩ := (isP_iff _ _).1 h
  have := flo_inj hn flo_hi
  omega
theorem text27 : (⟨#[45, 50, 45, 55, 105]⟩ : ByteArray) = ⟨(textG (-2) (-7)).toArray⟩ := by
  unfold textG signG
  rw [← itoaF_eq (n := -2) (by decide) (by decide), ← itoaF_eq (n := -7) (by decide) (by decide)]
  decide +kernel

set_option maxRecDepth 100000 in
set_option maxHeartbeats 8000000 in
theorem namesLaw_any {w : World} (hG : GGr w) : Calls Tryd.prog 6 #[] w fun e w' => e = .returned (.bool true) ∧ Below w.heap.size w w' := by
  have HA := Lib.hid (fun W => alive_any (w := W))
  have HM := Lib.hid (fun W p q => gMake_any (w := W) p q)
  have HW := Lib.hid (fun W => show Calls Tryd.prog 15 #[mk (-1) 2] W fun e w' => e = .returned (.tuple #[.int .u32 4294967295, .int .u32 2]) ∧ Below W.heap.size W w' from by
    have h := wordsMk (w := W) (-1) 2
    rw [wz_small (by decide) (by decide), wz_small (by decide) (by decide)] at h
    exact h)
  have hno : ∀ (s : ByteArray), s.size ≤ 1000000 → (∀ p q, InR p → InR q → s.data.toList ≠ textG p q) → Hid (∀ W, GGr W → Calls Tryd.prog 17 #[.string s] W fun e w' => e = .returned (.tuple #[.complex .f64 0 0, .int .i64 20]) ∧ Below W.heap.size W w') :=
    fun s h1 h2 => Lib.hid fun W hW => parse_no hW s h1 h2
  have P1 := hno ⟨#[53]⟩ (by decide) (fun p q _ _ he => by
    have h1 := congrArg List.length he
    rw [text_len] at h1
    have h2 := itoa_pos p
    have h3 : 1 ≤ (Lib.decDigits q.natAbs).length := by rw [Lib.decDigits_length]; exact Lib.nDigits_pos _
    have h4 : (⟨#[53]⟩ : ByteArray).data.toList.length = 1 := rfl
    omega)
  have P2 := hno ⟨#[43, 53, 43, 49, 105]⟩ (by decide) (no_text (a := [43, 53]) (s := 43) (d := [49, 105]) (v := 5) (.inl rfl) (noPM_of (by decide)) (by decide +kernel) (fun _ => itoa_lit (by decide +kernel)))
  have P3 := hno ⟨#[48, 53, 43, 49, 105]⟩ (by decide) (no_text (a := [48, 53]) (s := 43) (d := [49, 105]) (v := 5) (.inl rfl) (noPM_of (by decide)) (by decide +kernel) (fun _ => itoa_lit (by decide +kernel)))
  have P5 := hno ⟨#[53, 50, 52, 50, 56, 56, 43, 48, 105]⟩ (by decide) (no_text (a := [53, 50, 52, 50, 56, 56]) (s := 43) (d := [48, 105]) (v := 524288) (.inl rfl) (noPM_of (by decide)) (by decide +kernel) (fun h => absurd h.2 (by decide)))
  have P4 := Lib.hid (fun W (hW : GGr W) => parse_yes hW (p := -2) (q := -7) ⟨by decide, by decide⟩ ⟨by decide, by decide⟩ ⟨#[45, 50, 45, 55, 105]⟩ text27)
  have HT := Lib.hid (fun W (hW : Pow W) => show Calls Tryd.prog 21 #[mk (-2) (-7)] W fun e w' => e = .returned (.string ⟨#[45, 50, 45, 55, 105]⟩) ∧ Below W.heap.size W w' from by
    have h := textMk hW (-2) (-7)
    rw [wz_small (by decide) (by decide), wz_small (by decide) (by decide), ← text27] at h
    exact h)
  have HT0 := Lib.hid (fun W (hW : Pow W) => show Calls Tryd.prog 21 #[.complex .f64 4602678819172646912 0] W fun e w' => e = .returned (.string ⟨#[]⟩) ∧ Below W.heap.size W w' from by
    have h := gText_any hW 4602678819172646912 0
    unfold txtG at h
    rw [half_no] at h
    exact h)
  have HY1 := Lib.hid (fun W => show Calls Tryd.prog 23 #[.complex .f64 4602678819172646912 0] W fun e w' => e = .returned (.bool false) ∧ Below W.heap.size W w' from by
    have h := may_any (w := W) 4602678819172646912 0
    rw [half_no] at h
    exact h)
  have HY2 := Lib.hid (fun W => show Calls Tryd.prog 23 #[.complex .f64 4692750811720056832 0] W fun e w' => e = .returned (.bool false) ∧ Below W.heap.size W w' from by
    have h := may_any (w := W) 4692750811720056832 0
    rw [big_no] at h
    exact h)
  have HS := Lib.hid (fun W => show Calls Tryd.prog 10 #[.complex .f64 4602678819172646912 0, mk 1 1] W fun e w' => e = .returned (mk 1 1) ∧ Below W.heap.size W w' from by
    have h := gAdd_any (w := W) 4602678819172646912 0 (floatOfInt .f64 (wz 1)) (floatOfInt .f64 (wz 1))
    rw [made_re, made_im, wz_small (n := 1) (by decide) (by decide)] at h
    unfold re im at h
    rw [half_no, if_neg (by decide), if_neg (by decide)] at h
    unfold mk
    rw [wz_small (n := 1) (by decide) (by decide)]
    unfold mk at h
    rw [wz_small (n := 0 + 1) (by decide) (by decide)] at h
    exact h)
  have HYM := Lib.hid (fun W => mayMk (w := W) 4611686018427387904 (-9223372036854775808))
  have k1 := fun w : World => mk_eql (-2) (-7) w
  have g1 := fun (x y : Operand) (w : World) => mk_guard (-2) (-7) x y w
  have k2 := fun w : World => mk_eql 1 1 w
  have g2 := fun (x y : Operand) (w : World) => mk_guard 1 1 x y w
  have HG := Lib.hid hG
  clear hno hG
  go_enter Tryd.func6, Tryd.ntmps6
  go_wp2_with fail
  refine (HM.out _ _ _).mono ?_
  rintro e _ ⟨rfl, rfl⟩
  go_wp2_with fail
  refine (HW.out _).mono ?_
  rintro e w1 ⟨rfl, hb⟩
  have HB1 := Lib.hid hb
  clear hb
  go_wp2_with fail
  refine (P1.out _ (HG.out.below HB1.out)).mono ?_
  rintro e w2 ⟨rfl, hb⟩
  have HB2 := Lib.hid (HB1.out.trans (hb.mono HB1.out.size))
  clear hb
  go_wp2_with fail
  refine (P2.out _ (HG.out.below HB2.out)).mono ?_
  rintro e w3 ⟨rfl, hb⟩
  have HB3 := Lib.hid (HB2.out.trans (hb.mono HB2.out.size))
  clear hb
  go_wp2_with fail
  refine (P3.out _ (HG.out.below HB3.out)).mono ?_
  rintro e w4 ⟨rfl, hb⟩
  have HB4 := Lib.hid (HB3.out.trans (hb.mono HB3.out.size))
  clear hb
  go_wp2_with fail
  refine (P4.out _ (HG.out.below HB4.out)).mono ?_
  rintro e w5 ⟨rfl, hb⟩
  have HB5 := Lib.hid (HB4.out.trans (hb.mono HB4.out.size))
  clear hb
  go_wp2_with fail
  refine (P5.out _ (HG.out.below HB5.out)).mono ?_
  rintro e w6 ⟨rfl, hb⟩
  have HB6 := Lib.hid (HB5.out.trans (hb.mono HB5.out.size))
  clear hb
  go_wp2_with fail
  refine (HA.out _).mono ?_
  rintro e w7 ⟨rfl, hb⟩
  have HB7 := Lib.hid (HB6.out.trans (hb.mono HB6.out.size))
  clear hb
  go_wp2_with fail
  refine (HM.out _ _ _).mono ?_
  rintro e _ ⟨rfl, rfl⟩
  go_wp2_with fail
  refine (HT.out _ (HG.out.p.below HB7.out)).mono ?_
  rintro e w8 ⟨rfl, hb⟩
  have HB8 := Lib.hid (HB7.out.trans (hb.mono HB7.out.size))
  clear hb
  go_wp2_with fail
  refine (HM.out _ _ _).mono ?_
  rintro e _ ⟨rfl, rfl⟩
  go_wp2_with fail
  refine (HY1.out _).mono ?_
  rintro e w9 ⟨rfl, hb⟩
  have HB9 := Lib.hid (HB8.out.trans (hb.mono HB8.out.size))
  clear hb
  go_wp2_with fail
  refine (HY2.out _).mono ?_
  rintro e w10 ⟨rfl, hb⟩
  have HB10 := Lib.hid (HB9.out.trans (hb.mono HB9.out.size))
  clear hb
  go_wp2_with fail
  refine (HT0.out _ (HG.out.p.below HB10.out)).mono ?_
  rintro e w11 ⟨rfl, hb⟩
  have HB11 := Lib.hid (HB10.out.trans (hb.mono HB10.out.size))
  clear hb
  go_wp2_with fail
  refine (HM.out _ _ _).mono ?_
  rintro e _ ⟨rfl, rfl⟩
  go_wp2_with fail
  refine (HS.out _).mono ?_
  rintro e w12 ⟨rfl, hb⟩
  have HB12 := Lib.hid (HB11.out.trans (hb.mono HB11.out.size))
  clear hb
  go_wp2_with fail
  refine (HM.out _ _ _).mono ?_
  rintro e _ ⟨rfl, rfl⟩
  go_wp2_with fail
  refine (HM.out _ _ _).mono ?_
  rintro e _ ⟨rfl, rfl⟩
  go_wp2_with fail
  refine (HYM.out _).mono ?_
  rintro e w13 ⟨rfl, hb⟩
  have HB13 := Lib.hid (HB12.out.trans (hb.mono HB12.out.size))
  clear hb
  go_wp2
  go_ret
  exact ⟨rfl, HB13.out⟩
end Go.Proofs.YtodphfgopngpeaaDoor

/-
  The document's Encode and Decode. No condition.
-/
import Derived.Test.YtkodeoocebimkaaDoorRi2h
namespace Go.Proofs.YtkodeoocebimkaaDoor
open Go.RowKit
set_option linter.unusedVariables false
set_option linter.unusedSimpArgs false
attribute [local go_sem] Oper.semAt_some

set_option maxRecDepth 100000 in
set_option maxHeartbeats 4000000 in
theorem refEncode_any (hM : MayC) {w : World} (op a b m : Int) : Calls Tryd.prog 13 #[.agg #[.int .i64 op, .int .i64 a, .int .i64 b, .int .i64 m]] w fun e w' => e = .returned (.tuple #[.int .u32 (encW ⟨op, a, b, m⟩), .int .i64 (errI ⟨op, a, b, m⟩)]) ∧ Below w.heap.size w w' := by
  have hb0 := (Below.refl w.heap.size w).alloc (Nat.le_refl _) (.cells #[.int .i64 op, .int .i64 a, .int .i64 b, .int .i64 m] 23)
  have hx0 := Blk.new w 23 #[.int .i64 op, .int .i64 a, .int .i64 b, .int .i64 m]
  have H := Lib.hid (fun W => hM W op a b m)
  have HB0 := Lib.hid hb0
  have HX0 := Lib.hid hx0
  obtain ⟨c0, c1, c2, c3, clt⟩ := ccells hx0
  clear hb0 hx0
  by_cases hm : MayI ⟨op, a, b, m⟩
  · rw [decide_eq_true hm] at H
    obtain ⟨⟨s1, s2⟩, ⟨s3, s4⟩, ⟨s5, s6⟩, s7, s8⟩ := may_small hm
    dsimp only at s1 s2 s3 s4 s5 s6 s7 s8
    have he : encW ⟨op, a, b, m⟩ = op * 16777216 + a * 1048576 + b * 65536 + m % 65536 := if_pos hm
    rw [he, errI_yes hm]
    have hr : 0 ≤ op * 16777216 + a * 1048576 + b * 65536 + m % 65536 ∧ op * 16777216 + a * 1048576 + b * 65536 + m % 65536 < 4294967296 := by omega
    clear hm he
    by_cases hn : m < 0
    · have hme : m % 65536 = m + 65536 := by omega
      rw [hme] at hr ⊢
      have v1 : wrap64 (m + 65536) = m + 65536 := by simp only [wrap64]; omega
      have w2 : wrap64 (op * 16777216) = op * 16777216 := by simp only [wrap64]; omega
      have w3 : wrap64 (a * 1048576) = a * 1048576 := by simp only [wrap64]; omega
      have w4 : wrap64 (b * 65536) = b * 65536 := by simp only [wrap64]; omega
      have w5 : wrap64 (op * 16777216 + a * 1048576) = op * 16777216 + a * 1048576 := by simp only [wrap64]; omega
      have w6 : wrap64 (op * 16777216 + a * 1048576 + b * 65536) = op * 16777216 + a * 1048576 + b * 65536 := by simp only [wrap64]; omega
      have w7 : wrap64 (op * 16777216 + a * 1048576 + b * 65536 + (m + 65536)) = op * 16777216 + a * 1048576 + b * 65536 + (m + 65536) := by simp only [wrap64]; omega
      have w8 : IntKind.u32.wrap (op * 16777216 + a * 1048576 + b * 65536 + (m + 65536)) = op * 16777216 + a * 1048576 + b * 65536 + (m + 65536) := by simp only [IntKind.wrap, IntKind.bits, IntKind.signed]; simp; omega
      clear hme s1 s2 s3 s4 s5 s6 s7 s8
      go_enter Tryd.func13, Tryd.ntmps13
      go_wp2_with fail
      refine (H.out _).mono ?_
      rintro e w1 ⟨rfl, hb1⟩
      have hx1 := HX0.out.below hb1 HX0.out.lt
      have HB1 := Lib.hid (bl_step HB0.out hb1)
      clear c0 c1 c2 c3 clt hb1
      obtain ⟨c0, c1, c2, c3, clt⟩ := ccells hx1
      clear hx1 H HX0 HB0
      go_wp2
      go_ret2
      exact ⟨by first | rfl | (simp only [w8]; done), HB1.out⟩
    · have hme : m % 65536 = m := by omega
      rw [hme] at hr ⊢
      have w2 : wrap64 (op * 16777216) = op * 16777216 := by simp only [wrap64]; omega
      have w3 : wrap64 (a * 1048576) = a * 1048576 := by simp only [wrap64]; omega
      have w4 : wrap64 (b * 65536) = b * 65536 := by simp only [wrap64]; omega
      have w5 : wrap64 (op * 16777216 + a * 1048576) = op * 16777216 + a * 1048576 := by simp only [wrap64]; omega
      have w6 : wrap64 (op * 16777216 + a * 1048576 + b * 65536) = op * 16777216 + a * 1048576 + b * 65536 := by simp only [wrap64]; omega
      have w7 : wrap64 (op * 16777216 + a * 1048576 + b * 65536 + m) = op * 16777216 + a * 1048576 + b * 65536 + m := by simp only [wrap64]; omega
      have w8 : IntKind.u32.wrap (op * 16777216 + a * 1048576 + b * 65536 + m) = op * 16777216 + a * 1048576 + b * 65536 + m := by simp only [IntKind.wrap, IntKind.bits, IntKind.signed]; simp; omega
      clear hme s1 s2 s3 s4 s5 s6 s7 s8
      go_enter Tryd.func13, Tryd.ntmps13
      go_wp2_with fail
      refine (H.out _).mono ?_
      rintro e w1 ⟨rfl, hb1⟩
      have hx1 := HX0.out.below hb1 HX0.out.lt
      have HB1 := Lib.hid (bl_step HB0.out hb1)
      clear c0 c1 c2 c3 clt hb1
      obtain ⟨c0, c1, c2, c3, clt⟩ := ccells hx1
      clear hx1 H HX0 HB0
      go_wp2
      go_ret2
      exact ⟨by first | rfl | (simp only [w8]; done), HB1.out⟩
  · rw [decide_eq_false hm] at H
    have he : encW ⟨op, a, b, m⟩ = 0 := if_neg hm
    rw [he, errI_no hm]
    clear hm he
    go_enter Tryd.func13, Tryd.ntmps13
    go_wp2_with fail
    refine (H.out _).mono ?_
    rintro e w1 ⟨rfl, hb1⟩
    have HB1 := Lib.hid (bl_step HB0.out hb1)
    clear c0 c1 c2 c3 clt HX0 HB0 hb1 H
    go_wp2
    go_ret2
    exact ⟨rfl, HB1.out⟩

set_option maxRecDepth 100000 in
set_option maxHeartbeats 8000000 in
theorem refDecode_any (hM : MayC) {w : World} (n : Int) (hn : RangeW n) : Calls Tryd.prog 15 #[.int .u32 n] w fun e w' => e = .returned (.tuple #[.agg (decO n).cells.toArray, .int .i64 (errI (decI n))]) ∧ Below w.heap.size w w' := by
  unfold RangeW at hn
  obtain ⟨n0, n1⟩ := hn
  have t1 : (n / 1048576).tmod 16 = n / 1048576 % 16 := Int.tmod_eq_emod_of_nonneg (by omega)
  have t2 : (n / 65536).tmod 16 = n / 65536 % 16 := Int.tmod_eq_emod_of_nonneg (by omega)
  have t3 : n.tmod 65536 = n % 65536 := Int.tmod_eq_emod_of_nonneg (by omega)
  obtain ⟨op, hop⟩ : ∃ op, n / 16777216 = op := ⟨_, rfl⟩
  obtain ⟨a, ha⟩ : ∃ a, n / 1048576 % 16 = a := ⟨_, rfl⟩
  obtain ⟨b, hb⟩ : ∃ b, n / 65536 % 16 = b := ⟨_, rfl⟩
  obtain ⟨i0, hi0⟩ : ∃ i0, n % 65536 = i0 := ⟨_, rfl⟩
  have hi1 : 0 ≤ i0 ∧ i0 < 65536 := by omega
  obtain ⟨im, him⟩ : ∃ im, (if i0 < 32768 then i0 else i0 - 65536) = im := ⟨_, rfl⟩
  have hde : decI n = ⟨op, a, b, im⟩ := by unfold decI; rw [hop, ha, hb, hi0, him]
  have hb0 := bl_new ((Below.refl w.heap.size w).alloc (Nat.le_refl _) (.cells #[.int .i64 0, .int .i64 0, .int .i64 0, .int .i64 0] 23)) (.cells #[.int .i64 op, .int .i64 a, .int .i64 b, .int .i64 i0] 23)
  have hr0 := (Blk.new w 23 #[.int .i64 0, .int .i64 0, .int .i64 0, .int .i64 0]).alloc (.cells #[.int .i64 op, .int .i64 a, .int .i64 b, .int .i64 i0] 23)
  have hx0 := Blk.new (w.alloc (.cells #[.int .i64 0, .int .i64 0, .int .i64 0, .int .i64 0] 23)) 23 #[.int .i64 op, .int .i64 a, .int .i64 b, .int .i64 i0]
  simp only [World.size_alloc] at hx0
  have H := Lib.hid (fun W => hM W op a b im)
  have hm : (∃ R, R = true ∧ decide (MayI ⟨op, a, b, im⟩) = R ∧ decO n = ⟨op, a, b, im⟩ ∧ errI ⟨op, a, b, im⟩ = 0) ∨ (∃ R, R = false ∧ decide (MayI ⟨op, a, b, im⟩) = R ∧ decO n = x0 ∧ errI ⟨op, a, b, im⟩ = 30) := by
    unfold decO
    rw [hde]
    by_cases h : MayI ⟨op, a, b, im⟩
    · rw [if_pos h]; exact .inl ⟨true, rfl, decide_eq_true h, rfl, errI_yes h⟩
    · rw [if_neg h]; exact .inr ⟨false, rfl, decide_eq_false h, rfl, errI_no h⟩
  rw [hde]
  clear hde
  have HX0 := Lib.hid hx0
  have HR0 := Lib.hid hr0
  have HB0 := Lib.hid hb0
  obtain ⟨c0, c1, c2, c3, clt⟩ := ccells hx0
  have f3 := hx0.frozen 3
  clear hx0 hr0 hb0
  rcases hm with ⟨R, hR, hd, hdo, her⟩ | ⟨R, hR, hd, hdo, her⟩
  all_goals
    rw [hd, hR] at H
    rw [hdo, her]
    clear hd hR hdo her
    by_cases hlt : i0 < 32768
    · rw [if_pos hlt] at him
      subst him
      have hgt : ¬ (32767 : Int) < i0 := by omega
      go_enter Tryd.func15, Tryd.ntmps15
      go_wp2_with fail
      refine (H.out _).mono ?_
      rintro e w1 ⟨rfl, hb1⟩
      have hx1 := HX0.out.below hb1 HX0.out.lt
      have hr1 := HR0.out.below hb1 HR0.out.lt
      have HB1 := Lib.hid (bl_step HB0.out hb1)
      have g0 := hr1.frozen 0
      have g1 := hr1.frozen 1
      have g2 := hr1.frozen 2
      have g3 := hr1.frozen 3
      clear c0 c1 c2 c3 clt f3 hb1 HX0 HR0 HB0
      obtain ⟨c0, c1, c2, c3, clt⟩ := ccells hx1
      obtain ⟨d0, d1, d2, d3, dlt⟩ := ccells hr1
      have HR1 := Lib.hid hr1
      clear hx1 hr1 H
      go_wp2
      exact bodyPost_ret (results_row_tmp Tryd.results15 _ rfl (set4_blk HR1.out _ _ _ _) Tryd.underlying23 rfl (by kernel_rfl)) rfl ⟨rfl, set4_below HB1.out (Nat.le_refl _) _ _ _ _⟩
    · rw [if_neg hlt] at him
      have hgt : (32767 : Int) < i0 := by omega
      have w0 : wrap64 (i0 - 65536) = i0 - 65536 := by simp only [wrap64]; omega
      go_enter Tryd.func15, Tryd.ntmps15
      go_wp2_with fail
      have hx2 := Blk.new (w.alloc (.cells #[.int .i64 0, .int .i64 0, .int .i64 0, .int .i64 0] 23)) 23 #[.int .i64 op, .int .i64 a, .int .i64 b, .int .i64 im]
      simp only [World.size_alloc] at hx2
      have hr2 := (Blk.new w 23 #[.int .i64 0, .int .i64 0, .int .i64 0, .int .i64 0]).alloc (.cells #[.int .i64 op, .int .i64 a, .int .i64 b, .int .i64 im] 23)
      have hb2 := bl_new ((Below.refl w.heap.size w).alloc (Nat.le_refl _) (.cells #[.int .i64 0, .int .i64 0, .int .i64 0, .int .i64 0] 23)) (.cells #[.int .i64 op, .int .i64 a, .int .i64 b, .int .i64 im] 23)
      refine (H.out _).mono ?_
      rintro e w1 ⟨rfl, hb1⟩
      have hx1 := hx2.below hb1 hx2.lt
      have hr1 := hr2.below hb1 hr2.lt
      have HB1 := Lib.hid (bl_step hb2 hb1)
      have g0 := hr1.frozen 0
      have g1 := hr1.frozen 1
      have g2 := hr1.frozen 2
      have g3 := hr1.frozen 3
      clear c0 c1 c2 c3 clt f3 hb1 HX0 HR0 HB0 hx2 hr2 hb2
      obtain ⟨c0, c1, c2, c3, clt⟩ := ccells hx1
      obtain ⟨d0, d1, d2, d3, dlt⟩ := ccells hr1
      have HR1 := Lib.hid hr1
      clear hx1 hr1 H
      go_wp2
      exact bodyPost_ret (results_row_tmp Tryd.results15 _ rfl (set4_blk HR1.out _ _ _ _) Tryd.underlying23 rfl (by kernel_rfl)) rfl ⟨rfl, set4_below HB1.out (Nat.le_refl _) _ _ _ _⟩
end Go.Proofs.YtkodeoocebimkaaDoor

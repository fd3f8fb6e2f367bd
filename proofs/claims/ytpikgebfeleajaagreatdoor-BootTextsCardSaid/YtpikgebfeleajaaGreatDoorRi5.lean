/-
  The document's line of an instruction. No condition.
-/
import Derived.Test.YtpikgebfeleajaaGreatDoorRi2h
import Derived.Test.YtpikgebfeleajaaGreatDoorIs6
import Derived.Test.YtpikgebfeleajaaGreatDoorRi7
namespace Go.Proofs.YtpikgebfeleajaaGreatDoor.I
section
open Go.RowKit
set_option linter.unusedVariables false
set_option linter.unusedSimpArgs false
attribute [local go_sem] Oper.semAt_some

set_option maxRecDepth 100000 in
set_option maxHeartbeats 4000000 in
theorem refEncode_any (hM : MayC) {w : World} (op a b m : Int) : Calls Tryz.prog 59 #[.agg #[.int .i64 op, .int .i64 a, .int .i64 b, .int .i64 m]] w fun e w' => e = .returned (.tuple #[.int .u32 (encW ⟨op, a, b, m⟩), .int .i64 (errI ⟨op, a, b, m⟩)]) ∧ Below w.heap.size w w' := by
  have hb0 := (Below.refl w.heap.size w).alloc (Nat.le_refl _) (.cells #[.int .i64 op, .int .i64 a, .int .i64 b, .int .i64 m] 86)
  have hx0 := Blk.new w 86 #[.int .i64 op, .int .i64 a, .int .i64 b, .int .i64 m]
  have H := Lib.hid (fun W => hM W op a b m)
  have HB0 := Lib.hid hb0
  have HX0 := Lib.hid hx0
  obtain ⟨c0, c1, c2, c3, clt⟩ := ccells hx0
  clear hb0 hx0
  by_cases hm : MayI ⟨op, a, b, m⟩
  · rw [decide_eq_true hm] at H
    obtain ⟨⟨s1, s2⟩, ⟨s3, s4⟩, ⟨s5, s6⟩, s7, s8⟩ := may_small hm
    dsimp only at s1 s2 s3 s4 s5 s6 s7 s8
    have he : encW ⟨op, a, b, m⟩ = op * 16777216 + a * 1048576 + b * 65536 + m % 65536 := if_pos hm
    rw [he, errI_yes hm]
    have hr : 0 ≤ op * 16777216 + a * 1048576 + b * 65536 + m % 65536 ∧ op * 16777216 + a * 1048576 + b * 65536 + m % 65536 < 4294967296 := by omega
    clear hm he
    by_cases hn : m < 0
    · have hme : m % 65536 = m + 65536 := by omega
      rw [hme] at hr ⊢
      have v1 : wrap64 (m + 65536) = m + 65536 := by simp only [wrap64]; omega
      have w2 : wrap64 (op * 16777216) = op * 16777216 := by simp only [wrap64]; omega
      have w3 : wrap64 (a * 1048576) = a * 1048576 := by simp only [wrap64]; omega
      have w4 : wrap64 (b * 65536) = b * 65536 := by simp only [wrap64]; omega
      have w5 : wrap64 (op * 16777216 + a * 1048576) = op * 16777216 + a * 1048576 := by simp only [wrap64]; omega
      have w6 : wrap64 (op * 16777216 + a * 1048576 + b * 65536) = op * 16777216 + a * 1048576 + b * 65536 := by simp only [wrap64]; omega
      have w7 : wrap64 (op * 16777216 + a * 1048576 + b * 65536 + (m + 65536)) = op * 16777216 + a * 1048576 + b * 65536 + (m + 65536) := by simp only [wrap64]; omega
      have w8 : IntKind.u32.wrap (op * 16777216 + a * 1048576 + b * 65536 + (m + 65536)) = op * 16777216 + a * 1048576 + b * 65536 + (m + 65536) := by simp only [IntKind.wrap, IntKind.bits, IntKind.signed]; simp; omega
      clear hme s1 s2 s3 s4 s5 s6 s7 s8
      go_enter Tryz.func59, Tryz.ntmps59
      go_wp2_with fail
      refine (H.out _).mono ?_
      rintro e w1 ⟨rfl, hb1⟩
      have hx1 := HX0.out.below hb1 HX0.out.lt
      have HB1 := Lib.hid (bl_step HB0.out hb1)
      clear c0 c1 c2 c3 clt hb1
      obtain ⟨c0, c1, c2, c3, clt⟩ := ccells hx1
      clear hx1 H HX0 HB0
      go_wp2
      go_ret2
      exact ⟨by first | rfl | (simp only [w8]; done), HB1.out⟩
    · have hme : m % 65536 = m := by omega
      rw [hme] at hr ⊢
      have w2 : wrap64 (op * 16777216) = op * 16777216 := by simp only [wrap64]; omega
      have w3 : wrap64 (a * 1048576) = a * 1048576 := by simp only [wrap64]; omega
      have w4 : wrap64 (b * 65536) = b * 65536 := by simp only [wrap64]; omega
      have w5 : wrap64 (op * 16777216 + a * 1048576) = op * 16777216 + a * 1048576 := by simp only [wrap64]; omega
      have w6 : wrap64 (op * 16777216 + a * 1048576 + b * 65536) = op * 16777216 + a * 1048576 + b * 65536 := by simp only [wrap64]; omega
      have w7 : wrap64 (op * 16777216 + a * 1048576 + b * 65536 + m) = op * 16777216 + a * 1048576 + b * 65536 + m := by simp only [wrap64]; omega
      have w8 : IntKind.u32.wrap (op * 16777216 + a * 1048576 + b * 65536 + m) = op * 16777216 + a * 1048576 + b * 65536 + m := by simp only [IntKind.wrap, IntKind.bits, IntKind.signed]; simp; omega
      clear hme s1 s2 s3 s4 s5 s6 s7 s8
      go_enter Tryz.func59, Tryz.ntmps59
      go_wp2_with fail
      refine (H.out _).mono ?_
      rintro e w1 ⟨rfl, hb1⟩
      have hx1 := HX0.out.below hb1 HX0.out.lt
      have HB1 := Lib.hid (bl_step HB0.out hb1)
      clear c0 c1 c2 c3 clt hb1
      obtain ⟨c0, c1, c2, c3, clt⟩ := ccells hx1
      clear hx1 H HX0 HB0
      go_wp2
      go_ret2
      exact ⟨by first | rfl | (simp only [w8]; done), HB1.out⟩
  · rw [decide_eq_false hm] at H
    have he : encW ⟨op, a, b, m⟩ = 0 := if_neg hm
    rw [he, errI_no hm]
    clear hm he
    go_enter Tryz.func59, Tryz.ntmps59
    go_wp2_with fail
    refine (H.out _).mono ?_
    rintro e w1 ⟨rfl, hb1⟩
    have HB1 := Lib.hid (bl_step HB0.out hb1)
    clear c0 c1 c2 c3 clt HX0 HB0 hb1 H
    go_wp2
    go_ret2
    exact ⟨rfl, HB1.out⟩

set_option maxRecDepth 100000 in
set_option maxHeartbeats 8000000 in
theorem refDecode_any (hM : MayC) {w : World} (n : Int) (hn : RangeW n) : Calls Tryz.prog 46 #[.int .u32 n] w fun e w' => e = .returned (.tuple #[.agg (decO n).cells.toArray, .int .i64 (errI (decI n))]) ∧ Below w.heap.size w w' := by
  unfold RangeW at hn
  obtain ⟨n0, n1⟩ := hn
  have t1 : (n / 1048576).tmod 16 = n / 1048576 % 16 := Int.tmod_eq_emod_of_nonneg (by omega)
  have t2 : (n / 65536).tmod 16 = n / 65536 % 16 := Int.tmod_eq_emod_of_nonneg (by omega)
  have t3 : n.tmod 65536 = n % 65536 := Int.tmod_eq_emod_of_nonneg (by omega)
  obtain ⟨op, hop⟩ : ∃ op, n / 16777216 = op := ⟨_, rfl⟩
  obtain ⟨a, ha⟩ : ∃ a, n / 1048576 % 16 = a := ⟨_, rfl⟩
  obtain ⟨b, hb⟩ : ∃ b, n / 65536 % 16 = b := ⟨_, rfl⟩
  obtain ⟨i0, hi0⟩ : ∃ i0, n % 65536 = i0 := ⟨_, rfl⟩
  have hi1 : 0 ≤ i0 ∧ i0 < 65536 := by omega
  obtain ⟨im, him⟩ : ∃ im, (if i0 < 32768 then i0 else i0 - 65536) = im := ⟨_, rfl⟩
  have hde : decI n = ⟨op, a, b, im⟩ := by unfold decI; rw [hop, ha, hb, hi0, him]
  have hb0 := bl_new ((Below.refl w.heap.size w).alloc (Nat.le_refl _) (.cells #[.int .i64 0, .int .i64 0, .int .i64 0, .int .i64 0] 86)) (.cells #[.int .i64 op, .int .i64 a, .int .i64 b, .int .i64 i0] 86)
  have hr0 := (Blk.new w 86 #[.int .i64 0, .int .i64 0, .int .i64 0, .int .i64 0]).alloc (.cells #[.int .i64 op, .int .i64 a, .int .i64 b, .int .i64 i0] 86)
  have hx0 := Blk.new (w.alloc (.cells #[.int .i64 0, .int .i64 0, .int .i64 0, .int .i64 0] 86)) 86 #[.int .i64 op, .int .i64 a, .int .i64 b, .int .i64 i0]
  simp only [World.size_alloc] at hx0
  have H := Lib.hid (fun W => hM W op a b im)
  have hm : (∃ R, R = true ∧ decide (MayI ⟨op, a, b, im⟩) = R ∧ decO n = ⟨op, a, b, im⟩ ∧ errI ⟨op, a, b, im⟩ = 0) ∨ (∃ R, R = false ∧ decide (MayI ⟨op, a, b, im⟩) = R ∧ decO n = x0 ∧ errI ⟨op, a, b, im⟩ = 30) := by
    unfold decO
    rw [hde]
    by_cases h : MayI ⟨op, a, b, im⟩
    · rw [if_pos h]; exact .inl ⟨true, rfl, decide_eq_true h, rfl, errI_yes h⟩
    · rw [if_neg h]; exact .inr ⟨false, rfl, decide_eq_false h, rfl, errI_no h⟩
  rw [hde]
  clear hde
  have HX0 := Lib.hid hx0
  have HR0 := Lib.hid hr0
  have HB0 := Lib.hid hb0
  obtain ⟨c0, c1, c2, c3, clt⟩ := ccells hx0
  have f3 := hx0.frozen 3
  clear hx0 hr0 hb0
  rcases hm with ⟨R, hR, hd, hdo, her⟩ | ⟨R, hR, hd, hdo, her⟩
  all_goals
    rw [hd, hR] at H
    rw [hdo, her]
    clear hd hR hdo her
    by_cases hlt : i0 < 32768
    · rw [if_pos hlt] at him
      subst him
      have hgt : ¬ (32767 : Int) < i0 := by omega
      go_enter Tryz.func46, Tryz.ntmps46
      go_wp2_with fail
      refine (H.out _).mono ?_
      rintro e w1 ⟨rfl, hb1⟩
      have hx1 := HX0.out.below hb1 HX0.out.lt
      have hr1 := HR0.out.below hb1 HR0.out.lt
      have HB1 := Lib.hid (bl_step HB0.out hb1)
      have g0 := hr1.frozen 0
      have g1 := hr1.frozen 1
      have g2 := hr1.frozen 2
      have g3 := hr1.frozen 3
      clear c0 c1 c2 c3 clt f3 hb1 HX0 HR0 HB0
      obtain ⟨c0, c1, c2, c3, clt⟩ := ccells hx1
      obtain ⟨d0, d1, d2, d3, dlt⟩ := ccells hr1
      have HR1 := Lib.hid hr1
      clear hx1 hr1 H
      go_wp2
      exact bodyPost_ret (results_row_tmp Tryz.results46 _ rfl (set4_blk HR1.out _ _ _ _) Tryz.underlying86 rfl (by kernel_rfl)) rfl ⟨rfl, set4_below HB1.out (Nat.le_refl _) _ _ _ _⟩
    · rw [if_neg hlt] at him
      have hgt : (32767 : Int) < i0 := by omega
      have w0 : wrap64 (i0 - 65536) = i0 - 65536 := by simp only [wrap64]; omega
      go_enter Tryz.func46, Tryz.ntmps46
      go_wp2_with fail
      have hx2 := Blk.new (w.alloc (.cells #[.int .i64 0, .int .i64 0, .int .i64 0, .int .i64 0] 86)) 86 #[.int .i64 op, .int .i64 a, .int .i64 b, .int .i64 im]
      simp only [World.size_alloc] at hx2
      have hr2 := (Blk.new w 86 #[.int .i64 0, .int .i64 0, .int .i64 0, .int .i64 0]).alloc (.cells #[.int .i64 op, .int .i64 a, .int .i64 b, .int .i64 im] 86)
      have hb2 := bl_new ((Below.refl w.heap.size w).alloc (Nat.le_refl _) (.cells #[.int .i64 0, .int .i64 0, .int .i64 0, .int .i64 0] 86)) (.cells #[.int .i64 op, .int .i64 a, .int .i64 b, .int .i64 im] 86)
      refine (H.out _).mono ?_
      rintro e w1 ⟨rfl, hb1⟩
      have hx1 := hx2.below hb1 hx2.lt
      have hr1 := hr2.below hb1 hr2.lt
      have HB1 := Lib.hid (bl_step hb2 hb1)
      have g0 := hr1.frozen 0
      have g1 := hr1.frozen 1
      have g2 := hr1.frozen 2
      have g3 := hr1.frozen 3
      clear c0 c1 c2 c3 clt f3 hb1 HX0 HR0 HB0 hx2 hr2 hb2
      obtain ⟨c0, c1, c2, c3, clt⟩ := ccells hx1
      obtain ⟨d0, d1, d2, d3, dlt⟩ := ccells hr1
      have HR1 := Lib.hid hr1
      clear hx1 hr1 H
      go_wp2
      exact bodyPost_ret (results_row_tmp Tryz.results46 _ rfl (set4_blk HR1.out _ _ _ _) Tryz.underlying86 rfl (by kernel_rfl)) rfl ⟨rfl, set4_below HB1.out (Nat.le_refl _) _ _ _ _⟩
end
end Go.Proofs.YtpikgebfeleajaaGreatDoor.I
namespace Go.Proofs.YtpikgebfeleajaaGreatDoor.I
section
open Go.RowKit
set_option linter.unusedVariables false
set_option linter.unusedSimpArgs false
attribute [local go_sem] Oper.semAt_some

def fld (x : Ins) (c : UInt8) : Int := if c = 97 then x.a else if c = 98 then x.b else x.imm
def addL (x : Ins) (l s : List UInt8) : List UInt8 := l.foldl (fun s c => s ++ 32 :: Lib.itoa (fld x c)) s
theorem addL_snoc (x : Ins) (l s : List UInt8) (c : UInt8) : addL x (l ++ [c]) s = addL x l s ++ 32 :: Lib.itoa (fld x c) := by unfold addL; rw [List.foldl_append]; rfl
theorem lets_line {x : Ins} (h : MayI x) : addL x (letsI x.op) (nameI x.op) = lineI x := by
  have h0 := h.1
  rw [lineI_is]
  unfold letsI
  rw [if_pos h0]
  have q1 : fld x 97 = x.a := rfl
  have q2 : fld x 98 = x.b := rfl
  have q3 : fld x 105 = x.imm := rfl
  by_cases h1 : 0 ≤ fA (fR x.op)
  · by_cases h2 : 0 ≤ fB (fR x.op)
    · cases h3 : fI (fR x.op) <;> simp [h1, h2, h3, addL, addW, q1, q2, q3]
    · cases h3 : fI (fR x.op) <;> simp [h1, h2, h3, addL, addW, q1, q2, q3]
  · by_cases h2 : 0 ≤ fB (fR x.op)
    · cases h3 : fI (fR x.op) <;> simp [h1, h2, h3, addL, addW, q1, q2, q3]
    · cases h3 : fI (fR x.op) <;> simp [h1, h2, h3, addL, addW, q1, q2, q3]
theorem itoa_size (n : Int) (h0 : -9223372036854775808 < n) (h1 : n ≤ 9223372036854775807) : (⟨(Lib.itoa n).toArray⟩ : ByteArray).size ≤ 21 := by
  show (Lib.itoa n).toArray.size ≤ _
  rw [List.size_toArray]
  exact itoa_len n (by omega) h1
theorem app3 (s : ByteArray) (n : Int) : (s ++ ⟨#[32]⟩ ++ ⟨(Lib.itoa n).toArray⟩ : ByteArray).data.toList = s.data.toList ++ 32 :: Lib.itoa n := by
  rw [ByteArray.data_append, Array.toList_append, ByteArray.data_append, Array.toList_append]
  simp

set_option maxRecDepth 100000 in
set_option maxHeartbeats 4000000 in
theorem refLine_no (hM : MayC) {w : World} (op a b m : Int) (hm : ¬ MayI ⟨op, a, b, m⟩) : Calls Tryz.prog 47 #[.agg #[.int .i64 op, .int .i64 a, .int .i64 b, .int .i64 m]] w fun e w' => e = .returned (.tuple #[.string ⟨#[]⟩, .int .i64 30]) ∧ Below w.heap.size w w' := by
  have HB0 := Lib.hid ((Below.refl w.heap.size w).alloc (Nat.le_refl _) (.cells #[.int .i64 op, .int .i64 a, .int .i64 b, .int .i64 m] 86))
  have hx0 := Blk.new w 86 #[.int .i64 op, .int .i64 a, .int .i64 b, .int .i64 m]
  have H := Lib.hid (fun W => hM W op a b m)
  rw [decide_eq_false hm] at H
  obtain ⟨c0, c1, c2, c3, clt⟩ := ccells hx0
  clear hx0 hm
  go_enter Tryz.func47, Tryz.ntmps47
  go_wp2_with fail
  refine (H.out _).mono ?_
  rintro e w1 ⟨rfl, hb1⟩
  have HB1 := Lib.hid (bl_step HB0.out hb1)
  clear c0 c1 c2 c3 clt HB0 hb1 H
  go_wp2
  go_ret2
  exact ⟨rfl, HB1.out⟩

set_option maxRecDepth 100000 in
set_option maxHeartbeats 8000000 in
theorem refLine_yes (hM : MayC) {w : World} (op a b m : Int) (hm : MayI ⟨op, a, b, m⟩) : Calls Tryz.prog 47 #[.agg #[.int .i64 op, .int .i64 a, .int .i64 b, .int .i64 m]] w fun e w' => e = .returned (.tuple #[.string ⟨(lineI ⟨op, a, b, m⟩).toArray⟩, .int .i64 0]) ∧ Below w.heap.size w w' := by
  have HB0 := Lib.hid ((Below.refl w.heap.size w).alloc (Nat.le_refl _) (.cells #[.int .i64 op, .int .i64 a, .int .i64 b, .int .i64 m] 86))
  have HX0 := Lib.hid (Blk.new w 86 #[.int .i64 op, .int .i64 a, .int .i64 b, .int .i64 m])
  have H := Lib.hid (fun W => hM W op a b m)
  rw [decide_eq_true hm] at H
  have hsm := may_small hm
  obtain ⟨⟨s1, s2⟩, ⟨s3, s4⟩, ⟨s5, s6⟩, s7, s8⟩ := hsm
  dsimp only at s1 s2 s3 s4 s5 s6 s7 s8
  have HN := Lib.hid (fun W => refName_any (w := W) op)
  have HL := Lib.hid (fun W => refNames_any (w := W) op)
  obtain ⟨l, hl⟩ : ∃ l : ByteArray, (⟨(letsI op).toArray⟩ : ByteArray) = l := ⟨_, rfl⟩
  have hld : l.data.toList = letsI op := by rw [← hl]
  have hlz : l.size ≤ 3 := by
    have h2 : ∀ k : Fin 30, (letsI (k.1 : Int)).length ≤ 3 := by decide +kernel
    obtain ⟨k, rfl⟩ := Int.eq_ofNat_of_zero_le s1
    have h3 := h2 ⟨k, by omega⟩
    rw [← hl]
    show (letsI (k : Int)).toArray.size ≤ _
    rw [List.size_toArray]
    exact h3
  rw [hl] at HL
  have hnz : (fN (fR op)).size ≤ 5 := row_len ⟨fR op, by have := fR_le op; omega⟩
  have hnd : (fN (fR op)).data.toList = nameI op := rfl
  obtain ⟨nm, hnm⟩ : ∃ nm, fN (fR op) = nm := ⟨_, rfl⟩
  rw [hnm] at HN hnz hnd
  have HD := Lib.hid (fun W (n : Int) (h0 : -32768 ≤ n) (h1 : n ≤ 32767) => refDig_any (w := W) n (by omega) (by omega))
  have HE := Lib.hid (lets_line hm)
  rw [← hld, ← hnd] at HE
  clear hm hl hnm hnd hld
  obtain ⟨c0, c1, c2, c3, clt⟩ := ccells HX0.out
  go_enter Tryz.func47, Tryz.ntmps47
  go_wp2_with fail
  refine (H.out _).mono ?_
  rintro e w1 ⟨rfl, hb1⟩
  have HB1 := Lib.hid (bl_step HB0.out hb1)
  have HX1 := Lib.hid (HX0.out.below hb1 HX0.out.lt)
  clear c0 c1 c2 c3 clt HB0 HX0 hb1 H
  obtain ⟨c0, c1, c2, c3, clt⟩ := ccells HX1.out
  go_wp2_with fail
  refine (HN.out _).mono ?_
  rintro e w2 ⟨rfl, hb2⟩
  have HB2 := Lib.hid (bl_step HB1.out hb2)
  have HX2 := Lib.hid (HX1.out.below hb2 HX1.out.lt)
  clear c0 c1 c2 c3 clt HB1 HX1 hb2 HN
  obtain ⟨c0, c1, c2, c3, clt⟩ := ccells HX2.out
  go_wp2_with fail
  refine (HL.out _).mono ?_
  rintro e w3 ⟨rfl, rfl⟩
  clear HL
  have HS0 : Hid (nm.data.toList = addL ⟨op, a, b, m⟩ (l.data.toList.take 0) nm.data.toList) := rfl
  go_wp2_with fail
  go_loopw [5, 7] (fun v i wr => ∃ (k : Nat) (s : ByteArray), i = .int .i64 (k : Int) ∧ v = .string s ∧ k ≤ l.size ∧ s.size ≤ 5 + 22 * k ∧ Hid (s.data.toList = addL ⟨op, a, b, m⟩ (l.data.toList.take k) nm.data.toList) ∧ Hid (Blk wr w.heap.size 86 #[.int .i64 op, .int .i64 a, .int .i64 b, .int .i64 m]) ∧ Hid (Below w.heap.size w wr)) (fun _ i _ => l.size - (intOf i).toNat)
  case atStart => exact ⟨0, nm, rfl, rfl, Nat.zero_le _, by omega, HS0, HX2, HB2⟩
  case round =>
    obtain ⟨k, s, rfl, rfl, hk, hsz, HS, HX, HB⟩ := hrel
    clear c0 c1 c2 c3 clt HS0 HB2 HX2
    obtain ⟨c0, c1, c2, c3, clt⟩ := ccells HX.out
    have hll : l.data.toList.length = l.size := by rw [Array.length_toList]; rfl
    by_cases hks : k < l.size
    · have hka : (k : Int) < (l.size : Int) := by omega
      have hcs : l.data.toList[k]? = some l[k] := by rw [List.getElem?_eq_getElem (by omega), Array.getElem_toList]; rfl
      have HTK := Lib.hid (show l.data.toList.take (k + 1) = l.data.toList.take k ++ [l[k]] from by rw [List.take_add_one, hcs]; rfl)
      have hcat1 : s.size + 1 ≤ 9223372036854775807 := by omega
      clear hcs hll
      have HAP := Lib.hid (fun n => app3 s n)
      have HZ := Lib.hid (fun n h0 h1 => itoa_size n h0 h1)
      by_cases hc : l[k] = 97
      · have hb1 : ((l[k].toNat : Int) == 97) = true := by rw [hc]; rfl
        have HF := Lib.hid (show fld ⟨op, a, b, m⟩ l[k] = a from by rw [hc]; rfl)
        clear hc
        go_wp2_with fail
        refine (HD.out _ a (by omega) (by omega)).mono ?_
        rintro e w4 ⟨rfl, hb4⟩
        have HX4 := Lib.hid (HX.out.below hb4 HX.out.lt)
        have HB4 := Lib.hid (bl_step HB.out hb4)
        have hz := HZ.out a (by omega) (by omega)
        have HS4 := Lib.hid (show (s ++ ⟨#[32]⟩ ++ ⟨(Lib.itoa a).toArray⟩ : ByteArray).data.toList = addL ⟨op, a, b, m⟩ (l.data.toList.take (k + 1)) nm.data.toList from by rw [HTK.out, addL_snoc, HF.out, ← HS.out]; exact HAP.out a)
        clear hb4 c0 c1 c2 c3 clt
        generalize (⟨(Lib.itoa a).toArray⟩ : ByteArray) = D at *
        have hcat : s.size + 1 + D.size ≤ 9223372036854775807 := by omega
        go_wp2
        go_roundw
        case rel => exact ⟨k + 1, s ++ ⟨#[32]⟩ ++ D, by go_num, rfl, by omega, by rw [ByteArray.size_append, ByteArray.size_append]; show s.size + 1 + D.size ≤ _; omega, HS4, HX4, HB4⟩
        case measure => simp [intOf]; omega
      · have hb1 : ((l[k].toNat : Int) == 97) = false := by
          rw [beq_eq_false_iff_ne]
          intro h
          exact hc (UInt8.toNat_inj.1 (by show l[k].toNat = 97; omega))
        by_cases hd : l[k] = 98
        · have hb2 : ((l[k].toNat : Int) == 98) = true := by rw [hd]; rfl
          have HF := Lib.hid (show fld ⟨op, a, b, m⟩ l[k] = b from by rw [hd]; rfl)
          clear hc hd
          go_wp2_with fail
          refine (HD.out _ b (by omega) (by omega)).mono ?_
          rintro e w4 ⟨rfl, hb4⟩
          have HX4 := Lib.hid (HX.out.below hb4 HX.out.lt)
          have HB4 := Lib.hid (bl_step HB.out hb4)
          have hz := HZ.out b (by omega) (by omega)
          have HS4 := Lib.hid (show (s ++ ⟨#[32]⟩ ++ ⟨(Lib.itoa b).toArray⟩ : ByteArray).data.toList = addL ⟨op, a, b, m⟩ (l.data.toList.take (k + 1)) nm.data.toList from by rw [HTK.out, addL_snoc, HF.out, ← HS.out]; exact HAP.out b)
          clear hb4 c0 c1 c2 c3 clt
          generalize (⟨(Lib.itoa b).toArray⟩ : ByteArray) = D at *
          have hcat : s.size + 1 + D.size ≤ 9223372036854775807 := by omega
          go_wp2
          go_roundw
          case rel => exact ⟨k + 1, s ++ ⟨#[32]⟩ ++ D, by go_num, rfl, by omega, by rw [ByteArray.size_append, ByteArray.size_append]; show s.size + 1 + D.size ≤ _; omega, HS4, HX4, HB4⟩
          case measure => simp [intOf]; omega
        · have hb2 : ((l[k].toNat : Int) == 98) = false := by
            rw [beq_eq_false_iff_ne]
            intro h
            exact hd (UInt8.toNat_inj.1 (by show l[k].toNat = 98; omega))
          have HF := Lib.hid (show fld ⟨op, a, b, m⟩ l[k] = m from by unfold fld; rw [if_neg hc, if_neg hd])
          clear hc hd
          go_wp2_with fail
          refine (HD.out _ m (by omega) (by omega)).mono ?_
          rintro e w4 ⟨rfl, hb4⟩
          have HX4 := Lib.hid (HX.out.below hb4 HX.out.lt)
          have HB4 := Lib.hid (bl_step HB.out hb4)
          have hz := HZ.out m (by omega) (by omega)
          have HS4 := Lib.hid (show (s ++ ⟨#[32]⟩ ++ ⟨(Lib.itoa m).toArray⟩ : ByteArray).data.toList = addL ⟨op, a, b, m⟩ (l.data.toList.take (k + 1)) nm.data.toList from by rw [HTK.out, addL_snoc, HF.out, ← HS.out]; exact HAP.out m)
          clear hb4 c0 c1 c2 c3 clt
          generalize (⟨(Lib.itoa m).toArray⟩ : ByteArray) = D at *
          have hcat : s.size + 1 + D.size ≤ 9223372036854775807 := by omega
          go_wp2
          go_roundw
          case rel => exact ⟨k + 1, s ++ ⟨#[32]⟩ ++ D, by go_num, rfl, by omega, by rw [ByteArray.size_append, ByteArray.size_append]; show s.size + 1 + D.size ≤ _; omega, HS4, HX4, HB4⟩
          case measure => simp [intOf]; omega
    · have hkk : k = l.size := by omega
      subst hkk
      have hka : ¬ (l.size : Int) < (l.size : Int) := by omega
      have HSE := Lib.hid (show s = ⟨(lineI ⟨op, a, b, m⟩).toArray⟩ from by
        have h := HS.out
        rw [List.take_of_length_le (by omega), HE.out] at h
        exact ByteArray.ext (by rw [← h]))
      go_wp2
      go_ret2
      exact ⟨by rw [HSE.out]; rfl, HB.out⟩
end
end Go.Proofs.YtpikgebfeleajaaGreatDoor.I

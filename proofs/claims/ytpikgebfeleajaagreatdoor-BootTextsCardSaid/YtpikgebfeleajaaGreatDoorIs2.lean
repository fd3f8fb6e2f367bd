/-
  Walks over package isa: Encode, Decode. Condition: the table lies as the program's text lays it.
-/
import Derived.Lib.EndianBits
import Derived.Test.YtpikgebfeleajaaGreatDoorIs1
namespace Go.Proofs.YtpikgebfeleajaaGreatDoor.I
open Go.RowKit
set_option linter.unusedVariables false
set_option linter.unusedSimpArgs false
attribute [local go_sem] Oper.semAt_some

theorem errI_yes {x : Ins} (h : MayI x) : errI x = 0 := if_pos h
theorem errI_no {x : Ins} (h : ¬ MayI x) : errI x = 30 := if_neg h
theorem enc_bits {op a b m : Int} (hs : (0 ≤ op ∧ op < 30) ∧ (0 ≤ a ∧ a ≤ 7) ∧ (0 ≤ b ∧ b ≤ 7) ∧ (-32768 ≤ m ∧ m ≤ 32767)) :
    bits .or .u32 (bits .or .u32 (bits .or .u32 (op % 4294967296 * 16777216 % 4294967296) (a % 4294967296 * 1048576 % 4294967296)) (b % 4294967296 * 65536 % 4294967296)) (IntKind.u16.wrap m % 4294967296) = encI ⟨op, a, b, m⟩ := by
  obtain ⟨⟨h0, h1⟩, ⟨h2, h3⟩, ⟨h4, h5⟩, ⟨h6, h7⟩⟩ := hs
  have e0 : op % 4294967296 * 16777216 % 4294967296 = op * 16777216 := by omega
  have e1 : a % 4294967296 * 1048576 % 4294967296 = a * 1048576 := by omega
  have e2 : b % 4294967296 * 65536 % 4294967296 = b * 65536 := by omega
  have e3 : IntKind.u16.wrap m % 4294967296 = m % 65536 := by show m % 65536 % 4294967296 = _; omega
  rw [e0, e1, e2, e3]
  have p24 : (2 : Int) ^ 24 = 16777216 := by decide
  have p20 : (2 : Int) ^ 20 = 1048576 := by decide
  have p16 : (2 : Int) ^ 16 = 65536 := by decide
  have p32 : (2 : Int) ^ 32 = 4294967296 := by decide
  have J := fun i x y h1 h2 h3 h4 h5 h6 => bits_join .u32 32 (by decide) wraps_u32 i x y h1 h2 h3 h4 h5 h6
  rw [J 24 (op * 16777216) (a * 1048576) (by omega) (by rw [p24]; omega) (by rw [p32]; omega) (by omega) (by rw [p24]; omega) (by rw [p32]; omega)]
  rw [J 20 (op * 16777216 + a * 1048576) (b * 65536) (by omega) (by rw [p20]; omega) (by rw [p32]; omega) (by omega) (by rw [p20]; omega) (by rw [p32]; omega)]
  rw [J 16 (op * 16777216 + a * 1048576 + b * 65536) (m % 65536) (by omega) (by rw [p16]; omega) (by rw [p32]; omega) (by omega) (by rw [p16]; omega) (by rw [p32]; omega)]
  rfl

set_option maxRecDepth 100000 in
set_option maxHeartbeats 4000000 in
theorem encode_any {w : World} (hL : Laid w) (op a b m : Int) : Calls Tryz.prog 54 #[.agg #[.int .i64 op, .int .i64 a, .int .i64 b, .int .i64 m]] w fun e w' => e = .returned (.tuple #[.int .u32 (encW ⟨op, a, b, m⟩), .int .i64 (errI ⟨op, a, b, m⟩)]) ∧ Below w.heap.size w w' := by
  have hb0 := (Below.refl w.heap.size w).alloc (Nat.le_refl _) (.cells #[.int .i64 op, .int .i64 a, .int .i64 b, .int .i64 m] 86)
  have hx0 := Blk.new w 86 #[.int .i64 op, .int .i64 a, .int .i64 b, .int .i64 m]
  have H := Lib.hid (check_any (hL.below hb0) op a b m)
  obtain ⟨c0, c1, c2, c3, clt⟩ := ccells hx0
  clear hL
  by_cases hm : MayI ⟨op, a, b, m⟩
  · rw [errI_yes hm] at H ⊢
    have hs := may_small hm
    have he : encW ⟨op, a, b, m⟩ = encI ⟨op, a, b, m⟩ := if_pos hm
    rw [he]
    have HS := Lib.hid hs
    clear hm he hs
    go_enter Tryz.func54, Tryz.ntmps54
    go_wp2_with fail
    refine H.out.mono ?_
    rintro e w1 ⟨rfl, hb1⟩
    have hx1 := hx0.below hb1 hx0.lt
    have HB1 := Lib.hid (bl_step hb0 hb1)
    clear c0 c1 c2 c3 clt
    obtain ⟨c0, c1, c2, c3, clt⟩ := ccells hx1
    clear hb0 hx0 hb1 hx1 H
    go_wp2
    go_ret2
    refine ⟨?_, HB1.out⟩
    rw [← enc_bits HS.out]
    rfl
  · rw [errI_no hm] at H ⊢
    have he : encW ⟨op, a, b, m⟩ = 0 := if_neg hm
    rw [he]
    clear hm he
    go_enter Tryz.func54, Tryz.ntmps54
    go_wp2_with fail
    refine H.out.mono ?_
    rintro e w1 ⟨rfl, hb1⟩
    have HB1 := Lib.hid (bl_step hb0 hb1)
    clear c0 c1 c2 c3 clt hb0 hx0 hb1 H
    go_wp2
    go_ret2
    exact ⟨rfl, HB1.out⟩
theorem dec_and (w : Int) (h : RangeW w) : bits .and .u32 (w / 1048576) 15 = w / 1048576 % 16 ∧ bits .and .u32 (w / 65536) 15 = w / 65536 % 16 := by
  unfold RangeW at h
  have p32 : (2 : Int) ^ 32 = 4294967296 := by decide
  have p4 : (2 : Int) ^ 4 = 16 := by decide
  have J := fun x h1 h2 => bits_mask .u32 32 (by decide) wraps_u32 4 (by decide) x h1 h2
  rw [p4] at J
  exact ⟨J _ (by omega) (by rw [p32]; omega), J _ (by omega) (by rw [p32]; omega)⟩
theorem i16_wrap (w : Int) (h : RangeW w) : IntKind.i16.wrap w = if w % 65536 < 32768 then w % 65536 else w % 65536 - 65536 := by
  simp only [IntKind.wrap, IntKind.bits, IntKind.signed]
  simp
  split <;> split <;> omega
/-- What a word is decoded to. -/
def decO (w : Int) : Ins := if MayI (decI w) then decI w else x0
theorem decO_yes {w : Int} (h : MayI (decI w)) : decO w = decI w := if_pos h
theorem decO_no {w : Int} (h : ¬ MayI (decI w)) : decO w = x0 := if_neg h
set_option maxRecDepth 100000 in
set_option maxHeartbeats 4000000 in
theorem decode_any {w : World} (hL : Laid w) (n : Int) (hn : RangeW n) : Calls Tryz.prog 44 #[.int .u32 n] w fun e w' => e = .returned (.tuple #[.agg (decO n).cells.toArray, .int .i64 (errI (decI n))]) ∧ Below w.heap.size w w' := by
  have hd := dec_and n hn
  obtain ⟨im, him⟩ : ∃ im, IntKind.i16.wrap n = im := ⟨_, rfl⟩
  have hde : decI n = ⟨n / 16777216, n / 1048576 % 16, n / 65536 % 16, im⟩ := by rw [← him, i16_wrap n hn]; rfl
  have hw64 : wrap64 im = im := by
    have h := i16_wrap n hn
    rw [him] at h
    have : -32768 ≤ im ∧ im ≤ 32767 := by split at h <;> omega
    simp only [wrap64]; omega
  have hb0 := bl_new ((Below.refl w.heap.size w).alloc (Nat.le_refl _) (.cells #[.int .i64 0, .int .i64 0, .int .i64 0, .int .i64 0] 86)) (.cells #[.int .i64 (n / 16777216), .int .i64 (n / 1048576 % 16), .int .i64 (n / 65536 % 16), .int .i64 im] 86)
  have hr0 := (Blk.new w 86 #[.int .i64 0, .int .i64 0, .int .i64 0, .int .i64 0]).alloc (.cells #[.int .i64 (n / 16777216), .int .i64 (n / 1048576 % 16), .int .i64 (n / 65536 % 16), .int .i64 im] 86)
  have hx0 := Blk.new (w.alloc (.cells #[.int .i64 0, .int .i64 0, .int .i64 0, .int .i64 0] 86)) 86 #[.int .i64 (n / 16777216), .int .i64 (n / 1048576 % 16), .int .i64 (n / 65536 % 16), .int .i64 im]
  simp only [World.size_alloc] at hx0
  have H := Lib.hid (check_any (hL.below hb0) (n / 16777216) (n / 1048576 % 16) (n / 65536 % 16) im)
  have hm : (MayI ⟨n / 16777216, n / 1048576 % 16, n / 65536 % 16, im⟩ ∧ decO n = ⟨n / 16777216, n / 1048576 % 16, n / 65536 % 16, im⟩ ∧ errI ⟨n / 16777216, n / 1048576 % 16, n / 65536 % 16, im⟩ = 0) ∨ (decO n = x0 ∧ errI ⟨n / 16777216, n / 1048576 % 16, n / 65536 % 16, im⟩ = 30) := by
    unfold decO
    rw [hde]
    by_cases h : MayI ⟨n / 16777216, n / 1048576 % 16, n / 65536 % 16, im⟩
    · rw [if_pos h]; exact .inl ⟨h, rfl, errI_yes h⟩
    · rw [if_neg h]; exact .inr ⟨rfl, errI_no h⟩
  rw [hde]
  unfold RangeW at hn
  clear hL hde
  rcases hm with ⟨_, hdo, her⟩ | ⟨hdo, her⟩
  · rw [her] at H
    rw [hdo, her]
    clear her hdo
    go_enter Tryz.func44, Tryz.ntmps44
    go_wp2_with fail
    refine H.out.mono ?_
    rintro e w1 ⟨rfl, hb1⟩
    have hr1 := hr0.below hb1 hr0.lt
    have hx1 := hx0.below hb1 hx0.lt
    have hB1 := bl_step hb0 hb1
    have hlt := hr1.lt
    have f0 := hr1.frozen 0
    have f1 := hr1.frozen 1
    have f2 := hr1.frozen 2
    have f3 := hr1.frozen 3
    obtain ⟨c0, c1, c2, c3, clt⟩ := ccells hx1
    obtain ⟨d0, d1, d2, d3, dlt⟩ := ccells hr1
    have HR1 := Lib.hid hr1
    have HB1 := Lib.hid hB1
    clear hb0 hx0 hb1 hx1 H hr1 hr0 hB1 him
    go_wp2
    exact bodyPost_ret (results_row_tmp Tryz.results44 _ rfl (set4_blk HR1.out _ _ _ _) Tryz.underlying86 rfl (by kernel_rfl)) rfl ⟨rfl, set4_below HB1.out (Nat.le_refl _) _ _ _ _⟩
  · rw [her] at H
    rw [hdo, her]
    clear her hdo
    go_enter Tryz.func44, Tryz.ntmps44
    go_wp2_with fail
    refine H.out.mono ?_
    rintro e w1 ⟨rfl, hb1⟩
    have hr1 := hr0.below hb1 hr0.lt
    have hB1 := bl_step hb0 hb1
    have hlt := hr1.lt
    have f0 := hr1.frozen 0
    have f1 := hr1.frozen 1
    have f2 := hr1.frozen 2
    have f3 := hr1.frozen 3
    obtain ⟨d0, d1, d2, d3, dlt⟩ := ccells hr1
    have HR1 := Lib.hid hr1
    have HB1 := Lib.hid hB1
    clear hb0 hx0 hb1 H hr1 hr0 hB1 him
    go_wp2
    exact bodyPost_ret (results_row_tmp Tryz.results44 _ rfl (set4_blk HR1.out _ _ _ _) Tryz.underlying86 rfl (by kernel_rfl)) rfl ⟨rfl, set4_below HB1.out (Nat.le_refl _) _ _ _ _⟩
end Go.Proofs.YtpikgebfeleajaaGreatDoor.I

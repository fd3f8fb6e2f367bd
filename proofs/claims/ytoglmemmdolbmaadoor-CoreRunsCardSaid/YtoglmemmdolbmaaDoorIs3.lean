/-
  Walks over package isa: jumps, name. No condition.
-/
import Derived.Lib.EndianBits
import Derived.Test.YtoglmemmdolbmaaDoorIs1
import Derived.Laws.RangeAny
namespace Go.Proofs.YtoglmemmdolbmaaDoor.I
section
open Go.RowKit
set_option linter.unusedVariables false
set_option linter.unusedSimpArgs false
attribute [local go_sem] Oper.semAt_some

theorem errI_yes {x : Ins} (h : MayI x) : errI x = 0 := if_pos h
theorem errI_no {x : Ins} (h : ¬ MayI x) : errI x = 30 := if_neg h
theorem enc_bits {op a b m : Int} (hs : (0 ≤ op ∧ op < 30) ∧ (0 ≤ a ∧ a ≤ 7) ∧ (0 ≤ b ∧ b ≤ 7) ∧ (-32768 ≤ m ∧ m ≤ 32767)) :
    bits .or .u32 (bits .or .u32 (bits .or .u32 (op % 4294967296 * 16777216 % 4294967296) (a % 4294967296 * 1048576 % 4294967296)) (b % 4294967296 * 65536 % 4294967296)) (IntKind.u16.wrap m % 4294967296) = encI ⟨op, a, b, m⟩ := by
  obtain ⟨⟨h0, h1⟩, ⟨h2, h3⟩, ⟨h4, h5⟩, ⟨h6, h7⟩⟩ := hs
  have e0 : op % 4294967296 * 16777216 % 4294967296 = op * 16777216 := by omega
  have e1 : a % 4294967296 * 1048576 % 4294967296 = a * 1048576 := by omega
  have e2 : b % 4294967296 * 65536 % 4294967296 = b * 65536 := by omega
  have e3 : IntKind.u16.wrap m % 4294967296 = m % 65536 := by show m % 65536 % 4294967296 = _; omega
  rw [e0, e1, e2, e3]
  have p24 : (2 : Int) ^ 24 = 16777216 := by decide
  have p20 : (2 : Int) ^ 20 = 1048576 := by decide
  have p16 : (2 : Int) ^ 16 = 65536 := by decide
  have p32 : (2 : Int) ^ 32 = 4294967296 := by decide
  have J := fun i x y h1 h2 h3 h4 h5 h6 => bits_join .u32 32 (by decide) wraps_u32 i x y h1 h2 h3 h4 h5 h6
  rw [J 24 (op * 16777216) (a * 1048576) (by omega) (by rw [p24]; omega) (by rw [p32]; omega) (by omega) (by rw [p24]; omega) (by rw [p32]; omega)]
  rw [J 20 (op * 16777216 + a * 1048576) (b * 65536) (by omega) (by rw [p20]; omega) (by rw [p32]; omega) (by omega) (by rw [p20]; omega) (by rw [p32]; omega)]
  rw [J 16 (op * 16777216 + a * 1048576 + b * 65536) (m % 65536) (by omega) (by rw [p16]; omega) (by rw [p32]; omega) (by omega) (by rw [p16]; omega) (by rw [p32]; omega)]
  rfl

set_option maxRecDepth 100000 in
set_option maxHeartbeats 4000000 in
theorem encode_any {w : World} (hL : Laid w) (op a b m : Int) : Calls Tryd.prog 50 #[.agg #[.int .i64 op, .int .i64 a, .int .i64 b, .int .i64 m]] w fun e w' => e = .returned (.tuple #[.int .u32 (encW ⟨op, a, b, m⟩), .int .i64 (errI ⟨op, a, b, m⟩)]) ∧ Below w.heap.size w w' := by
  have hb0 := (Below.refl w.heap.size w).alloc (Nat.le_refl _) (.cells #[.int .i64 op, .int .i64 a, .int .i64 b, .int .i64 m] 38)
  have hx0 := Blk.new w 38 #[.int .i64 op, .int .i64 a, .int .i64 b, .int .i64 m]
  have H := Lib.hid (check_any (hL.below hb0) op a b m)
  obtain ⟨c0, c1, c2, c3, clt⟩ := ccells hx0
  clear hL
  by_cases hm : MayI ⟨op, a, b, m⟩
  · rw [errI_yes hm] at H ⊢
    have hs := may_small hm
    have he : encW ⟨op, a, b, m⟩ = encI ⟨op, a, b, m⟩ := if_pos hm
    rw [he]
    have HS := Lib.hid hs
    clear hm he hs
    go_enter Tryd.func50, Tryd.ntmps50
    go_wp2_with fail
    refine H.out.mono ?_
    rintro e w1 ⟨rfl, hb1⟩
    have hx1 := hx0.below hb1 hx0.lt
    have HB1 := Lib.hid (bl_step hb0 hb1)
    clear c0 c1 c2 c3 clt
    obtain ⟨c0, c1, c2, c3, clt⟩ := ccells hx1
    clear hb0 hx0 hb1 hx1 H
    go_wp2
    go_ret2
    refine ⟨?_, HB1.out⟩
    rw [← enc_bits HS.out]
    rfl
  · rw [errI_no hm] at H ⊢
    have he : encW ⟨op, a, b, m⟩ = 0 := if_neg hm
    rw [he]
    clear hm he
    go_enter Tryd.func50, Tryd.ntmps50
    go_wp2_with fail
    refine H.out.mono ?_
    rintro e w1 ⟨rfl, hb1⟩
    have HB1 := Lib.hid (bl_step hb0 hb1)
    clear c0 c1 c2 c3 clt hb0 hx0 hb1 H
    go_wp2
    go_ret2
    exact ⟨rfl, HB1.out⟩
theorem dec_and (w : Int) (h : RangeW w) : bits .and .u32 (w / 1048576) 15 = w / 1048576 % 16 ∧ bits .and .u32 (w / 65536) 15 = w / 65536 % 16 := by
  unfold RangeW at h
  have p32 : (2 : Int) ^ 32 = 4294967296 := by decide
  have p4 : (2 : Int) ^ 4 = 16 := by decide
  have J := fun x h1 h2 => bits_mask .u32 32 (by decide) wraps_u32 4 (by decide) x h1 h2
  rw [p4] at J
  exact ⟨J _ (by omega) (by rw [p32]; omega), J _ (by omega) (by rw [p32]; omega)⟩
theorem i16_wrap (w : Int) (h : RangeW w) : IntKind.i16.wrap w = if w % 65536 < 32768 then w % 65536 else w % 65536 - 65536 := by
  simp only [IntKind.wrap, IntKind.bits, IntKind.signed]
  simp
  split <;> split <;> omega
/-- What a word is decoded to. -/
def decO (w : Int) : Ins := if MayI (decI w) then decI w else x0
theorem decO_yes {w : Int} (h : MayI (decI w)) : decO w = decI w := if_pos h
theorem decO_no {w : Int} (h : ¬ MayI (decI w)) : decO w = x0 := if_neg h
set_option maxRecDepth 100000 in
set_option maxHeartbeats 4000000 in
theorem decode_any {w : World} (hL : Laid w) (n : Int) (hn : RangeW n) : Calls Tryd.prog 52 #[.int .u32 n] w fun e w' => e = .returned (.tuple #[.agg (decO n).cells.toArray, .int .i64 (errI (decI n))]) ∧ Below w.heap.size w w' := by
  have hd := dec_and n hn
  obtain ⟨im, him⟩ : ∃ im, IntKind.i16.wrap n = im := ⟨_, rfl⟩
  have hde : decI n = ⟨n / 16777216, n / 1048576 % 16, n / 65536 % 16, im⟩ := by rw [← him, i16_wrap n hn]; rfl
  have hw64 : wrap64 im = im := by
    have h := i16_wrap n hn
    rw [him] at h
    have : -32768 ≤ im ∧ im ≤ 32767 := by split at h <;> omega
    simp only [wrap64]; omega
  have hb0 := bl_new ((Below.refl w.heap.size w).alloc (Nat.le_refl _) (.cells #[.int .i64 0, .int .i64 0, .int .i64 0, .int .i64 0] 38)) (.cells #[.int .i64 (n / 16777216), .int .i64 (n / 1048576 % 16), .int .i64 (n / 65536 % 16), .int .i64 im] 38)
  have hr0 := (Blk.new w 38 #[.int .i64 0, .int .i64 0, .int .i64 0, .int .i64 0]).alloc (.cells #[.int .i64 (n / 16777216), .int .i64 (n / 1048576 % 16), .int .i64 (n / 65536 % 16), .int .i64 im] 38)
  have hx0 := Blk.new (w.alloc (.cells #[.int .i64 0, .int .i64 0, .int .i64 0, .int .i64 0] 38)) 38 #[.int .i64 (n / 16777216), .int .i64 (n / 1048576 % 16), .int .i64 (n / 65536 % 16), .int .i64 im]
  simp only [World.size_alloc] at hx0
  have H := Lib.hid (check_any (hL.below hb0) (n / 16777216) (n / 1048576 % 16) (n / 65536 % 16) im)
  have hm : (MayI ⟨n / 16777216, n / 1048576 % 16, n / 65536 % 16, im⟩ ∧ decO n = ⟨n / 16777216, n / 1048576 % 16, n / 65536 % 16, im⟩ ∧ errI ⟨n / 16777216, n / 1048576 % 16, n / 65536 % 16, im⟩ = 0) ∨ (decO n = x0 ∧ errI ⟨n / 16777216, n / 1048576 % 16, n / 65536 % 16, im⟩ = 30) := by
    unfold decO
    rw [hde]
    by_cases h : MayI ⟨n / 16777216, n / 1048576 % 16, n / 65536 % 16, im⟩
    · rw [if_pos h]; exact .inl ⟨h, rfl, errI_yes h⟩
    · rw [if_neg h]; exact .inr ⟨rfl, errI_no h⟩
  rw [hde]
  unfold RangeW at hn
  clear hL hde
  rcases hm with ⟨_, hdo, her⟩ | ⟨hdo, her⟩
  · rw [her] at H
    rw [hdo, her]
    clear her hdo
    go_enter Tryd.func52, Tryd.ntmps52
    go_wp2_with fail
    refine H.out.mono ?_
    rintro e w1 ⟨rfl, hb1⟩
    have hr1 := hr0.below hb1 hr0.lt
    have hx1 := hx0.below hb1 hx0.lt
    have hB1 := bl_step hb0 hb1
    have hlt := hr1.lt
    have f0 := hr1.frozen 0
    have f1 := hr1.frozen 1
    have f2 := hr1.frozen 2
    have f3 := hr1.frozen 3
    obtain ⟨c0, c1, c2, c3, clt⟩ := ccells hx1
    obtain ⟨d0, d1, d2, d3, dlt⟩ := ccells hr1
    have HR1 := Lib.hid hr1
    have HB1 := Lib.hid hB1
    clear hb0 hx0 hb1 hx1 H hr1 hr0 hB1 him
    go_wp2
    exact bodyPost_ret (results_row_tmp Tryd.results52 _ rfl (set4_blk HR1.out _ _ _ _) Tryd.underlying38 rfl (by kernel_rfl)) rfl ⟨rfl, set4_below HB1.out (Nat.le_refl _) _ _ _ _⟩
  · rw [her] at H
    rw [hdo, her]
    clear her hdo
    go_enter Tryd.func52, Tryd.ntmps52
    go_wp2_with fail
    refine H.out.mono ?_
    rintro e w1 ⟨rfl, hb1⟩
    have hr1 := hr0.below hb1 hr0.lt
    have hB1 := bl_step hb0 hb1
    have hlt := hr1.lt
    have f0 := hr1.frozen 0
    have f1 := hr1.frozen 1
    have f2 := hr1.frozen 2
    have f3 := hr1.frozen 3
    obtain ⟨d0, d1, d2, d3, dlt⟩ := ccells hr1
    have HR1 := Lib.hid hr1
    have HB1 := Lib.hid hB1
    clear hb0 hx0 hb1 H hr1 hr0 hB1 him
    go_wp2
    exact bodyPost_ret (results_row_tmp Tryd.results52 _ rfl (set4_blk HR1.out _ _ _ _) Tryd.underlying38 rfl (by kernel_rfl)) rfl ⟨rfl, set4_below HB1.out (Nat.le_refl _) _ _ _ _⟩
end
end Go.Proofs.YtoglmemmdolbmaaDoor.I
namespace Go.Proofs.YtoglmemmdolbmaaDoor.I
section
open Go.RowKit
set_option linter.unusedVariables false
set_option linter.unusedSimpArgs false
attribute [local go_sem] Oper.semAt_some

theorem jumps_any (w : World) (n : Int) : Calls Tryd.prog 85 #[.int .i64 n] w fun e w' => e = .returned (.bool (jmpB n)) ∧ w' = w := by
  rcases (show n < 19 ∨ (19 ≤ n ∧ n ≤ 22) ∨ (19 ≤ n ∧ 22 < n) by omega) with h | ⟨h1, h2⟩ | ⟨h1, h2⟩
  · have hb : jmpB n = false := decide_eq_false (by omega)
    rw [hb]
    clear hb
    go_enter Tryd.func85, Tryd.ntmps85
    go_wp2
    go_ret
    exact ⟨rfl, rfl⟩
  · have hb : jmpB n = true := decide_eq_true ⟨h1, h2⟩
    rw [hb]
    clear hb
    go_enter Tryd.func85, Tryd.ntmps85
    go_wp2
    go_ret
    exact ⟨rfl, rfl⟩
  · have hb : jmpB n = false := decide_eq_false (by omega)
    have hd : decide (n ≤ 22) = false := decide_eq_false (by omega)
    rw [hb]
    clear hb h2
    go_enter Tryd.func85, Tryd.ntmps85
    go_wp2
    go_ret
    exact ⟨rfl, rfl⟩

theorem drop_at (s : ByteArray) {pos : Nat} (h : pos < s.size) : s.data.toList.drop pos = (s[pos]'h) :: s.data.toList.drop (pos + 1) := by
  rw [List.drop_eq_getElem_cons (by rw [Array.length_toList]; exact h)]
  rfl
theorem nmAll_step (s : ByteArray) {pos : Nat} (h : pos < s.size) : nmAll pos (s.data.toList.drop pos) = (nmC pos (s[pos]'h) && nmAll (pos + 1) (s.data.toList.drop (pos + 1))) := by
  rw [drop_at s h]
  rfl
theorem nmC_no {i : Nat} {c : UInt8} (h : c.toNat < 48 ∨ (57 < c.toNat ∧ c.toNat < 97) ∨ 122 < c.toNat ∨ (c.toNat < 97 ∧ i = 0)) : nmC i c = false := by
  rw [Bool.eq_false_iff]
  intro h2
  unfold nmC at h2
  simp only [Bool.or_eq_true, Bool.and_eq_true, decide_eq_true_eq] at h2
  omega
theorem nmC_yes {i : Nat} {c : UInt8} (h : (97 ≤ c.toNat ∧ c.toNat ≤ 122) ∨ (48 ≤ c.toNat ∧ c.toNat ≤ 57 ∧ 0 < i)) : nmC i c = true := by
  unfold nmC
  simp only [Bool.or_eq_true, Bool.and_eq_true, decide_eq_true_eq]
  omega
/-- The rune at a place, beside the byte. -/
theorem rune_at (s : ByteArray) {pos : Nat} (h : pos < s.size) : ((Utf8.decode s pos).1 = (s[pos]'h).toNat ∧ (Utf8.decode s pos).2 = 1) ∨ (122 < (Utf8.decode s pos).1 ∧ 122 < (s[pos]'h).toNat) := by
  by_cases ha : (s[pos]'h).toNat < 128
  · left
    rw [decode_ascii s pos h ha]
    exact ⟨rfl, rfl⟩
  · right
    have := (decode_high s pos h (by omega)).1
    exact ⟨by omega, by omega⟩
theorem below_iter (w : World) (s : ByteArray) (p : Nat) : Below w.heap.size w (w.iter s p) := (Below.refl _ _).alloc (Nat.le_refl _) _

set_option maxRecDepth 100000 in
set_option maxHeartbeats 4000000 in
theorem nameW_any (w : World) (s : ByteArray) : Calls Tryd.prog 67 #[.string s] w fun e w' => e = .returned (.bool (nameB s.data.toList)) ∧ Below w.heap.size w w' := by
  have HB := Lib.hid (show nameB s.data.toList = (nmAll 0 (s.data.toList.drop 0) && (decide (1 ≤ s.size) && decide (s.size ≤ 16))) from rfl)
  obtain ⟨q, hq⟩ : ∃ q, nameB s.data.toList = q := ⟨_, rfl⟩
  rw [hq] at HB ⊢
  clear hq
  go_enter Tryd.func67, Tryd.ntmps67
  go_wp2
  go_loopw [3] (fun _ w' => ∃ pos : Nat, w' = w.iter s pos ∧ pos ≤ s.size ∧ nmAll 0 (s.data.toList.drop 0) = nmAll pos (s.data.toList.drop pos)) (fun _ w' => s.size - w'.iterPos w.heap.size)
  case atStart => exact ⟨0, rfl, Nat.zero_le _, rfl⟩
  case round =>
    obtain ⟨pos, rfl, hle, hnm⟩ := hrel
    by_cases hp : pos < s.size
    · have hnx : ∀ ty, (Instr.next (.pointer (some ⟨w.heap.size, 0, none⟩)) true ty).run Tryd.prog (w.iter s pos) = _ := fun ty => run_next_any w s pos ty hp
      have hrn := rune_at s hp
      rw [nmAll_step s hp] at hnm
      have hI := World.iterPos_iter w s pos
      have HNM := Lib.hid hnm
      generalize hr : (Utf8.decode s pos).1 = r at *
      generalize hwd : (Utf8.decode s pos).2 = wd at *
      generalize hcc : s[pos] = c at *
      have hc6 : (nmC pos c = true ∧ r = c.toNat ∧ wd = 1 ∧ 97 ≤ r ∧ r ≤ 122) ∨ (nmC pos c = false ∧ r < 48) ∨ (nmC pos c = true ∧ r = c.toNat ∧ wd = 1 ∧ 48 ≤ r ∧ r ≤ 57 ∧ 0 < pos) ∨ (nmC pos c = false ∧ 48 ≤ r ∧ r ≤ 57 ∧ pos = 0) ∨ (nmC pos c = false ∧ 57 < r ∧ r < 97) ∨ (nmC pos c = false ∧ 122 < r) := by
        rcases hrn with ⟨h1, h2⟩ | ⟨h1, h2⟩
        · rcases (show (97 ≤ r ∧ r ≤ 122) ∨ r < 48 ∨ (48 ≤ r ∧ r ≤ 57 ∧ 0 < pos) ∨ (48 ≤ r ∧ r ≤ 57 ∧ pos = 0) ∨ (57 < r ∧ r < 97) ∨ 122 < r by omega) with h | h | h | h | h | h
          · exact .inl ⟨nmC_yes (.inl (by omega)), h1, h2, h.1, h.2⟩
          · exact .inr (.inl ⟨nmC_no (by omega), h⟩)
          · exact .inr (.inr (.inl ⟨nmC_yes (.inr (by omega)), h1, h2, h.1, h.2.1, h.2.2⟩))
          · exact .inr (.inr (.inr (.inl ⟨nmC_no (by omega), h.1, h.2.1, h.2.2⟩)))
          · exact .inr (.inr (.inr (.inr (.inl ⟨nmC_no (by omega), h.1, h.2⟩))))
          · exact .inr (.inr (.inr (.inr (.inr ⟨nmC_no (by omega), h⟩))))
        · exact .inr (.inr (.inr (.inr (.inr ⟨nmC_no (by omega), h1⟩))))
      clear hrn hnm
      rcases hc6 with ⟨hn, h1, rfl, h3, h4⟩ | ⟨hn, h3⟩ | ⟨hn, h1, rfl, h3, h4, h5⟩ | ⟨hn, h3, h4, rfl⟩ | ⟨hn, h3, h4⟩ | ⟨hn, h3⟩
      case inl =>
        have HN := Lib.hid hn
        have i3 : (97 : Int) ≤ (r : Int) := by omega
        have i4 : (r : Int) ≤ 122 := by omega
        clear hn h1 hr hwd hcc h3 h4
        go_wp2
        go_roundw
        case rel => exact ⟨pos + 1, rfl, by omega, by rw [HNM.out, HN.out]; rfl⟩
        case measure => simp; omega
      case inr.inr.inl =>
        have HN := Lib.hid hn
        have i3 : (48 : Int) ≤ (r : Int) := by omega
        have i4 : (r : Int) ≤ 57 := by omega
        have i5 : (r : Int) < 97 := by omega
        have i6 : (0 : Int) < (pos : Int) := by omega
        clear hn h1 hr hwd hcc h3 h4
        go_wp2
        go_roundw
        case rel => exact ⟨pos + 1, rfl, by omega, by rw [HNM.out, HN.out]; rfl⟩
        case measure => simp; omega
      all_goals
        obtain rfl : q = false := by rw [HB.out, HNM.out, hn]; rfl
        clear HB HNM hn hr hwd hcc
      case inr.inl =>
        have i3 : (r : Int) < 48 := by omega
        have i5 : (r : Int) < 97 := by omega
        clear h3
        go_wp2
        go_ret
        exact ⟨rfl, below_iter _ _ _⟩
      case inr.inr.inr.inl =>
        have i3 : (48 : Int) ≤ (r : Int) := by omega
        have i4 : (r : Int) ≤ 57 := by omega
        have i5 : (r : Int) < 97 := by omega
        clear h3 h4
        go_wp2
        go_ret
        exact ⟨rfl, below_iter _ _ _⟩
      case inr.inr.inr.inr.inl =>
        have i3 : (48 : Int) ≤ (r : Int) := by omega
        have i4 : decide ((r : Int) ≤ 57) = false := decide_eq_false (by omega)
        have i5 : (r : Int) < 97 := by omega
        clear h3 h4
        go_wp2
        go_ret
        exact ⟨rfl, below_iter _ _ _⟩
      case inr.inr.inr.inr.inr =>
        have i3 : (48 : Int) ≤ (r : Int) := by omega
        have i4 : decide ((r : Int) ≤ 57) = false := decide_eq_false (by omega)
        have i5 : (97 : Int) ≤ (r : Int) := by omega
        have i6 : decide ((r : Int) ≤ 122) = false := decide_eq_false (by omega)
        clear h3
        go_wp2
        go_ret
        exact ⟨rfl, below_iter _ _ _⟩
    · obtain rfl : pos = s.size := by omega
      have hnx : ∀ ty, (Instr.next (.pointer (some ⟨w.heap.size, 0, none⟩)) true ty).run Tryd.prog (w.iter s s.size) = _ := fun ty => run_next_end w s s.size ty hp
      have hlast : nmAll s.size (s.data.toList.drop s.size) = true := by
        rw [List.drop_eq_nil_of_le (by rw [Array.length_toList]; exact Nat.le_refl _)]
        rfl
      rw [hlast] at hnm
      have hq := HB.out
      rw [hnm, Bool.true_and] at hq
      clear HB hnm hlast hle hp
      by_cases h1 : 1 ≤ s.size
      · rw [decide_eq_true h1, Bool.true_and] at hq
        have i1 : (1 : Int) ≤ (s.size : Int) := by omega
        have i2 : decide ((s.size : Int) ≤ 16) = q := by rw [hq]; by_cases h : s.size ≤ 16 <;> simp [h] <;> omega
        clear hq h1
        go_wp2
        go_ret
        exact ⟨by first | rfl | rw [← i2]; rfl | simp [i2], below_iter _ _ _⟩
      · rw [decide_eq_false h1, Bool.false_and] at hq
        subst hq
        have i1 : (s.size : Int) < 1 := by omega
        clear h1
        go_wp2
        go_ret
        exact ⟨rfl, below_iter _ _ _⟩
end
end Go.Proofs.YtoglmemmdolbmaaDoor.I

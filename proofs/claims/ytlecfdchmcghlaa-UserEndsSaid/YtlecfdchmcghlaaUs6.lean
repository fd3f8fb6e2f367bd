/-
  The law UserEnds, walked. Condition: none.
-/
import Derived.Test.YtlecfdchmcghlaaUs4
import Derived.Test.YtlecfdchmcghlaaUs5
namespace Go.Proofs.Ytlecfdchmcghlaa
open Go.RowKit Go.Shelf
set_option linter.unusedVariables false
set_option linter.unusedSimpArgs false
attribute [local go_sem] Oper.semAt_some

set_option maxRecDepth 100000 in
set_option maxHeartbeats 4000000 in
theorem endsWalk {w : World} (s : ByteArray) (a pages : Int) (ha : 0 ≤ a ∧ a ≤ 65535) (hp : 0 ≤ pages ∧ pages ≤ 65535) :
    Calls Try.prog 3 #[.string s, .int .u16 a, .int .u16 pages] w fun e w' => e = .returned (.bool true) ∧ Below w.heap.size w w' := by
  obtain ⟨A, hA⟩ : ∃ A : Nat, a % 1100 = (A : Int) := ⟨(a % 1100).toNat, by omega⟩
  have hA1 : A < 1100 := by omega
  go_enter Try.func3, Try.ntmps3
  go_wp2_with (fail)
  refine alive_any.mono ?_
  rintro e W1 ⟨rfl, hb1⟩
  have HB1 := Lib.hid hb1
  clear hb1
  by_cases hlong : 255 < s.size
  · have hli : (255 : Int) < (s.size : Int) := by omega
    go_wp2
    go_ret
    exact ⟨rfl, HB1.out⟩
  have hli : ¬ (255 : Int) < (s.size : Int) := by omega
  go_wp2_with (fail)
  refine (mapped_any HB1.out pages hp).mono ?_
  rintro e W2 ⟨fb, so, F, m, rfl, h2⟩
  have H2 := Lib.hid h2
  clear h2
  go_wp2_with (fail)
  refine (putText_any H2.out A (by omega) s).mono ?_
  rintro e W3 ⟨rfl, h3⟩
  have H3 := Lib.hid h3
  clear h3
  by_cases h0 : (putA F m A s).1 = 0
  case neg =>
    generalize (putA F m A s).1 = code at *
    have HL := Lib.hid H3.out.lo
    go_wp2
    go_ret
    exact ⟨rfl, HL.out⟩
  have HT := Lib.hid (fun k hk n => text_put (k := k) H2.out.ok H2.out.gi.fok h0 hk (by omega) n)
  rw [h0]
  obtain ⟨lb, cap, bt, q, hfs⟩ := H3.out.fs
  have HFS := Lib.hid hfs
  have HOK := Lib.hid H3.out.ok
  have HLO := Lib.hid H3.out.lo
  clear hfs h0 H3
  generalize (putA F m A s).2.1 = F' at *
  generalize (putA F m A s).2.2 = m' at *
  go_wp2_with (fail)
  go_loopw [10, 11, 12, 13, 14, 15, 16, 17, 18] (fun i _ _ _ _ _ _ _ _ wr => ∃ k : Nat, i = .int .i64 (k : Int) ∧ k ≤ s.size + 1 ∧ Hid (Below W3.heap.size W3 wr)) (fun i _ _ _ _ _ _ _ _ _ => s.size + 1 - (intOf i).toNat)
  case atStart => exact ⟨0, rfl, Nat.zero_le _, Lib.hid (Below.refl _ _)⟩
  case round =>
    obtain ⟨k, rfl, hk, HB⟩ := hrel
    by_cases hks : k ≤ s.size
    · have hki : (k : Int) ≤ (s.size : Int) := by omega
      obtain ⟨n, hn⟩ : ∃ n : Nat, (s.size : Int) - (k : Int) = (n : Int) := ⟨s.size - k, by omega⟩
      have hnn : s.size - k = n := by omega
      have ht1 : textP F' m' (A + k) (n + 1) = ((bI s).drop k, 0) := by
        have := HT.out k hks 1
        rwa [hnn, if_neg (by decide)] at this
      have ht2 : textP F' m' (A + k) 4096 = ((bI s).drop k, 0) := by
        have := HT.out k hks (4096 - n)
        rwa [hnn, if_neg (by omega), show n + (4096 - n) = 4096 by omega] at this
      have ht3 : textP F' m' (A + k) n = ([], 22) := by
        have := HT.out k hks 0
        rwa [hnn, Nat.add_zero, if_pos rfl] at this
      have HC1 := Lib.hid (fun W (hb : Below W3.heap.size W3 W) => (text_any (HFS.out.below hb) HOK.out (A + k) (n + 1) (by omega) (by omega)).mono (fun e w' (h : _ ∧ _) => (show e = .returned (.tuple #[.string (s.extract k s.size), .int .i64 0]) ∧ Below W.heap.size W w' from by rw [ht1] at h; simp only [strI_drop] at h; exact h)))
      have HC2 := Lib.hid (fun W (hb : Below W3.heap.size W3 W) => (text_any (HFS.out.below hb) HOK.out (A + k) 4096 (by omega) (by omega)).mono (fun e w' (h : _ ∧ _) => (show e = .returned (.tuple #[.string (s.extract k s.size), .int .i64 0]) ∧ Below W.heap.size W w' from by rw [ht2] at h; simp only [strI_drop] at h; exact h)))
      have HC3 := Lib.hid (fun W (hb : Below W3.heap.size W3 W) => (show Calls Try.prog 9 #[.pointer (some ⟨so, 0, none⟩), .int .u32 ((A + k : Nat) : Int), .int .i64 (n : Int)] W fun e w' => ∃ t, e = .returned (.tuple #[.string t, .int .i64 22]) ∧ Below W.heap.size W w' from by
        by_cases hn1 : n < 1
        · exact (text_bad ((A + k : Nat) : Int) (n : Int) (.inl (by omega)) _).mono (fun e w' ⟨h1, h2⟩ => ⟨_, h1, by rw [h2]; exact Below.refl _ _⟩)
        · exact (text_any (HFS.out.below hb) HOK.out (A + k) n (by omega) (by omega)).mono (fun e w' ⟨h1, h2⟩ => ⟨_, (by rw [ht3] at h1; exact h1), h2⟩)))
      have HN := Lib.hid hnn
      clear ht1 ht2 ht3 hnn
      go_wp2_with (fail)
      refine (HC1.out _ HB.out).mono ?_
      rintro e W4 ⟨rfl, h4⟩
      have H4 := Lib.hid (bl_step HB.out h4)
      clear h4
      go_wp2_with (fail)
      refine (HC2.out _ H4.out).mono ?_
      rintro e W5 ⟨rfl, h5⟩
      have H5 := Lib.hid (bl_step H4.out h5)
      clear h5
      go_wp2_with (fail)
      refine (HC3.out _ H5.out).mono ?_
      rintro e W6 ⟨t, rfl, h6⟩
      have H6 := Lib.hid (bl_step H5.out h6)
      clear h6
      go_wp2
      exact ⟨⟨k + 1, by go_num, by omega, H6⟩, by simp [intOf]; omega⟩
    · have hki : ¬ (k : Int) ≤ (s.size : Int) := by omega
      go_wp2
      go_ret
      exact ⟨rfl, bl_step HLO.out HB.out⟩
end Go.Proofs.Ytlecfdchmcghlaa

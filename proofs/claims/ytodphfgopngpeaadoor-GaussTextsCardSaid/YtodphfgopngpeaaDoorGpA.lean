/-
  The law GaussTexts, walked. Condition: the library's tables and errors lie as its text lays them; words are words.
-/
import Derived.Test.YtodphfgopngpeaaDoorGp9
namespace Go.Proofs.YtodphfgopngpeaaDoor
open Go.RowKit
set_option linter.unusedVariables false
set_option linter.unusedSimpArgs false
theorem flo0 : floatOfInt .f64 0 = 0 := by kernel_rfl
attribute [local irreducible] floatOfInt wz

theorem rparse_yes {w : World} {p q : Int} (hp : InR p) (hq : InR q) (s : ByteArray) (hs : s = ⟨(textG p q).toArray⟩) : Calls Tryd.prog 18 #[.string s] w fun e w' => e = .returned (.tuple #[mk p q, .int .i64 0]) ∧ Below w.heap.size w w' := by
  have ht : ∀ W, Calls Tryd.prog 22 #[mk p q] W fun e w' => e = .returned (.string s) ∧ Below W.heap.size W w' := fun W => by
    have h := rTextMk (w := W) p q
    rw [hp.wz, hq.wz, ← hs] at h
    exact h
  have hl : s.data.toList = textG p q := by rw [hs]
  rw [text_form] at hl
  obtain ⟨p0, p1⟩ := hp
  obtain ⟨q0, q1⟩ := hq
  by_cases hpn : p < 0 <;> by_cases hqn : q < 0
  · obtain ⟨P, rfl⟩ : ∃ P : Nat, p = -(P : Int) := ⟨p.natAbs, by omega⟩
    obtain ⟨Q, rfl⟩ : ∃ Q : Nat, q = -(Q : Int) := ⟨q.natAbs, by omega⟩
    rw [if_pos hpn, if_pos hqn, show (-(P : Int)).natAbs = P by omega, show (-(Q : Int)).natAbs = Q by omega] at hl
    exact rparse_nn P Q (by omega) (by omega) (by omega) (by omega) s (by rw [hl]; simp) ht
  · obtain ⟨P, rfl⟩ : ∃ P : Nat, p = -(P : Int) := ⟨p.natAbs, by omega⟩
    obtain ⟨Q, rfl⟩ : ∃ Q : Nat, q = (Q : Int) := ⟨q.natAbs, by omega⟩
    rw [if_pos hpn, if_neg hqn, show (-(P : Int)).natAbs = P by omega, show ((Q : Int)).natAbs = Q by omega] at hl
    exact rparse_np P Q (by omega) (by omega) (by omega) s (by rw [hl]; simp) ht
  · obtain ⟨P, rfl⟩ : ∃ P : Nat, p = (P : Int) := ⟨p.natAbs, by omega⟩
    obtain ⟨Q, rfl⟩ : ∃ Q : Nat, q = -(Q : Int) := ⟨q.natAbs, by omega⟩
    rw [if_neg hpn, if_pos hqn, show ((P : Int)).natAbs = P by omega, show (-(Q : Int)).natAbs = Q by omega] at hl
    exact rparse_pn P Q (by omega) (by omega) (by omega) s (by rw [hl]; simp) ht
  · obtain ⟨P, rfl⟩ : ∃ P : Nat, p = (P : Int) := ⟨p.natAbs, by omega⟩
    obtain ⟨Q, rfl⟩ : ∃ Q : Nat, q = (Q : Int) := ⟨q.natAbs, by omega⟩
    rw [if_neg hpn, if_neg hqn, show ((P : Int)).natAbs = P by omega, show ((Q : Int)).natAbs = Q by omega] at hl
    exact rparse_pp P Q (by omega) (by omega) s (by rw [hl]; simp) ht
/-- Both readings tell the same of any text. -/
theorem parse_both (s : ByteArray) (hs : s.size ≤ 1000000) : ∃ (z : Value) (er : Int), (∀ W, GGr W → Calls Tryd.prog 17 #[.string s] W fun e w' => e = .returned (.tuple #[z, .int .i64 er]) ∧ Below W.heap.size W w') ∧
    (∀ W, Calls Tryd.prog 18 #[.string s] W fun e w' => e = .returned (.tuple #[z, .int .i64 er]) ∧ Below W.heap.size W w') ∧ ∃ p q, z = mk p q := by
  by_cases h : ∃ p q, InR p ∧ InR q ∧ s.data.toList = textG p q
  · obtain ⟨p, q, hp, hq, he⟩ := h
    have hse : s = ⟨(textG p q).toArray⟩ := ByteArray.ext (by rw [← he])
    exact ⟨_, _, fun W hW => parse_yes hW hp hq s hse, fun W => rparse_yes hp hq s hse, p, q, rfl⟩
  · have hn : ∀ p q, InR p → InR q → s.data.toList ≠ textG p q := fun p q hp hq he => h ⟨p, q, hp, hq, he⟩
    refine ⟨_, _, fun W hW => parse_no hW s hs hn, fun W => rparse_no s hs hn, 0, 0, ?_⟩
    have h0 : wz 0 = 0 := wz_small (by decide) (by decide)
    unfold mk
    rw [h0, flo0]

set_option maxRecDepth 100000 in
set_option maxHeartbeats 8000000 in
theorem textsLaw_any {w : World} (hG : GGr w) (a b : Nat) (x y : Int) (hx : 0 ≤ x ∧ x ≤ 4294967295) (hy : 0 ≤ y ∧ y ≤ 4294967295) (s : ByteArray) (hmax : s.size ≤ 9223372036854775807) :
    Calls Tryd.prog 5 #[.float .f64 a, .float .f64 b, .int .u32 x, .int .u32 y, .string s] w fun e w' => e = .returned (.bool true) ∧ Below w.heap.size w w' := by
  by_cases hs : s.size ≤ 60
  · obtain ⟨z, er, hp1, hp2, zp, zq, hz⟩ := parse_both s (by omega)
    have HP1 := Lib.hid hp1
    have HP2 := Lib.hid hp2
    have HW1 := Lib.hid (fun W => gWords_any (w := W) a b)
    have HW2 := Lib.hid (fun W => rWords_any (w := W) a b)
    have HF1 := Lib.hid (fun W => gFromWords_any (w := W) x y hx hy)
    have HF2 := Lib.hid (fun W => rFromWords_any (w := W) x y hx hy)
    have HT1 := Lib.hid (fun W (hW : Pow W) => gText_any hW a b)
    have HT2 := Lib.hid (fun W => rText_any (w := W) a b)
    have k1 := fun w : World => mk_eql (wrap32 x) (wrap32 y) w
    have g1 := fun (u v : Operand) (w : World) => mk_guard (wrap32 x) (wrap32 y) u v w
    have k2 := fun w : World => mk_eql zp zq w
    have g2 := fun (u v : Operand) (w : World) => mk_guard zp zq u v w
    rw [← hz] at k2 g2
    have HG := Lib.hid hG
    have hsi : (s.size : Int) ≤ 60 := by omega
    clear hp1 hp2 hz hx hy hG hmax hs
    obtain ⟨T, hT⟩ : ∃ T : ByteArray, ⟨(txtG a b).toArray⟩ = T := ⟨_, rfl⟩
    rw [hT] at HT1 HT2
    have hst := seq_true (rfl : T = T)
    clear hT
    generalize mk (wrap32 x) (wrap32 y) = u at *
    generalize re a b % 4294967296 = A at *
    generalize im a b % 4294967296 = B at *
    go_enter Tryd.func5, Tryd.ntmps5
    go_wp2_with fail
    refine (HW1.out _).mono ?_
    rintro e w1 ⟨rfl, hb⟩
    have HB1 := Lib.hid hb
    clear hb
    go_wp2_with fail
    refine (HW2.out _).mono ?_
    rintro e _ ⟨rfl, rfl⟩
    go_wp2_with fail
    refine (HP1.out _ (HG.out.below HB1.out)).mono ?_
    rintro e w2 ⟨rfl, hb⟩
    have HB2 := Lib.hid (HB1.out.trans (hb.mono HB1.out.size))
    clear hb
    go_wp2_with fail
    refine (HP2.out _).mono ?_
    rintro e w3 ⟨rfl, hb⟩
    have HB3 := Lib.hid (HB2.out.trans (hb.mono HB2.out.size))
    clear hb
    go_wp2_with fail
    refine (HF1.out _).mono ?_
    rintro e _ ⟨rfl, rfl⟩
    go_wp2_with fail
    refine (HF2.out _).mono ?_
    rintro e _ ⟨rfl, rfl⟩
    go_wp2_with fail
    refine (HT1.out _ (HG.out.p.below HB3.out)).mono ?_
    rintro e w4 ⟨rfl, hb⟩
    have HB4 := Lib.hid (HB3.out.trans (hb.mono HB3.out.size))
    clear hb
    go_wp2_with fail
    refine (HT2.out _).mono ?_
    rintro e w5 ⟨rfl, hb⟩
    have HB5 := Lib.hid (HB4.out.trans (hb.mono HB4.out.size))
    clear hb
    go_wp2
    go_ret
    exact ⟨rfl, HB5.out⟩
  · have hsi : (60 : Int) < (s.size : Int) := by omega
    clear hs
    go_enter Tryd.func5, Tryd.ntmps5
    go_wp2
    go_ret
    exact ⟨rfl, Below.refl _ _⟩
end Go.Proofs.YtodphfgopngpeaaDoor

/-
  The document's text of a number, walked. No condition.
-/
import Derived.Test.YtodphfgopngpeaaDoorGtD
import Derived.Test.YtodphfgopngpeaaDoorGp4
namespace Go.Proofs.YtodphfgopngpeaaDoor
open Go.RowKit
set_option linter.unusedVariables false
set_option linter.unusedSimpArgs false
attribute [local irreducible] floatOfInt wz

theorem itoa_neg {p : Int} (h : p < 0) : Lib.itoa p = 45 :: Lib.decDigits p.natAbs := by unfold Lib.itoa; rw [if_pos h]
theorem itoa_nat {p : Int} (h : ¬ p < 0) : Lib.itoa p = Lib.decDigits p.natAbs := by unfold Lib.itoa; rw [if_neg h, show p.toNat = p.natAbs by omega]
theorem text_form (p q : Int) : textG p q = (if p < 0 then [45] else []) ++ Lib.decDigits p.natAbs ++ (if q < 0 then [45] else [43]) ++ Lib.decDigits q.natAbs ++ [105] := by
  unfold textG signG
  by_cases hp : p < 0 <;> by_cases hq : q < 0
  all_goals simp only [hp, hq, if_true, if_false, itoa_neg, itoa_nat, not_false_eq_true]
  all_goals simp
set_option maxRecDepth 100000 in
set_option maxHeartbeats 4000000 in
theorem rText_any {w : World} (a b : Nat) : Calls Tryd.prog 22 #[.complex .f64 a b] w fun e w' => e = .returned (.string ⟨(txtG a b).toArray⟩) ∧ Below w.heap.size w w' := by
  have HQ := Lib.hid (fun W => rParts_any (w := W) a b)
  have hr := re_range a b
  unfold txtG
  cases h : isP a b with
  | false =>
    rw [h] at HQ
    clear h hr
    rw [if_neg (by decide)]
    generalize re a b = p at *
    generalize im a b = q at *
    go_enter Tryd.func22, Tryd.ntmps22
    go_wp2_with fail
    refine (HQ.out _).mono ?_
    rintro e _ ⟨rfl, rfl⟩
    go_wp2
    go_ret
    exact ⟨rfl, Below.refl _ _⟩
  | true =>
    rw [h] at HQ
    rw [if_pos rfl]
    clear h
    generalize re a b = p at *
    generalize im a b = q at *
    obtain ⟨S1, hS1⟩ : ∃ S1 : ByteArray, ⟨(Lib.decDigits p.natAbs).toArray⟩ = S1 := ⟨_, rfl⟩
    obtain ⟨S2, hS2⟩ : ∃ S2 : ByteArray, ⟨(Lib.decDigits q.natAbs).toArray⟩ = S2 := ⟨_, rfl⟩
    have hl1 : (Lib.decDigits p.natAbs).length ≤ 20 := dec_len (by omega)
    have hl2 : (Lib.decDigits q.natAbs).length ≤ 20 := dec_len (by omega)
    have z1 : S1.size ≤ 20 := by rw [← hS1, size_of]; exact hl1
    have z2 : S2.size ≤ 20 := by rw [← hS2, size_of]; exact hl2
    have H1 := Lib.hid (fun (W : World) (x : Int) (hx : x = (p.natAbs : Int)) => show Calls Tryd.prog 34 #[.int .i64 x] W fun e w' => e = .returned (.string S1) ∧ Below W.heap.size W w' from by
      have h := refDig_nat (w := W) p.natAbs (by omega)
      rw [hS1, ← hx] at h
      exact h)
    have H2 := Lib.hid (fun (W : World) (x : Int) (hx : x = (q.natAbs : Int)) => show Calls Tryd.prog 34 #[.int .i64 x] W fun e w' => e = .returned (.string S2) ∧ Below W.heap.size W w' from by
      have h := refDig_nat (w := W) q.natAbs (by omega)
      rw [hS2, ← hx] at h
      exact h)
    have HE := Lib.hid (show ∀ (b1 b2 : ByteArray), b1.data.toList = (if p < 0 then [45] else []) → b2.data.toList = (if q < 0 then [45] else [43]) → ((((b1 ++ S1) ++ b2) ++ S2) ++ ⟨#[105]⟩ : ByteArray) = ⟨(textG p q).toArray⟩ from fun b1 b2 h1 h2 => by
      rw [text_form, ← h1, ← h2, ← hS1, ← hS2]
      rw [← join3, ← join3, ← join3, ← join3])
    obtain ⟨⟨p0, p1⟩, q0, q1⟩ := hr
    clear hS1 hS2 hl1 hl2
    by_cases hp : p < 0 <;> by_cases hq : q < 0
    all_goals
      go_enter Tryd.func22, Tryd.ntmps22
      go_wp2_with fail
      refine (HQ.out _).mono ?_
      rintro e _ ⟨rfl, rfl⟩
      go_wp2_with fail
      refine (H1.out _ _ (by omega)).mono ?_
      rintro e w1 ⟨rfl, hb1⟩
      have HB1 := Lib.hid hb1
      clear hb1
      go_wp2_with fail
      refine (H2.out _ _ (by omega)).mono ?_
      rintro e w2 ⟨rfl, hb2⟩
      have HB2 := Lib.hid (HB1.out.trans (hb2.mono HB1.out.size))
      have HP := Lib.hid hp
      have HQ0 := Lib.hid hq
      clear hb2
      go_wp2
      go_ret
      exact ⟨ret_str (HE.out _ _ (by split <;> first | rfl | (exfalso; have := HP.out; omega)) (by split <;> first | rfl | (exfalso; have := HQ0.out; omega))), HB2.out⟩
end Go.Proofs.YtodphfgopngpeaaDoor

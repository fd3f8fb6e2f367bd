/-
  The document's step is stepP. Condition: the bytes lie in a block, registers are words.
-/
import Derived.Test.YtoglmemmdolbmaaDoorCr7
import Derived.Test.YtoglmemmdolbmaaDoorCr8
import Derived.Test.YtoglmemmdolbmaaDoorCr9
import Derived.Test.YtoglmemmdolbmaaDoorCo8
namespace Go.Proofs.YtoglmemmdolbmaaDoor
open Go.RowKit
set_option linter.unusedVariables false
set_option linter.unusedSimpArgs false
attribute [local irreducible] floatOfInt wz

theorem count_some {op im a b : Int} (h1 : 1 ≤ op) (h14 : op ≤ 14) : countP op im a b = some ((countP op im a b).getD 0) := by
  rcases (show op = 1 ∨ op = 2 ∨ op = 3 ∨ op = 4 ∨ op = 5 ∨ op = 6 ∨ op = 7 ∨ op = 8 ∨ op = 9 ∨ op = 10 ∨ op = 11 ∨ op = 12 ∨ op = 13 ∨ op = 14 by omega) with rfl | rfl | rfl | rfl | rfl | rfl | rfl | rfl | rfl | rfl | rfl | rfl | rfl | rfl <;> rfl
theorem execP_jump (c : Cp) (m : List Int) (op : Int) (a b : Nat) (im : Int) (h : 19 ≤ op ∧ op ≤ 23) : execP c m op a b im = ((jumpP c op a im).2.setPc (jumpP c op a im).1, 0, m) := by
  unfold execP
  rw [if_neg (by omega), if_neg (by omega), if_neg (by omega), if_neg (by omega), if_neg (by omega), if_pos h]
theorem execP_whole (c : Cp) (m : List Int) (op : Int) (a b : Nat) (im : Int) (h : 25 ≤ op) : execP c m op a b im = ((wholeP c op a b).setPc (nextP c), 0, m) := by
  unfold execP
  rw [if_neg (by omega), if_neg (by omega), if_neg (by omega), if_neg (by omega), if_neg (by omega), if_neg (by omega), if_pos h]
theorem execP_count (c : Cp) (m : List Int) (op : Int) (a b : Nat) (im : Int) (h : op ≤ 14) : execP c m op a b im = (match countP op im (c.r a) (c.r b) with
    | some v => ((c.setR a v).setPc (nextP c), 0, m)
    | none => (c.setPc (nextP c), 0, m)) := by
  unfold execP
  rw [if_neg (by omega), if_neg (by omega), if_neg (by omega), if_neg (by omega), if_neg (by omega), if_neg (by omega), if_neg (by omega)]
  cases countP op im (c.r a) (c.r b) <;> rfl
theorem refStep_any {w : World} {A : Option Addr} {B cap : Nat} {c : Cp} {m : List Int} (hM : ByIn w A B cap m) (hc : c.Ok) :
    Calls Tryd.prog 16 #[.agg c.arr, .slice A m.length cap] w (OutR w A B cap (stepP c m)) := by
  by_cases h4 : c.pc % 4 = 0
  · cases hw : wordM m c.pc.toNat with
    | none =>
      have hf : fetchP c m = (I.x0, 2) := by unfold fetchP; rw [if_pos h4, hw]
      have hs : stepP c m = (c, 2, m) := by
        unfold stepP
        rw [if_pos (by rw [hf]; decide), hf]
      rw [hs]
      exact rs_none hM hc _ rfl (by rw [hw]; rfl) h4
    | some v =>
      have hv : I.RangeW v := wordM_range hM.low hw
      have hwv : (wordM m c.pc.toNat).getD 0 = v := by rw [hw]; rfl
      have hwi : (wordM m c.pc.toNat).isSome = true := by rw [hw]; rfl
      by_cases hm : I.MayI (I.decI v)
      · have hf : fetchP c m = (I.decI v, 0) := by
          unfold fetchP
          rw [if_pos h4, hw]
          exact if_pos hm
        have he : I.errI (I.decI v) = 0 := if_pos hm
        have ho := I.decO_yes hm
        obtain ⟨x, hx⟩ : ∃ x, I.decI v = x := ⟨_, rfl⟩
        have hst : stepP c m = execP c m x.op x.a.toNat x.b.toNat x.imm := by
          unfold stepP
          rw [if_neg (by rw [hf]; exact fun h => h rfl), hf, hx]
        have htc : touchP c m = touchX c x.op x.b.toNat x.imm := by
          unfold touchP
          rw [hf, hx]; rfl
        rw [hx] at ho hm
        have hs := I.may_small hm
        have hwo := fun ho => whole_ok hm ho
        rw [hst]
        clear hst hx hm hf
        obtain ⟨op, xa, b, im⟩ := x
        dsimp only at hs hwo htc ⊢
        obtain ⟨⟨s1, s2⟩, ⟨s3, s4⟩, ⟨s5, s6⟩, s7, s8⟩ := hs
        obtain ⟨xa, rfl⟩ := Int.eq_ofNat_of_zero_le s3
        obtain ⟨b, rfl⟩ := Int.eq_ofNat_of_zero_le s5
        rw [Int.toNat_natCast, Int.toNat_natCast] at *
        have ha : xa < 8 := by omega
        have hb : b < 8 := by omega
        clear s3 s4 s5 s6
        by_cases h24 : op = 24
        · subst h24
          exact rs_sys hM hc v xa b im hwv hwi hv ho he h4 ⟨s7, s8⟩
        by_cases hme : 15 ≤ op ∧ op ≤ 18
        · exact rs_mem hM hc v op xa b im hwv hwi hv ho he h4 ⟨s7, s8⟩ ha hme.1 hme.2 htc _ _ _ rfl
        by_cases hj : 19 ≤ op ∧ op ≤ 23
        · rw [execP_jump c m op xa b im hj]
          unfold jumpP
          rcases (show op = 19 ∨ op = 20 ∨ op = 21 ∨ op = 22 ∨ op = 23 by omega) with rfl | rfl | rfl | rfl | rfl
          · exact rs_jmp hM hc v xa b im hwv hwi hv ho he h4 ⟨s7, s8⟩ _ rfl
          · by_cases hr : c.r xa = 0
            · rw [if_neg (by decide), if_neg (by decide), if_pos (by right; left; exact ⟨rfl, hr⟩)]
              exact rs_jz_go hM hc v xa b im hwv hwi hv ho he h4 ⟨s7, s8⟩ ha hr _ rfl
            · rw [if_neg (by decide), if_neg (by decide), if_neg (by rintro (h | h | h) <;> first | exact absurd h (by decide) | exact hr h.2 | exact absurd h.1 (by decide))]
              exact rs_jz_no hM hc v xa b im hwv hwi hv ho he h4 ⟨s7, s8⟩ ha hr _ rfl
          · by_cases hr : c.r xa = 0
            · rw [if_neg (by decide), if_neg (by decide), if_neg (by rintro (h | h | h) <;> first | exact absurd h (by decide) | exact h.2 hr | exact absurd h.1 (by decide))]
              exact rs_jnz_no hM hc v xa b im hwv hwi hv ho he h4 ⟨s7, s8⟩ ha hr _ rfl
            · rw [if_neg (by decide), if_neg (by decide), if_pos (by right; right; exact ⟨rfl, hr⟩)]
              exact rs_jnz_go hM hc v xa b im hwv hwi hv ho he h4 ⟨s7, s8⟩ ha hr _ rfl
          · rw [if_neg (by decide), if_pos rfl]
            refine rs_jal hM hc v xa b im hwv hwi hv ho he h4 ⟨s7, s8⟩ ha _ _ rfl ?_
            rfl
          · rw [if_pos rfl]
            exact rs_jr hM hc v xa b im hwv hwi hv ho he h4 ⟨s7, s8⟩ ha _ rfl
        by_cases hwh : 25 ≤ op
        · rw [execP_whole c m op xa b im hwh]
          have hW := hwo hwh
          unfold WholeOk at hW
          unfold wholeP
          rcases (show op = 25 ∨ op = 26 ∨ op = 27 ∨ op = 28 ∨ op = 29 by omega) with rfl | rfl | rfl | rfl | rfl
          · rw [if_pos rfl]
            exact rs_zset hM hc v xa b im hwv hwi hv ho he h4 ⟨s7, s8⟩ (by omega) (by omega) _ rfl _ rfl
          · rw [if_neg (by decide), if_pos rfl]
            exact rs_zget hM hc v xa b im hwv hwi hv ho he h4 ⟨s7, s8⟩ (by omega) (by omega) _ _ rfl rfl _ _ rfl rfl
          · rw [if_neg (by decide), if_neg (by decide), if_pos rfl]
            exact rs_zadd hM hc v xa b im hwv hwi hv ho he h4 ⟨s7, s8⟩ (by omega) (by omega) _ rfl _ rfl
          · rw [if_neg (by decide), if_neg (by decide), if_neg (by decide), if_pos rfl]
            exact rs_zmul hM hc v xa b im hwv hwi hv ho he h4 ⟨s7, s8⟩ (by omega) (by omega) _ rfl _ rfl
          · rw [if_neg (by decide), if_neg (by decide), if_neg (by decide), if_neg (by decide)]
            exact rs_zconj hM hc v xa b im hwv hwi hv ho he h4 ⟨s7, s8⟩ (by omega) _ rfl _ rfl
        rw [execP_count c m op xa b im (by omega)]
        by_cases h0 : op = 0
        · subst h0
          exact rs_nop hM hc v xa b im hwv hwi hv ho he h4 ⟨s7, s8⟩ _ rfl
        · rw [count_some (op := op) (by omega) (by omega)]
          exact rs_count hM hc v op xa b im hwv hwi hv ho he h4 ⟨s7, s8⟩ ha hb (by omega) (by omega) _ rfl _ rfl
      · have hf : fetchP c m = (I.x0, 3) := by
          unfold fetchP
          rw [if_pos h4, hw]
          exact if_neg hm
        have hs : stepP c m = (c, 3, m) := by
          unfold stepP
          rw [if_pos (by rw [hf]; decide), hf]
        rw [hs]
        obtain ⟨x, hx⟩ : ∃ x, I.decO v = x := ⟨_, rfl⟩
        obtain ⟨op, xa, b, im⟩ := x
        exact rs_ill hM hc v hwv hwi op xa b im hv hx (if_neg hm) h4
  · have hf : fetchP c m = (I.x0, 2) := by unfold fetchP; rw [if_neg h4]
    have hs : stepP c m = (c, 2, m) := by
      unfold stepP
      rw [if_pos (by rw [hf]; decide), hf]
    rw [hs]
    exact rs_odd hM hc _ _ rfl rfl h4
end Go.Proofs.YtoglmemmdolbmaaDoor

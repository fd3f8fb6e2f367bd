/-
  li and lui make any word. Plain. Condition: parts are parts.
-/
import Derived.Test.YtoglmemmdolbmaaDoorCoU0
import Derived.Test.YtoglmemmdolbmaaDoorIsPa
namespace Go.Proofs.YtoglmemmdolbmaaDoor
open Go.RowKit Go.Shelf
set_option linter.unusedVariables false

theorem may_li {x : Int} (h0 : -32768 ≤ x) (h1 : x ≤ 32767) : I.MayI ⟨1, 5, 0, x⟩ ∧ I.MayI ⟨2, 5, 0, x⟩ :=
  ⟨⟨(show (0 : Int) ≤ 1 ∧ (1 : Int) < 30 by decide), (show (0 : Int) ≤ 5 ∧ (5 : Int) ≤ max (I.fA (I.fR 1)) 0 by decide +kernel), (show (0 : Int) ≤ 0 ∧ (0 : Int) ≤ max (I.fB (I.fR 1)) 0 by decide +kernel), .inr ⟨(show I.fI (I.fR 1) = true by decide +kernel), h0, h1⟩⟩,
   ⟨(show (0 : Int) ≤ 2 ∧ (2 : Int) < 30 by decide), (show (0 : Int) ≤ 5 ∧ (5 : Int) ≤ max (I.fA (I.fR 2)) 0 by decide +kernel), (show (0 : Int) ≤ 0 ∧ (0 : Int) ≤ max (I.fB (I.fR 2)) 0 by decide +kernel), .inr ⟨(show I.fI (I.fR 2) = true by decide +kernel), h0, h1⟩⟩⟩
def li (x : Int) : I.Ins := ⟨1, 5, 0, x⟩
def lui (x : Int) : I.Ins := ⟨2, 5, 0, x⟩
theorem lineW_enc {x : I.Ins} (h : I.MayI x) : I.lineW (I.encI x) = I.lineI x := by
  unfold I.lineW
  rw [I.dec_enc h, if_pos h]
/-- The text of the two lines says the two words. -/
theorem text4 {x y : Int} (hx : -32768 ≤ x ∧ x ≤ 32767) (hy : -32768 ≤ y ∧ y ≤ 32767) : I.asmP (I.lineI (li x) ++ [10] ++ I.lineI (lui y) ++ [10]) = ([I.encI (li x), I.encI (lui y)], 0, 0) := by
  have h1 : I.MayI (li x) := (may_li hx.1 hx.2).1
  have h2 : I.MayI (lui y) := (may_li hy.1 hy.2).2
  have hr : ∀ w ∈ [I.encI (li x), I.encI (lui y)], I.RangeW w := fun w hw => by
    simp only [List.mem_cons, List.not_mem_nil, or_false] at hw
    rcases hw with rfl | rfl
    · exact I.encI_range h1
    · exact I.encI_range h2
  have e := I.asm_list hr (by show 2 ≤ 512; omega)
  have et : I.listP [I.encI (li x), I.encI (lui y)] = I.lineI (li x) ++ [10] ++ I.lineI (lui y) ++ [10] := by
    unfold I.listP
    rw [List.flatMap_cons, List.flatMap_cons, List.flatMap_nil, lineW_enc h1, lineW_enc h2, List.append_nil]
    simp only [List.append_assoc]
  rw [et] at e
  exact e
theorem word_two {p q : Int} (hp : I.RangeW p) (hq : I.RangeW q) : wordM (B.bytesL [p, q]) 0 = some p ∧ wordM (B.bytesL [p, q]) 4 = some q := by
  unfold I.RangeW at hp hq
  have e : B.bytesL [p, q] = [p % 256, p / 256 % 256, p / 65536 % 256, p / 16777216, q % 256, q / 256 % 256, q / 65536 % 256, q / 16777216] := rfl
  rw [e]
  constructor
  · show some (w4 (p % 256) (p / 256 % 256) (p / 65536 % 256) (p / 16777216)) = some p
    unfold w4
    congr 1; omega
  · show some (w4 (q % 256) (q / 256 % 256) (q / 65536 % 256) (q / 16777216)) = some q
    unfold w4
    congr 1; omega
theorem fetch4 {x y : Int} (hx : -32768 ≤ x ∧ x ≤ 32767) (hy : -32768 ≤ y ∧ y ≤ 32767) : fetchAt 0 (B.bytesL [I.encI (li x), I.encI (lui y)]) = (li x, 0) ∧ fetchAt 4 (B.bytesL [I.encI (li x), I.encI (lui y)]) = (lui y, 0) := by
  have h1 : I.MayI (li x) := (may_li hx.1 hx.2).1
  have h2 : I.MayI (lui y) := (may_li hy.1 hy.2).2
  obtain ⟨w1, w2⟩ := word_two (I.encI_range h1) (I.encI_range h2)
  constructor
  · unfold fetchAt
    rw [if_pos (by decide), show (0 : Int).toNat = 0 from rfl, w1]
    dsimp only
    rw [I.dec_enc h1, if_pos h1]
  · unfold fetchAt
    rw [if_pos (by decide), show (4 : Int).toNat = 4 from rfl, w2]
    dsimp only
    rw [I.dec_enc h2, if_pos h2]
theorem sum4 {a b x y : Int} (ha : 0 ≤ a ∧ a ≤ 4294967295) (hx : -32768 ≤ x ∧ x ≤ 32767) (hy : -32768 ≤ y ∧ y ≤ 32767) (ex : x % 65536 = a % 65536) (ey : y % 65536 = a / 65536) :
    ∃ c, runP (cpuAB a b) (B.bytesL [I.encI (li x), I.encI (lui y)]) 2 = (c, 2, 0, B.bytesL [I.encI (li x), I.encI (lui y)]) ∧ c.r 5 = a := by
  obtain ⟨f1, f2⟩ := fetch4 hx hy
  have e1 := step_rr (c := cpuAB a b) rfl f1 (by decide) (v := x % 4294967296) rfl
  obtain ⟨c1, h1⟩ : ∃ c1, c1 = ((cpuAB a b).setR (5 : Int).toNat (x % 4294967296)).setPc (nextP (cpuAB a b)) := ⟨_, rfl⟩
  rw [← h1] at e1
  have k1 : c1.r 5 = x % 4294967296 := by rw [h1]; rfl
  have q1 : c1.pc = 4 := by rw [h1]; rfl
  have e2 := step_rr (c := c1) q1 f2 (by decide) (v := y % 65536 * 65536 + (x % 4294967296) % 65536) (by rw [show c1.r ((5 : Int).toNat) = x % 4294967296 from k1]; rfl)
  obtain ⟨c2, h2⟩ : ∃ c2, c2 = (c1.setR (5 : Int).toNat (y % 65536 * 65536 + (x % 4294967296) % 65536)).setPc (nextP c1) := ⟨_, rfl⟩
  rw [← h2] at e2
  have k2 : c2.r 5 = y % 65536 * 65536 + (x % 4294967296) % 65536 := by rw [h2]; rfl
  refine ⟨c2, by rw [run_go 1 e1, run_go 0 e2]; rfl, ?_⟩
  rw [k2]
  omega
end Go.Proofs.YtoglmemmdolbmaaDoor

/-
  CallRegs, walked: registers that say a call are read as it. Condition: the tables lie as the program's text, and the library's, lay them.
-/
import Derived.Test.YthmjddnccgiinaaDoorCaA
namespace Go.Proofs.YthmjddnccgiinaaDoor
open Go.RowKit
set_option linter.unusedVariables false
set_option linter.unusedSimpArgs false

theorem fail_law {v : Int} (h0 : 0 ≤ v) (h1 : v ≤ 4294967295) (h : failOf v ≠ 0) : codeOf (failOf v) ≠ ⟨#[]⟩ ∧ ansOf (failOf v) = v ∧ 4294967196 < v := by
  unfold failOf at h ⊢
  by_cases hc : codeOf ((4294967296 - v) % 4294967296) = ⟨#[]⟩
  · rw [if_pos hc] at h
    exact absurd rfl h
  · rw [if_neg hc]
    have hk := codeOf_some hc
    refine ⟨hc, ?_, by omega⟩
    unfold ansOf
    rw [if_neg hc]
    omega
/-- The registers after so many arguments. -/
def rgL (N a b c x : Int) (j : Nat) : List Int := [N, if 0 < j then a else x, if 1 < j then b else x, if 2 < j then c else x, x, x, x, x]
def rgF (N a b c x : Int) (j : Nat) : Nat → Int := fun k => (rgL N a b c x j).getD k 0
theorem rg_set (N a b c x : Int) {j : Nat} (hj : j < 3) : (regsA (rgF N a b c x j)).setIfInBounds (1 + j) (.int .u32 ([a, b, c].getD j 0)) = regsA (rgF N a b c x (j + 1)) := by
  rcases (show j = 0 ∨ j = 1 ∨ j = 2 by omega) with rfl | rfl | rfl <;> rfl
theorem rg_of {N a b c : Int} (x : Int) (hm : MayC ⟨N, a, b, c⟩) : ofV (rgF N a b c x (agN N)) = .tuple #[.agg #[.int .i64 N, .int .u32 a, .int .u32 b, .int .u32 c], .bool true] := by
  obtain ⟨h1, h2⟩ := hm
  have h1 : 0 ≤ kM (kR N) := h1
  have e : rgF N a b c x (agN N) 0 = N := rfl
  unfold ofV
  rw [e, if_neg (by omega), decide_eq_true h1]
  unfold onC at h2
  simp only [Cl.mk.injEq, true_and] at h2
  obtain ⟨ha, hb, hc⟩ := h2
  have ea : (if 0 < agN N then rgF N a b c x (agN N) 1 else 0) = a := by
    by_cases h : 0 < agN N
    · rw [if_pos h]; show (if 0 < agN N then a else x) = a; rw [if_pos h]
    · rw [if_neg h] at ha ⊢; exact ha
  have eb : (if 1 < agN N then rgF N a b c x (agN N) 2 else 0) = b := by
    by_cases h : 1 < agN N
    · rw [if_pos h]; show (if 1 < agN N then b else x) = b; rw [if_pos h]
    · rw [if_neg h] at hb ⊢; exact hb
  have ec : (if 2 < agN N then rgF N a b c x (agN N) 3 else 0) = c := by
    by_cases h : 2 < agN N
    · rw [if_pos h]; show (if 2 < agN N then c else x) = c; rw [if_pos h]
    · rw [if_neg h] at hc ⊢; exact hc
  unfold onlyA
  rw [ea, eb, ec]
theorem rg_none {R : Nat → Int} (h : 23 ≤ R 0) : ofV R = .tuple #[.agg #[.int .i64 0, .int .u32 0, .int .u32 0, .int .u32 0], .bool false] := by
  unfold ofV
  rw [kR_out (.inr h), if_pos (by decide), show decide (0 ≤ kM 0) = false by decide]

set_option maxRecDepth 100000 in
set_option maxHeartbeats 4000000 in
theorem regsLaw_any {w : World} (hG : Ground w) (hC : Codes w) (N a b c x v : Int) (hr : RangeC ⟨N, a, b, c⟩) (hx0 : 0 ≤ x) (hx1 : x ≤ 4294967295) (hv0 : 0 ≤ v) (hv1 : v ≤ 4294967295) :
    Calls Tryd.prog 4 #[.agg #[.int .i64 N, .int .u32 a, .int .u32 b, .int .u32 c], .int .u32 x, .int .u32 v] w fun e w' => e = .returned (.bool true) ∧ Below w.heap.size w w' := by
  have hb0 := (Below.refl w.heap.size w).alloc (Nat.le_refl _) (.cells #[.int .i64 N, .int .u32 a, .int .u32 b, .int .u32 c] 27)
  have hx := Blk.new w 27 #[.int .i64 N, .int .u32 a, .int .u32 b, .int .u32 c]
  have HAL := Lib.hid (fun W (hW : Below w.heap.size w W) => alive_any (hG.below hW) (hC.below hW))
  by_cases hm : MayC ⟨N, a, b, c⟩
  · have HL := Lib.hid (fun W (hW : Below w.heap.size w W) => line_yes (hG.below hW) N a b c hr hm)
    obtain ⟨sl, hsl⟩ : ∃ sl : ByteArray, sl = ⟨(lineC ⟨N, a, b, c⟩).toArray⟩ := ⟨_, rfl⟩
    rw [← hsl] at HL
    obtain ⟨hN1, hN2, _⟩ := may_num hm.1
    dsimp only at hN1 hN2
    have hag : agN N = (kM (kR N)).toNat := rfl
    have hk0 : 0 ≤ kM (kR N) := hm.1
    obtain ⟨M, hM⟩ : ∃ M, M = agN N := ⟨_, rfl⟩
    have hM3 : M ≤ 3 := by rw [hM]; exact agN_le N
    have HML := Lib.hid (fun W (hW : Below w.heap.size w W) => show Calls Tryd.prog 13 #[.int .i64 N] W fun e w' => e = .returned (.int .i64 (M : Int)) ∧ Below W.heap.size W w' from by
      have h := many_any (hG.below hW).laid N
      rw [show kM (kR N) = (M : Int) by omega] at h
      exact h)
    have HO := Lib.hid (fun W (hW : Below w.heap.size w W) => show Calls Tryd.prog 10 #[.agg (regsA (rgF N a b c x M))] W fun e w' => e = .returned (.tuple #[.agg #[.int .i64 N, .int .u32 a, .int .u32 b, .int .u32 c], .bool true]) ∧ Below W.heap.size W w' from by
      have h := of_regs (hG.below hW).laid (rgF N a b c x M) (show 0 ≤ N ∧ N ≤ 4294967295 by omega)
      rw [hM] at h ⊢
      rw [rg_of x hm] at h
      exact h)
    have htm0 : 0 ≤ x % 1000 := by omega
    have htm1 : x % 1000 < 1000 := by omega
    have HO2 := Lib.hid (fun W R (hR : R 0 = x % 1000 + 23) (hW : Below w.heap.size w W) => show Calls Tryd.prog 10 #[.agg (regsA R)] W fun e w' => e = .returned (.tuple #[.agg #[.int .i64 0, .int .u32 0, .int .u32 0, .int .u32 0], .bool false]) ∧ Below W.heap.size W w' from by
      have h := of_regs (hG.below hW).laid R (by omega)
      rw [rg_none (by omega)] at h
      exact h)
    have HF := Lib.hid (fun W (hW : Below w.heap.size w W) => failed_any (hC.below hW) v hv0 hv1)
    have hfl := fun h => fail_law hv0 hv1 h
    obtain ⟨f, hf⟩ : ∃ f, f = failOf v := ⟨_, rfl⟩
    rw [← hf] at HF hfl
    have HC := Lib.hid (fun W (hW : Below w.heap.size w W) => code_any (hC.below hW) f)
    have HA := Lib.hid (fun W (hW : Below w.heap.size w W) => answer_any (hC.below hW) f)
    have HFL := Lib.hid hfl
    have HE := fun w => eqC ⟨N, a, b, c⟩ ⟨N, a, b, c⟩ w
    have hd : decide ((⟨N, a, b, c⟩ : Cl) = ⟨N, a, b, c⟩) = true := decide_eq_true rfl
    rw [hd] at HE
    dsimp only at HE
    have HIX := Lib.hid (fun (k : Nat) (hk : k < 3) (w : World) => index_args a b c hk w)
    have HX := Lib.hid hx
    have HB0 := Lib.hid hb0
    have HRS := Lib.hid (fun j (hj : j < 3) => rg_set N a b c x hj)
    clear hd hG hC hm hsl hag hk0 hM hf hfl hr hx hb0
    go_enter Tryd.func4, Tryd.ntmps4
    go_wp2_with fail
    refine (HAL.out _ HB0.out).mono ?_
    rintro e W1 ⟨rfl, hb1⟩
    have hB1 := bl_step HB0.out hb1
    have hx1 := HX.out.below hb1 HX.out.lt
    obtain ⟨x0, x1, x2, x3, xlt⟩ := ccells hx1
    have HX1 := Lib.hid hx1
    clear hb1 hx1 HX HB0
    go_wp2_with fail
    refine (HL.out _ hB1).mono ?_
    rintro e W2 ⟨rfl, hb2⟩
    have hB2 := bl_step hB1 hb2
    have hx2 := HX1.out.below hb2 HX1.out.lt
    clear x0 x1 x2 x3 xlt
    obtain ⟨x0, x1, x2, x3, xlt⟩ := ccells hx2
    have hcN : IntKind.u32.wrap N = N := Int.emod_eq_of_lt (by omega) (by show N < 4294967296; omega)
    have hcN2 : N % 4294967296 = N := Int.emod_eq_of_lt (by omega) (by omega)
    have hB3 := bl_new hB2 (.cells #[.int .u32 N, .int .u32 x, .int .u32 x, .int .u32 x, .int .u32 x, .int .u32 x, .int .u32 x, .int .u32 x] 23)
    have hx3 := hx2.alloc (.cells #[.int .u32 N, .int .u32 x, .int .u32 x, .int .u32 x, .int .u32 x, .int .u32 x, .int .u32 x, .int .u32 x] 23)
    have hr3 := Blk.new W2 23 #[.int .u32 N, .int .u32 x, .int .u32 x, .int .u32 x, .int .u32 x, .int .u32 x, .int .u32 x, .int .u32 x]
    have HX3 := Lib.hid hx3
    have HR3 := Lib.hid hr3
    have HB3 := Lib.hid hB3
    have hne := hx2.lt
    clear hb2 hx2 hB1 HX1 hB2 hB3 hx3 hr3
    go_wp2_with fail
    refine (HML.out _ HB3.out).mono ?_
    rintro e W4 ⟨rfl, hb4⟩
    have hx4 := HX3.out.below hb4 HX3.out.lt
    have hr4 := HR3.out.below hb4 HR3.out.lt
    have hB4 := bl_step HB3.out hb4
    clear x0 x1 x2 x3 xlt hb4 HX3 HR3 HB3
    generalize W2.heap.size = G at *
    have hr5 : Blk W4 G 23 (regsA (rgF N a b c x 0)) := hr4
    clear hr4
    go_wp2
    go_loopw [12] (fun i wr => ∃ j : Nat, i = .int .i64 (j : Int) ∧ j ≤ M ∧ Blk wr G 23 (regsA (rgF N a b c x j)) ∧ Blk wr w.heap.size 27 #[.int .i64 N, .int .u32 a, .int .u32 b, .int .u32 c] ∧ Below w.heap.size w wr) (fun i _ => M - (intOf i).toNat)
    case atStart => exact ⟨0, rfl, by omega, hr5, hx4, hB4⟩
    case round =>
      obtain ⟨j, rfl, hj, hRj, hXj, hBj⟩ := hrel
      clear hr5 hx4 hB4
      by_cases hjM : j < M
      · have hjb : (j : Int) < (M : Int) := by omega
        have hj3 : j < 3 := by omega
        have hj3i : (j : Int) < 3 := by omega
        have hset := HRS.out j hj3
        have hcx : wr.cell? ⟨w.heap.size, 1 + j, none⟩ = some (.int .u32 ([a, b, c].getD j 0)) := by
          rw [hXj.cell]
          rcases (show j = 0 ∨ j = 1 ∨ j = 2 by omega) with rfl | rfl | rfl <;> rfl
        generalize [a, b, c].getD j 0 = q at *
        obtain ⟨u, hu⟩ : ∃ u, wr.cell? ⟨G, 1 + j, none⟩ = some u := by rw [hRj.cell]; exact ⟨_, Array.getElem?_eq_getElem (by show 1 + j < 8; omega)⟩
        have hf := hRj.frozen (1 + j)
        have hlt := hRj.lt
        have hlx := hXj.lt
        have hR6 := hRj.set_ (1 + j) (.int .u32 q)
        rw [hset] at hR6
        have hX6 := hXj.far (p := ⟨G, 1 + j, none⟩) (show w.heap.size ≠ G by omega) (.int .u32 q)
        have hB6 := hBj.setCell (p := ⟨G, 1 + j, none⟩) (show w.heap.size ≤ G by omega) (.int .u32 q)
        have HR6 := Lib.hid hR6
        have HX6 := Lib.hid hX6
        have HB6 := Lib.hid hB6
        clear hRj hXj hBj hset hR6 hX6 hB6
        go_wp2
        go_roundw
        case rel => exact ⟨j + 1, by go_num, by omega, HR6.out, HX6.out, HB6.out⟩
        case measure => simp [intOf]; omega
      · have hjM' : j = M := by omega
        subst hjM'
        obtain ⟨p, q, r, hpqr⟩ : ∃ p q r : Int, regsA (rgF N a b c x j) = #[.int .u32 N, .int .u32 p, .int .u32 q, .int .u32 r, .int .u32 x, .int .u32 x, .int .u32 x, .int .u32 x] := ⟨_, _, _, rfl⟩
        rw [hpqr] at hRj HO
        have HO3 := Lib.hid (fun W (hW : Below w.heap.size w W) => show Calls Tryd.prog 10 #[.agg #[.int .u32 (x % 1000 + 23), .int .u32 p, .int .u32 q, .int .u32 r, .int .u32 x, .int .u32 x, .int .u32 x, .int .u32 x]] W fun e w' => e = .returned (.tuple #[.agg #[.int .i64 0, .int .u32 0, .int .u32 0, .int .u32 0], .bool false]) ∧ Below W.heap.size W w' from
          HO2.out W (fun k => [x % 1000 + 23, p, q, r, x, x, x, x].getD k 0) rfl hW)
        obtain ⟨g0, g1, g2, g3, g4, g5, g6, g7⟩ := And.intro (hRj.cell 0) (And.intro (hRj.cell 1) (And.intro (hRj.cell 2) (And.intro (hRj.cell 3) (And.intro (hRj.cell 4) (And.intro (hRj.cell 5) (And.intro (hRj.cell 6) (hRj.cell 7)))))))
        simp only [List.getElem?_toArray, List.getElem?_cons_zero, List.getElem?_cons_succ] at g0 g1 g2 g3 g4 g5 g6 g7
        have glt := hRj.lt
        have HRJ := Lib.hid hRj
        have HXJ := Lib.hid hXj
        have HBJ := Lib.hid hBj
        have hw23 : IntKind.u32.wrap (x % 1000 + 23) = x % 1000 + 23 := Int.emod_eq_of_lt (by omega) (by show x % 1000 + 23 < 4294967296; omega)
        have hw24 : (x % 1000 + 23) % 4294967296 = x % 1000 + 23 := Int.emod_eq_of_lt (by omega) (by omega)
        clear hpqr hRj hXj hBj HO2 HRS
        go_wp2_with fail
        refine (HO.out _ HBJ.out).mono ?_
        rintro e W5 ⟨rfl, hb5⟩
        have hR5 := HRJ.out.below hb5 HRJ.out.lt
        have hX5 := HXJ.out.below hb5 HXJ.out.lt
        have hB5 := bl_step HBJ.out hb5
        clear g0 g1 g2 g3 g4 g5 g6 g7 glt
        have f0 := hR5.frozen 0
        have hR6 := hR5.set_ 0 (.int .u32 (x % 1000 + 23))
        have hX6 := hX5.far (p := ⟨G, 0, none⟩) (show w.heap.size ≠ G by omega) (.int .u32 (x % 1000 + 23))
        have hB6 := hB5.setCell (p := ⟨G, 0, none⟩) (show w.heap.size ≤ G by omega) (.int .u32 (x % 1000 + 23))
        have hsz6 : (W5.setCell ⟨G, 0, none⟩ (.int .u32 (x % 1000 + 23))).heap.size = W5.heap.size := by simp [World.setCell]
        have hD6 := Blk.new (W5.setCell ⟨G, 0, none⟩ (.int .u32 (x % 1000 + 23))) 27 #[.int .i64 N, .int .u32 a, .int .u32 b, .int .u32 c]
        have hR7 := hR6.alloc (.cells #[.int .i64 N, .int .u32 a, .int .u32 b, .int .u32 c] 27)
        have hX7 := hX6.alloc (.cells #[.int .i64 N, .int .u32 a, .int .u32 b, .int .u32 c] 27)
        have hB7 := bl_new hB6 (.cells #[.int .i64 N, .int .u32 a, .int .u32 b, .int .u32 c] 27)
        rw [hsz6] at hD6
        have glt := hR5.lt
        obtain ⟨g0, g1, g2, g3, g4, g5, g6, g7⟩ := And.intro (hR5.cell 0) (And.intro (hR5.cell 1) (And.intro (hR5.cell 2) (And.intro (hR5.cell 3) (And.intro (hR5.cell 4) (And.intro (hR5.cell 5) (And.intro (hR5.cell 6) (hR5.cell 7)))))))
        simp only [List.getElem?_toArray, List.getElem?_cons_zero, List.getElem?_cons_succ] at g0 g1 g2 g3 g4 g5 g6 g7
        have HD7 := Lib.hid hD6
        have HX7 := Lib.hid hX7
        have HB7 := Lib.hid hB7
        clear hb5 hR5 hX5 hB5 hR6 hX6 hB6 hsz6 hD6 hR7 hX7 hB7 HRJ HXJ HBJ
        go_wp2_with fail
        refine (HO3.out _ HB7.out).mono ?_
        rintro e W6 ⟨rfl, hb6⟩
        have hX8 := (HX7.out.below hb6 HX7.out.lt).alloc (.cells #[.int .i64 0, .int .u32 0, .int .u32 0, .int .u32 0] 27)
        have hD8 := (HD7.out.below hb6 HD7.out.lt).alloc (.cells #[.int .i64 0, .int .u32 0, .int .u32 0, .int .u32 0] 27)
        have hB8 := bl_new (bl_step HB7.out hb6) (.cells #[.int .i64 0, .int .u32 0, .int .u32 0, .int .u32 0] 27)
        have HX8 := Lib.hid hX8
        have HD8 := Lib.hid hD8
        have HB8 := Lib.hid hB8
        clear g0 g1 g2 g3 g4 g5 g6 g7 f0 glt hb6 hX8 hD8 hB8 HX7 HD7 HB7
        generalize W5.heap.size = D at *
        go_wp2_with fail
        refine (HF.out _ HB8.out).mono ?_
        rintro e W7 ⟨rfl, hb7⟩
        have hX9 := HX8.out.below hb7 HX8.out.lt
        have hD9 := HD8.out.below hb7 HD8.out.lt
        have hB9 := bl_step HB8.out hb7
        obtain ⟨x0, x1, x2, x3, xlt⟩ := ccells hX9
        obtain ⟨y0, y1, y2, y3, ylt⟩ := ccells hD9
        clear hb7 hX9 hD9 HX8 HD8 HB8
        by_cases hf0 : f = 0
        · subst hf0
          clear HFL
          have HB9 := Lib.hid hB9
          go_wp2
          all_goals
            go_ret
            exact ⟨by first | rfl | simp, HB9.out⟩
        · obtain ⟨hc1, hc2, hc3⟩ := HFL.out hf0
          have hc4 := full_test hc1
          rw [hc2] at HA
          generalize codeOf f = cs at *
          have hf1 : (f == 0) = false := by simpa using hf0
          clear hc1 hc2 HFL
          go_wp2_with fail
          refine (HC.out _ hB9).mono ?_
          rintro e W8 ⟨rfl, hb8⟩
          have hB10 := bl_step hB9 hb8
          clear hb8
          go_wp2_with fail
          refine (HA.out _ hB10).mono ?_
          rintro e W9 ⟨rfl, hb9⟩
          have HB11 := Lib.hid (bl_step hB10 hb9)
          clear hb9
          go_wp2
          go_ret
          exact ⟨by first | rfl | simp, HB11.out⟩
  · have HL := Lib.hid (fun W (hW : Below w.heap.size w W) => line_no (hG.below hW) N a b c hm)
    clear hm hG hC
    have HX := Lib.hid hx
    have HB0 := Lib.hid hb0
    clear hx hb0
    go_enter Tryd.func4, Tryd.ntmps4
    go_wp2_with fail
    refine (HAL.out _ HB0.out).mono ?_
    rintro e W1 ⟨rfl, hb1⟩
    have hB1 := bl_step HB0.out hb1
    have hx1 := HX.out.below hb1 HX.out.lt
    obtain ⟨x0, x1, x2, x3, xlt⟩ := ccells hx1
    clear hb1 hx1 HX HB0
    go_wp2_with fail
    refine (HL.out _ hB1).mono ?_
    rintro e W2 ⟨rfl, hb2⟩
    have HB2 := Lib.hid (bl_step hB1 hb2)
    clear hb2 hB1
    go_wp2
    go_ret
    exact ⟨by first | rfl | simp, HB2.out⟩
end Go.Proofs.YthmjddnccgiinaaDoor

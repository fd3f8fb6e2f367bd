/-
  Spaces: where one lies; none, count. Condition: the space lies in blocks of its own.
-/
import Derived.Test.YtlecfdchmcghlaaFrB
import Derived.Test.YtlecfdchmcghlaaPages8
namespace Go.Proofs.Ytlecfdchmcghlaa
open Go.RowKit Go.Shelf
set_option linter.unusedVariables false
set_option linter.unusedSimpArgs false
attribute [local go_sem] Oper.semAt_some

/-- A space at block sb over the frames at fb, its table at bt. -/
structure SpAt (w : World) (fb sb bt : Nat) (q : Nat → Option Nat) (m : M) : Prop where
  p : Blk w sb 63 #[.pointer (some ⟨fb, 0, none⟩), .pointer (some ⟨bt, 0, none⟩)]
  t : Tab w bt q m
  ne : ¬ Own bt q sb
section
variable {w w' : World} {fb sb bt : Nat} {q : Nat → Option Nat} {m : M}
theorem SpAt.below (h : SpAt w fb sb bt q m) (hb : Below w.heap.size w w') : SpAt w' fb sb bt q m := ⟨h.p.below hb h.p.lt, h.t.below hb (Nat.le_refl _), h.ne⟩
theorem SpAt.cells (h : SpAt w fb sb bt q m) : w.cell? ⟨sb, 0, none⟩ = some (.pointer (some ⟨fb, 0, none⟩)) ∧ w.cell? ⟨sb, 1, none⟩ = some (.pointer (some ⟨bt, 0, none⟩)) ∧ sb < w.heap.size := ⟨h.p.cell 0, h.p.cell 1, h.p.lt⟩

set_option maxRecDepth 100000 in
theorem spNone_any (h : SpAt w fb sb bt q m) : Calls Try.prog 23 #[.pointer (some ⟨sb, 0, none⟩)] w fun e w' => e = .returned (.bool false) ∧ w = w' := by
  obtain ⟨c0, c1, hlt⟩ := h.cells
  clear h
  go_enter Try.func23, Try.ntmps23
  go_wp2
  go_ret
  exact ⟨rfl, rfl⟩
/-- How many of n pages from p on are mapped. -/
def cntP (m : M) (p : Nat) : Nat → Nat
  | 0 => 0
  | n + 1 => cntP m p n + (if (m (p + n)).isSome then 1 else 0)
theorem cntP_le (m : M) (p : Nat) : ∀ n, cntP m p n ≤ n
  | 0 => Nat.le_refl _
  | n + 1 => by
    have := cntP_le m p n
    rw [cntP]
    split <;> omega
def inP (p n : Int) : Prop := 1 ≤ n ∧ n ≤ 64 ∧ 0 ≤ p ∧ p ≤ 64 - n
set_option maxRecDepth 100000 in
set_option maxHeartbeats 4000000 in
theorem spCount_no (h : SpAt w fb sb bt q m) (p n : Int) (hp : ¬ inP p n) : Calls Try.prog 24 #[.pointer (some ⟨sb, 0, none⟩), .int .i64 p, .int .i64 n] w fun e w' => e = .returned (.tuple #[.int .i64 0, .bool false]) ∧ w = w' := by
  clear h
  unfold inP at hp
  have hc : n < 1 ∨ (¬ n < 1 ∧ 64 < n) ∨ (¬ n < 1 ∧ ¬ 64 < n ∧ p < 0) ∨ (¬ n < 1 ∧ ¬ 64 < n ∧ ¬ p < 0 ∧ 64 - n < p) := by omega
  rcases hc with h1 | ⟨h1, h2⟩ | ⟨h1, h2, h3⟩ | ⟨h1, h2, h3, h4⟩
  all_goals
    clear hp
    go_enter Try.func24, Try.ntmps24
    go_wp2
    go_ret2
    exact ⟨rfl, rfl⟩
set_option maxRecDepth 100000 in
set_option maxHeartbeats 4000000 in
theorem spCount_yes (h : SpAt w fb sb bt q m) (p n : Nat) (h1 : 1 ≤ n) (h2 : p + n ≤ 64) : Calls Try.prog 24 #[.pointer (some ⟨sb, 0, none⟩), .int .i64 (p : Int), .int .i64 (n : Int)] w fun e w' => e = .returned (.tuple #[.int .i64 (cntP m p n : Nat), .bool true]) ∧ Below w.heap.size w w' := by
  have HH := Lib.hid h
  have g1 : ¬ (n : Int) < 1 := by omega
  have g2 : ¬ (64 : Int) < (n : Int) := by omega
  have g3 : ¬ (p : Int) < 0 := by omega
  have g4 : ¬ (64 : Int) - (n : Int) < (p : Int) := by omega
  have g5 : (n : Int) ≤ 64 := by omega
  clear h
  obtain ⟨r, hr⟩ : ∃ r, cntP m p n = r := ⟨_, rfl⟩
  rw [hr]
  have HR := Lib.hid hr
  clear hr
  go_enter Try.func24, Try.ntmps24
  go_wp2_with (fail)
  go_loopw [8, 29] (fun u v wr => ∃ k : Nat, v = .int .i64 (k : Int) ∧ u = .int .i64 ((cntP m p k : Nat) : Int) ∧ k ≤ n ∧ Hid (Below w.heap.size w wr)) (fun _ v _ => n - (intOf v).toNat)
  case atStart => exact ⟨0, rfl, rfl, Nat.zero_le _, Lib.hid (Below.refl _ _)⟩
  case round =>
    obtain ⟨k, rfl, rfl, hk, HB⟩ := hrel
    have hcl := cntP_le m p k
    by_cases hkn : k < n
    · have hki : (k : Int) < (n : Int) := by omega
      have HS := Lib.hid (HH.out.below HB.out)
      obtain ⟨c0, c1, hlt⟩ := HS.out.cells
      have hg := get_any HS.out.t ((p + k : Nat) : Int)
      rw [look_in m (show p + k < 64 by omega), show ((p + k : Nat) : Int) = (p : Int) + (k : Int) by omega] at hg
      cases hm : m (p + k) with
      | none =>
        rw [hm] at hg
        simp only [gotV, Option.getD_none, Option.isSome_none, E.val, E.zero, E.arr] at hg
        have HG := Lib.hid hg
        have HC := Lib.hid (show cntP m p (k + 1) = cntP m p k from by rw [cntP, hm]; rfl)
        clear hg hm
        go_wp2_with (fail)
        refine HG.out.mono ?_
        rintro e W1 ⟨rfl, hb1⟩
        have HB1 := Lib.hid (bl_step HB.out hb1)
        clear hb1
        go_wp2
        exact ⟨⟨k + 1, by simp, by rw [HC.out], by omega, Lib.hid (bl_new HB1.out _)⟩, by simp [intOf]; omega⟩
      | some x =>
        obtain ⟨f, a1, a2, a3, a4⟩ := x
        rw [hm] at hg
        simp only [gotV, Option.getD_some, Option.isSome_some, E.val, E.zero, E.arr] at hg
        have HG := Lib.hid hg
        have HC := Lib.hid (show cntP m p (k + 1) = cntP m p k + 1 from by rw [cntP, hm]; rfl)
        clear hg hm
        go_wp2_with (fail)
        refine HG.out.mono ?_
        rintro e W1 ⟨rfl, hb1⟩
        have HB1 := Lib.hid (bl_step HB.out hb1)
        clear hb1
        go_wp2
        exact ⟨⟨k + 1, by simp, by rw [HC.out]; simp, by omega, Lib.hid (bl_new HB1.out _)⟩, by simp [intOf]; omega⟩
    · have hki : ¬ (k : Int) < (n : Int) := by omega
      have hkk : k = n := by omega
      subst hkk
      rw [HR.out]
      go_wp2
      go_ret2
      exact ⟨rfl, HB.out⟩
end
end Go.Proofs.Ytlecfdchmcghlaa

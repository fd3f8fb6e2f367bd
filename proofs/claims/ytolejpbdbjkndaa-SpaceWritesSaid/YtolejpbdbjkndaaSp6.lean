/-
  Unmap of spaces. Condition: the space and the frames lie in blocks of their own.
-/
import Derived.Test.YtolejpbdbjkndaaSp5
namespace Go.Proofs.Ytolejpbdbjkndaa
open Go.RowKit Go.Shelf
set_option linter.unusedVariables false
set_option linter.unusedSimpArgs false
attribute [local go_sem] Oper.semAt_some

/-- k pages from p on are unmapped, one by one. -/
def unmapGo (F : Fs) (m : M) (p : Nat) : Nat → Fs × M
  | 0 => (F, m)
  | k + 1 => match (unmapGo F m p k).2 (p + k) with
    | some x => (dropF (unmapGo F m p k).1 x.f, upd (unmapGo F m p k).2 (p + k) none)
    | none => unmapGo F m p k
theorem unmapGo_succ {F : Fs} {m : M} {p k : Nat} {x : E} (h : (unmapGo F m p k).2 (p + k) = some x) :
    unmapGo F m p (k + 1) = (dropF (unmapGo F m p k).1 x.f, upd (unmapGo F m p k).2 (p + k) none) := by
  rw [unmapGo, h]
theorem unmapGo_far (F : Fs) (m : M) (p : Nat) : ∀ k i, (i < p ∨ p + k ≤ i) → (unmapGo F m p k).2 i = m i
  | 0, i, _ => rfl
  | k + 1, i, h => by
    rw [unmapGo]
    split
    · show upd _ _ none i = _
      rw [upd_other _ _ (by omega)]
      exact unmapGo_far F m p k i (by omega)
    · exact unmapGo_far F m p k i (by omega)
theorem cntP_all {m : M} {p : Nat} : ∀ {n}, cntP m p n = n → ∀ k, k < n → ∃ x, m (p + k) = some x
  | 0, _, k, hk => absurd hk (Nat.not_lt_zero _)
  | n + 1, h, k, hk => by
    have hl := cntP_le m p n
    rw [cntP] at h
    cases hm : m (p + n) with
    | none =>
      rw [hm] at h
      simp at h
      omega
    | some x =>
      rw [hm] at h
      simp at h
      by_cases hkn : k = n
      · subst hkn; exact ⟨x, hm⟩
      · exact cntP_all h k (by omega)
section
variable {w : World} {fb lb cap : Nat} {F : Fs} {sb bt : Nat} {q : Nat → Option Nat} {m : M}
set_option maxRecDepth 100000 in
set_option maxHeartbeats 4000000 in
theorem spUnmap_out (h : FS w fb lb cap F sb bt q m) (p n : Int) (hp : ¬ inP p n) :
    Calls Try.prog 21 #[.pointer (some ⟨sb, 0, none⟩), .int .i64 p, .int .i64 n] w fun e w' => e = .returned (.int .i64 22) ∧ Below w.heap.size w w' := by
  have HN := Lib.hid (spNone_any h.s)
  have HC := Lib.hid (spCount_no h.s p n hp)
  clear h hp
  go_enter Try.func21, Try.ntmps21
  go_wp2_with (fail)
  refine HN.out.mono ?_
  rintro e _ ⟨rfl, rfl⟩
  go_wp2_with (fail)
  refine HC.out.mono ?_
  rintro e _ ⟨rfl, rfl⟩
  go_wp2
  go_ret
  exact ⟨rfl, Below.refl _ _⟩
set_option maxRecDepth 100000 in
set_option maxHeartbeats 4000000 in
theorem spUnmap_few (h : FS w fb lb cap F sb bt q m) (p n : Nat) (h1 : 1 ≤ n) (h2 : p + n ≤ 64) (hc : cntP m p n ≠ n) :
    Calls Try.prog 21 #[.pointer (some ⟨sb, 0, none⟩), .int .i64 (p : Int), .int .i64 (n : Int)] w fun e w' => e = .returned (.int .i64 22) ∧ Below w.heap.size w w' := by
  have HN := Lib.hid (spNone_any h.s)
  have HC := Lib.hid (spCount_yes h.s p n h1 h2)
  have hle := cntP_le m p n
  have hci : ((cntP m p n : Nat) : Int) < (n : Int) := by omega
  clear h hc
  generalize cntP m p n = c at *
  go_enter Try.func21, Try.ntmps21
  go_wp2_with (fail)
  refine HN.out.mono ?_
  rintro e _ ⟨rfl, rfl⟩
  go_wp2_with (fail)
  refine HC.out.mono ?_
  rintro e W1 ⟨rfl, hb1⟩
  go_wp2
  go_ret
  exact ⟨rfl, hb1⟩
set_option maxRecDepth 100000 in
set_option maxHeartbeats 4000000 in
theorem spUnmap_yes (h : FS w fb lb cap F sb bt q m) (p n : Nat) (h1 : 1 ≤ n) (h2 : p + n ≤ 64) (hc : cntP m p n = n) :
    Calls Try.prog 21 #[.pointer (some ⟨sb, 0, none⟩), .int .i64 (p : Int), .int .i64 (n : Int)] w fun e w' => e = .returned (.int .i64 0) ∧ FOut w fb lb cap (unmapGo F m p n).1 sb bt q (unmapGo F m p n).2 w' := by
  have HH := Lib.hid h
  have HN := Lib.hid (spNone_any h.s)
  have HC := Lib.hid (spCount_yes h.s p n h1 h2)
  rw [hc] at HC
  have HLT := Lib.hid (show fb < w.heap.size ∧ lb < w.heap.size ∧ sb < w.heap.size from ⟨h.f.lt.1, h.f.lt.2, h.s.p.lt⟩)
  have HA := Lib.hid (cntP_all hc)
  have hn64 : (n : Int) ≤ 64 := by omega
  clear h hc
  go_enter Try.func21, Try.ntmps21
  go_wp2_with (fail)
  refine HN.out.mono ?_
  rintro e _ ⟨rfl, rfl⟩
  go_wp2_with (fail)
  refine HC.out.mono ?_
  rintro e W1 ⟨rfl, hb1⟩
  have HS1 := Lib.hid (HH.out.below hb1)
  have HO1 := Lib.hid (show FOut w fb lb cap F sb bt q m W1 from ⟨q, HS1.out, But.of_below hb1, fun k hk => .inl hk⟩)
  clear HS1 hb1
  go_wp2_with (fail)
  go_loopw [29] (fun i wx => ∃ k : Nat, i = .int .i64 (k : Int) ∧ k ≤ n ∧ Hid (FOut w fb lb cap (unmapGo F m p k).1 sb bt q (unmapGo F m p k).2 wx)) (fun i _ => n - (intOf i).toNat)
  case atStart => exact ⟨0, rfl, Nat.zero_le _, HO1⟩
  case round =>
    obtain ⟨k, rfl, hk, HO⟩ := hrel
    by_cases hkn : k < n
    · have hki : (k : Int) < (n : Int) := by omega
      obtain ⟨x, hx⟩ := HA.out k hkn
      have hxk : (unmapGo F m p k).2 (p + k) = some x := (unmapGo_far F m p k (p + k) (.inr (Nat.le_refl _))).trans hx
      have HSU := Lib.hid (unmapGo_succ hxk)
      obtain ⟨q', hs, hb, hq⟩ := HO.out
      have HB := Lib.hid hb
      have HQ := Lib.hid hq
      have HS := Lib.hid hs
      have hcl := clear_any hs.s.t ((p + k : Nat) : Int)
      rw [look_in _ (show p + k < 64 by omega), hxk] at hcl
      unfold clearM at hcl
      rw [if_pos (by omega), Int.toNat_natCast, show ((p + k : Nat) : Int) = (p : Int) + (k : Int) by omega] at hcl
      obtain ⟨f, a1, a2, a3, a4⟩ := x
      simp only [gotV, Option.getD_some, Option.isSome_some, E.val, E.zero, E.arr] at hcl
      have HCL := Lib.hid hcl
      obtain ⟨c0, c1, hlt⟩ := hs.s.cells
      clear hcl hs hb hq hx hxk HO1
      go_wp2_with (fail)
      refine HCL.out.mono ?_
      rintro e W3 ⟨rfl, hmut⟩
      have HO3 := Lib.hid (FOut.table HS.out HB.out HQ.out hmut HLT.out)
      clear hmut HCL HS HB HQ c0 c1 hlt HO
      go_upto_region 10 with (fail)
      obtain ⟨q4, hs4, hb4, hq4⟩ := HO3.out
      have bx := Blk.new W3 35 #[.int .i64 f, .bool a1, .bool a2, .bool a3, .bool a4]
      have HBL := Lib.hid (bl_new (Below.refl W3.heap.size W3) (.cells #[.int .i64 f, .bool a1, .bool a2, .bool a3, .bool a4] 35))
      have HO4 := Lib.hid (show FOut w fb lb cap (unmapGo F m p k).1 sb bt q (upd (unmapGo F m p k).2 (p + k) none) (W3.alloc (.cells #[.int .i64 f, .bool a1, .bool a2, .bool a3, .bool a4] 35)) from
        ⟨q4, hs4.below HBL.out, hb4.thenBelow HBL.out hb4.size, fun k hk => hq4 k hk⟩)
      have e0 := bx.cell 0
      simp only [List.getElem?_toArray, List.getElem?_cons_zero, List.getElem?_cons_succ] at e0
      have hbl := bx.lt
      clear hs4 hb4 hq4 HO3 HBL bx
      generalize (W3.alloc (.cells #[.int .i64 f, .bool a1, .bool a2, .bool a3, .bool a4] 35)) = W4 at *
      obtain ⟨q5, hs5, hb5, hq5⟩ := HO4.out
      obtain ⟨c0, c1, hlt⟩ := hs5.s.cells
      have HO5 := Lib.hid (show FOut w fb lb cap (unmapGo F m p k).1 sb bt q (upd (unmapGo F m p k).2 (p + k) none) W4.drew from ⟨q5, hs5.below (Below.refl _ _).drew, hb5.drew, hq5⟩)
      have HD := Lib.hid (frDrop_any (hs5.below (Below.refl _ _).drew).f f)
      clear hs5 hb5 hq5 HO4
      go_still_tail 6, (by kernel_rfl)
      change wpList _ _ _ _ _ W4.drew
      generalize W4.drew = W5 at *
      go_wp2_with (fail)
      refine HD.out.mono ?_
      rintro e W6 ⟨rfl, ho⟩
      have HO6 := Lib.hid (HO5.out.frames ho)
      clear ho HO5 HD c0 c1 e0
      go_wp2
      exact ⟨⟨k + 1, by simp, by omega, Lib.hid (by rw [HSU.out]; exact HO6.out)⟩, by simp [intOf]; omega⟩
    · have hki : ¬ (k : Int) < (n : Int) := by omega
      have hkk : k = n := by omega
      subst hkk
      go_wp2
      go_ret
      exact ⟨rfl, HO.out⟩
end
end Go.Proofs.Ytolejpbdbjkndaa

/-
  New, may, Refs, Len, Share of frames. Condition: the frames lie in blocks of their own.
-/
import Derived.Laws.MakeOwn
import Derived.Test.YtolejpbdbjkndaaFr1
namespace Go.Proofs.Ytolejpbdbjkndaa
open Go.RowKit Go.Lib
set_option linter.unusedVariables false
set_option linter.unusedSimpArgs false

section
variable {w : World} {fb lb cap : Nat} {F : Fs}
/-- The error of a call of frame k: 0, or that there is none, or it is free. -/
def mayE (F : Fs) (k : Int) : Int := if 0 ≤ k ∧ k < F.n ∧ F.r k.toNat ≠ 0 then 0 else 41

set_option maxRecDepth 100000 in
set_option maxHeartbeats 2000000 in
theorem frMay_any (h : FrAt w fb lb cap F) (k : Int) :
    Calls Try.prog 51 #[.pointer (some ⟨fb, 0, none⟩), .int .i64 k] w fun e w' => e = .returned (.int .i64 (mayE F k)) ∧ w = w' := by
  have c0 := h.slice
  have hlt := h.p.lt
  have hlt2 := h.lt.2
  have hpos := h.ok.pos
  have hn0 : ((F.n : Int) == 0) = false := by simpa using (show (F.n : Int) ≠ 0 by omega)
  by_cases h0 : k < 0
  · have he : mayE F k = 41 := if_neg (by omega)
    rw [he]
    clear h he
    go_enter Try.func51, Try.ntmps51
    go_wp2
    go_ret
    exact ⟨rfl, rfl⟩
  by_cases h1 : (F.n : Int) ≤ k
  · have he : mayE F k = 41 := if_neg (by omega)
    rw [he]
    clear h he
    go_enter Try.func51, Try.ntmps51
    go_wp2
    go_ret
    exact ⟨rfl, rfl⟩
  obtain ⟨k, rfl⟩ := Int.eq_ofNat_of_zero_le (by omega : 0 ≤ k)
  have hk : k < F.n := by omega
  have cr := h.refs hk
  by_cases hr : F.r k = 0
  · have he : mayE F k = 41 := if_neg (fun x => x.2.2 (by rw [Int.toNat_natCast]; exact hr))
    rw [he]
    rw [hr] at cr
    clear h he
    go_enter Try.func51, Try.ntmps51
    go_wp2
    go_ret
    exact ⟨rfl, rfl⟩
  · have he : mayE F k = 0 := if_pos ⟨by omega, by omega, by rw [Int.toNat_natCast]; exact hr⟩
    have hrn : ((F.r k : Int) == 0) = false := by simpa using (show (F.r k : Int) ≠ 0 by omega)
    rw [he]
    clear h he
    go_enter Try.func51, Try.ntmps51
    go_wp2
    go_ret
    exact ⟨rfl, rfl⟩
/-- The count of frame k; 0, if there is none. -/
def refsI (F : Fs) (k : Int) : Int := if 0 ≤ k ∧ k < F.n then F.r k.toNat else 0

set_option maxRecDepth 100000 in
set_option maxHeartbeats 2000000 in
theorem frRefs_any (h : FrAt w fb lb cap F) (k : Int) :
    Calls Try.prog 44 #[.pointer (some ⟨fb, 0, none⟩), .int .i64 k] w fun e w' => e = .returned (.int .i64 (refsI F k)) ∧ w = w' := by
  have HM := Lib.hid (frMay_any h k)
  have c0 := h.slice
  have hlt := h.p.lt
  have hlt2 := h.lt.2
  by_cases hm : 0 ≤ k ∧ k < F.n ∧ F.r k.toNat ≠ 0
  · have he : mayE F k = 0 := if_pos hm
    rw [he] at HM
    obtain ⟨k, rfl⟩ := Int.eq_ofNat_of_zero_le hm.1
    have hk : k < F.n := by omega
    have hki : (k : Int) < (F.n : Int) := by omega
    have cr := h.refs hk
    have hr : refsI F k = F.r k := by unfold refsI; rw [if_pos ⟨by omega, by omega⟩, Int.toNat_natCast]
    rw [hr]
    clear h he hm hr
    go_enter Try.func44, Try.ntmps44
    go_wp2_with (fail)
    refine HM.out.mono ?_
    rintro e _ ⟨rfl, rfl⟩
    go_wp2
    go_ret
    exact ⟨rfl, rfl⟩
  · have he : mayE F k = 41 := if_neg hm
    have hr : refsI F k = 0 := by
      unfold refsI
      by_cases hk : 0 ≤ k ∧ k < F.n
      · rw [if_pos hk]
        have : ¬ F.r k.toNat ≠ 0 := fun x => hm ⟨hk.1, hk.2, x⟩
        omega
      · rw [if_neg hk]
    rw [he] at HM
    rw [hr]
    clear h he hm hr
    go_enter Try.func44, Try.ntmps44
    go_wp2_with (fail)
    refine HM.out.mono ?_
    rintro e _ ⟨rfl, rfl⟩
    go_wp2
    go_ret
    exact ⟨rfl, rfl⟩

set_option maxRecDepth 100000 in
theorem frLen_any (h : FrAt w fb lb cap F) :
    Calls Try.prog 17 #[.pointer (some ⟨fb, 0, none⟩)] w fun e w' => e = .returned (.int .i64 F.n) ∧ w = w' := by
  have c0 := h.slice
  have hlt := h.p.lt
  clear h
  go_enter Try.func17, Try.ntmps17
  go_wp2
  go_ret
  exact ⟨rfl, rfl⟩
end
/-- What of the frames is turned: the rows' block. -/
def FrOut (w w' : World) (fb lb cap : Nat) (F' : Fs) : Prop := FrAt w' fb lb cap F' ∧ But (fun k => k = lb) w w'
section
variable {w : World} {fb lb cap : Nat} {F : Fs}
/-- One more has frame k, if it is not free. -/
def shareF (F : Fs) (k : Int) : Fs := if 0 ≤ k ∧ k < F.n ∧ F.r k.toNat ≠ 0 then F.setR k.toNat (F.r k.toNat + 1) else F

set_option maxRecDepth 100000 in
set_option maxHeartbeats 2000000 in
theorem frShare_any (h : FrAt w fb lb cap F) (k : Int) (htop : 0 ≤ k → F.r k.toNat < 1000000) :
    Calls Try.prog 39 #[.pointer (some ⟨fb, 0, none⟩), .int .i64 k] w fun e w' => e = .returned (.int .i64 (mayE F k)) ∧ FrOut w w' fb lb cap (shareF F k) := by
  have HM := Lib.hid (frMay_any h k)
  have HH := Lib.hid h
  have c0 := h.slice
  have hlt := h.p.lt
  have hlt2 := h.lt.2
  by_cases hm : 0 ≤ k ∧ k < F.n ∧ F.r k.toNat ≠ 0
  · have he : mayE F k = 0 := if_pos hm
    have hs : shareF F k = F.setR k.toNat (F.r k.toNat + 1) := if_pos hm
    obtain ⟨k, rfl⟩ := Int.eq_ofNat_of_zero_le hm.1
    rw [Int.toNat_natCast] at hs
    have ht : F.r k < 1000000 := htop (by omega)
    rw [he] at HM ⊢
    rw [hs]
    have hk : k < F.n := by omega
    have hki : (k : Int) < (F.n : Int) := by omega
    have cr := h.refs hk
    have cf := h.frozen (k * 65 + 64)
    have HF := Lib.hid (show FrAt (w.setCell ⟨lb, k * 65 + 64, none⟩ (.int .i64 ((F.r k : Int) + 1))) fb lb cap (F.setR k (F.r k + 1)) from
      h.put hk (by omega) _ (by rw [show ((F.r k : Int) + 1) = ((F.r k + 1 : Nat) : Int) from by omega]; exact frows_setR h.ok k _) rfl (h.ok.setR hk (by omega)))
    clear h he hm hs htop
    go_enter Try.func39, Try.ntmps39
    go_wp2_with (fail)
    refine HM.out.mono ?_
    rintro e _ ⟨rfl, rfl⟩
    go_wp2
    go_ret
    exact ⟨rfl, HF.out, But.setCell (S := fun k => k = lb) (But.refl _ w) (p := ⟨lb, k * 65 + 64, none⟩) (.inl rfl) _⟩
  · have he : mayE F k = 41 := if_neg hm
    have hs : shareF F k = F := if_neg hm
    rw [he] at HM ⊢
    rw [hs]
    clear h he hm hs htop
    go_enter Try.func39, Try.ntmps39
    go_wp2_with (fail)
    refine HM.out.mono ?_
    rintro e _ ⟨rfl, rfl⟩
    go_wp2
    go_ret
    exact ⟨rfl, HH.out, But.refl _ _⟩
end
end Go.Proofs.Ytolejpbdbjkndaa

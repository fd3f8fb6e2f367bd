/-
  Take of frames: the least free one. Condition: the frames lie in blocks of their own.
-/
import Derived.Test.YtlecfdchmcghlaaFr4
namespace Go.Proofs.Ytlecfdchmcghlaa
open Go.RowKit Go.Lib
set_option linter.unusedVariables false
set_option linter.unusedSimpArgs false

theorem bl_step {v W X : World} (h : Below v.heap.size v W) (h2 : Below W.heap.size W X) : Below v.heap.size v X := h.trans (h2.mono h.size)
section
variable {w : World} {fb lb cap : Nat} {F : Fs}
set_option maxRecDepth 100000 in
set_option maxHeartbeats 2000000 in
theorem take1_any (F : Fs) (hok : F.Ok) (k : Nat) (w : World) :
    Calls Try.prog 44 #[.agg (frow F k).toArray] w fun e w' => e = .returned (.bool (decide (F.r k = 0))) ∧ Below w.heap.size w w' := by
  have hb := Blk.new w 99 (frow F k).toArray
  have hc := (hb.cell 64).trans (show (frow F k).toArray[64]? = some (.int .i64 (F.r k)) from by rw [List.getElem?_toArray]; exact frow_refs hok k)
  have hlt := hb.lt
  have HB := Lib.hid (bl_new (Below.refl w.heap.size w) (.cells (frow F k).toArray 99))
  clear hb
  generalize (frow F k).toArray = cs at *
  by_cases hr : F.r k = 0
  · rw [decide_eq_true hr]
    rw [hr] at hc
    go_enter Try.func44, Try.ntmps44
    go_wp2
    go_ret
    exact ⟨rfl, HB.out⟩
  · rw [decide_eq_false hr]
    have hrn : ((F.r k : Int) == 0) = false := by simpa using (show (F.r k : Int) ≠ 0 by omega)
    go_enter Try.func44, Try.ntmps44
    go_wp2
    go_ret
    exact ⟨rfl, HB.out⟩
/-- The least free frame. -/
def freeK (F : Fs) : Option Nat := (List.range F.n).find? (fun k => decide (F.r k = 0))
def freeI (F : Fs) : Int := match freeK F with
  | some k => k
  | none => -1
theorem freeK_hit {F : Fs} {k : Nat} (hk : k < F.n) (hr : F.r k = 0) (h : ∀ j, j < k → F.r j ≠ 0) : freeK F = some k := by
  unfold freeK
  rw [List.find?_range_eq_some]
  refine ⟨by simpa using hr, by simpa using hk, fun j hj => by simpa using h j hj⟩
theorem freeK_miss {F : Fs} (h : ∀ j, j < F.n → F.r j ≠ 0) : freeK F = none := by
  unfold freeK
  rw [List.find?_eq_none]
  intro k hk
  rw [List.mem_range] at hk
  simpa using h k hk
theorem freeK_some {F : Fs} {k : Nat} (h : freeK F = some k) : k < F.n ∧ F.r k = 0 := by
  unfold freeK at h
  rw [List.find?_range_eq_some] at h
  exact ⟨by simpa using h.2.1, by simpa using h.1⟩
theorem rangeAt_frow (h : FrAt w fb lb cap F) {k : Nat} (hk : k < F.n) : w.rangeAt lb (k * 65) (frow F k) := fun j v hv => by
  have hj := (List.getElem?_eq_some_iff.1 hv).1
  rw [frow_len h.ok] at hj
  exact (frow_cell h hk hj).trans hv

set_option maxRecDepth 100000 in
set_option maxHeartbeats 4000000 in
theorem idx_any (h : FrAt w fb lb cap F) :
    Calls Try.prog 43 #[.slice (some ⟨lb, 0, none⟩) F.n cap, .func (.func 44) #[] #[]] w fun e w' => e = .returned (.int .i64 (freeI F)) ∧ Below w.heap.size w w' := by
  have HH := Lib.hid h
  have hpos := h.ok.pos
  have HT := Lib.hid (fun k W => take1_any F h.ok k W)
  clear h
  obtain ⟨r, hr⟩ : ∃ r, freeI F = r := ⟨_, rfl⟩
  rw [hr]
  have HR := Lib.hid hr
  clear hr
  go_enter Try.func43, Try.ntmps43
  go_wp2_with (fail)
  go_loopw [5, 8] (fun u v wr => ∃ k : Nat, v = .int .i64 (k : Int) ∧ k ≤ F.n ∧ Hid (∀ j, j < k → F.r j ≠ 0) ∧ Hid (Below w.heap.size w wr)) (fun _ v _ => F.n - (intOf v).toNat)
  case atStart => exact ⟨0, rfl, Nat.zero_le _, Lib.hid (fun j hj => absurd hj (Nat.not_lt_zero _)), Lib.hid (Below.refl _ _)⟩
  case round =>
    obtain ⟨k, rfl, hk, HA, HB⟩ := hrel
    by_cases hkn : k < F.n
    · have hki : (k : Int) < (F.n : Int) := by omega
      have HW := Lib.hid (HH.out.below HB.out)
      have hlt := HW.out.lt.2
      have HC := Lib.hid (HT.out k wr)
      go_wp2_with (refine wpList_load_mid rfl _ _ rfl lb (k * 65) rfl (frow F k) _ (rangeAt_frow HW.out hkn) Try.underlying99 rfl (by rw [frow_len HW.out.ok]; kernel_rfl) ?_)
      by_cases hr0 : F.r k = 0
      · have e : r = (k : Int) := by rw [← HR.out]; unfold freeI; rw [freeK_hit hkn hr0 HA.out]
        subst e
        rw [decide_eq_true hr0] at HC
        refine HC.out.mono ?_
        rintro e W1 ⟨rfl, hb1⟩
        go_wp2
        go_ret
        exact ⟨rfl, bl_step HB.out hb1⟩
      · rw [decide_eq_false hr0] at HC
        refine HC.out.mono ?_
        rintro e W1 ⟨rfl, hb1⟩
        go_wp2
        exact ⟨⟨k + 1, by simp, by omega, Lib.hid (fun j hj => by
          by_cases hjk : j = k
          · rw [hjk]; exact hr0
          · exact HA.out j (by omega)), Lib.hid (bl_step HB.out hb1)⟩, by simp [intOf]; omega⟩
    · have hki : ¬ (k : Int) < (F.n : Int) := by omega
      have hkk : k = F.n := by omega
      subst hkk
      have e : r = -1 := by rw [← HR.out]; unfold freeI; rw [freeK_miss HA.out]
      subst e
      go_wp2
      go_ret
      exact ⟨rfl, HB.out⟩
/-- The least free one is taken. -/
def takeF (F : Fs) : Fs := match freeK F with
  | some k => F.setR k 1
  | none => F
def takeN (F : Fs) : Int := match freeK F with
  | some k => k
  | none => 0
def takeE (F : Fs) : Int := if (freeK F).isSome then 0 else 40

set_option maxRecDepth 100000 in
set_option maxHeartbeats 4000000 in
theorem frTake_any (h : FrAt w fb lb cap F) :
    Calls Try.prog 26 #[.pointer (some ⟨fb, 0, none⟩)] w fun e w' => e = .returned (.tuple #[.int .i64 (takeN F), .int .i64 (takeE F)]) ∧ FrOut w w' fb lb cap (takeF F) := by
  have HH := Lib.hid h
  have HI := Lib.hid (idx_any h)
  have c0 := h.slice
  have hlt := h.p.lt
  have hpos := h.ok.pos
  have hn0 : ((F.n : Int) == 0) = false := by simpa using (show (F.n : Int) ≠ 0 by omega)
  unfold takeN takeE takeF
  unfold freeI at HI
  cases hf : freeK F with
  | none =>
    rw [hf] at HI
    dsimp only at HI ⊢
    clear h
    go_enter Try.func26, Try.ntmps26
    go_wp2_with (fail)
    refine HI.out.mono ?_
    rintro e W1 ⟨rfl, hb1⟩
    have HF := Lib.hid (HH.out.below hb1)
    have HB := Lib.hid (But.of_below (S := fun k => k = lb) hb1)
    clear hb1
    go_wp2
    go_ret2
    exact ⟨rfl, HF.out, HB.out⟩
  | some k =>
    obtain ⟨hk, hr⟩ := freeK_some hf
    rw [hf] at HI
    dsimp only at HI ⊢
    have hki : (k : Int) < (F.n : Int) := by omega
    clear h
    go_enter Try.func26, Try.ntmps26
    go_wp2_with (fail)
    refine HI.out.mono ?_
    rintro e W1 ⟨rfl, hb1⟩
    have HF := Lib.hid (HH.out.below hb1)
    have HB := Lib.hid (But.of_below (S := fun k => k = lb) hb1)
    clear hb1 c0 hlt
    have c0 := HF.out.slice
    have hlt := HF.out.p.lt
    have hlt2 := HF.out.lt.2
    have cr := HF.out.refs hk
    have cf := HF.out.frozen (k * 65 + 64)
    have HP := Lib.hid (show FrAt (W1.setCell ⟨lb, k * 65 + 64, none⟩ (.int .i64 1)) fb lb cap (F.setR k 1) from HF.out.putR (k := k) (v := 1) hk (by decide))
    go_wp2
    go_ret2
    exact ⟨rfl, HP.out, HB.out.setCell (p := ⟨lb, k * 65 + 64, none⟩) (.inl rfl) _⟩
end
end Go.Proofs.Ytlecfdchmcghlaa

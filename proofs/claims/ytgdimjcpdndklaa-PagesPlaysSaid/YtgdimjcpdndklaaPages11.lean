/-
  Walks over package pages: Copy.
-/
import Derived.Deep.WholeRow
import Derived.Test.YtgdimjcpdndklaaPages10
namespace Go.Proofs.Ytgdimjcpdndklaa
open Go.RowKit
set_option linter.unusedVariables false

/-- The copy's parts, so many of them made. -/
structure Half (w : World) (base bo : Nat) (q q' : Nat → Option Nat) (m : M) (k : Nat) : Prop where
  top : Blk w bo 49 (tabArr q')
  later : ∀ i, k ≤ i → q' i = none
  same : ∀ i, i < k → (q' i).isSome = (q i).isSome
  part : ∀ i b, i < 8 → q' i = some b → Blk w b 70 (partArr m i) ∧ base ≤ b
  inj : ∀ i j b, i < 8 → j < 8 → q' i = some b → q' j = some b → i = j

theorem Half.step {wr : World} {base bo : Nat} {q q' : Nat → Option Nat} {m : M} {k : Nat} (h : Half wr base bo q q' m k) (hk : k < 8) {b : Nat} (hq : q k = some b) (hb : base ≤ wr.heap.size) :
    Half ((wr.setCell ⟨bo, k, none⟩ (.pointer (some ⟨wr.heap.size, 0, none⟩))).alloc (.cells (partArr m k) 70)) base bo q (qset q' k (some wr.heap.size)) m (k + 1) := by
  have hlt := h.top.lt
  have hsz : (wr.setCell ⟨bo, k, none⟩ (.pointer (some ⟨wr.heap.size, 0, none⟩))).heap.size = wr.heap.size := by simp [World.setCell]
  have h1 : Blk (wr.setCell ⟨bo, k, none⟩ (.pointer (some ⟨wr.heap.size, 0, none⟩))) bo 49 (tabArr (qset q' k (some wr.heap.size))) := by
    have := h.top.set_ k (ptrV (some wr.heap.size))
    rw [tabArr_set q' hk] at this
    exact this
  have h2 := Blk.new (wr.setCell ⟨bo, k, none⟩ (.pointer (some ⟨wr.heap.size, 0, none⟩))) 70 (partArr m k)
  rw [hsz] at h2
  refine ⟨h1.alloc _, fun i hi => ?_, fun i hi => ?_, fun i c hi hc => ?_, fun i j c hi hj hc hc' => ?_⟩
  · unfold qset; rw [if_neg (by omega)]; exact h.later i (by omega)
  · unfold qset
    by_cases hik : i = k
    · subst hik; rw [if_pos rfl, hq]; rfl
    · rw [if_neg hik]; exact h.same i (by omega)
  · by_cases hik : i = k
    · subst hik
      simp only [qset, if_true, Option.some.injEq] at hc
      subst hc
      exact ⟨h2, hb⟩
    · simp only [qset, if_neg hik] at hc
      obtain ⟨hp, hc2⟩ := h.part i c hi hc
      exact ⟨(hp.far (p := ⟨bo, k, none⟩) (hp.ne_ h.top (by decide)) _).alloc _, hc2⟩
  · by_cases hik : i = k <;> by_cases hjk : j = k
    · omega
    · simp only [qset, if_neg hjk, hik, if_true, Option.some.injEq] at hc hc'
      have := (h.part j c hj hc').1.lt
      omega
    · simp only [qset, if_neg hik, hjk, if_true, Option.some.injEq] at hc hc'
      have := (h.part i c hi hc).1.lt
      omega
    · simp only [qset, if_neg hik, if_neg hjk] at hc hc'
      exact h.inj _ _ _ hi hj hc hc'
theorem Half.tab {w wr : World} {base bo bt : Nat} {q q' : Nat → Option Nat} {m : M} (h : Half wr base bo q q' m 8) (hT : Tab w bt q m) : Tab wr bo q' m := by
  refine ⟨h.top, fun i b hi hb => (h.part i b hi hb).1, fun i b hi hb => ?_, fun i j hi hn hj => ?_, h.inj⟩
  · have hs := h.same i hi
    rw [hb] at hs
    obtain ⟨b', hb'⟩ := Option.isSome_iff_exists.1 hs.symm
    exact hT.some_ i b' hi hb'
  · have hs := h.same i hi
    rw [hn] at hs
    have : q i = none := by cases hq : q i with | none => rfl | some _ => rw [hq] at hs; cases hs
    exact hT.none_ i j hi this hj

theorem oneCell_part (m : M) (i : Nat) : (partArr m i).all (·.oneCell') = true := by
  unfold partArr partList
  rw [List.all_toArray]
  simp only [List.all_append, Bool.and_eq_true]
  have h : ∀ o, (slotList o).all (·.oneCell') = true := by intro o; cases o <;> rfl
  simp [h]

set_option maxHeartbeats 1000000 in
theorem copy_any {w : World} {bt : Nat} {q : Nat → Option Nat} {m : M} (h : Tab w bt q m) : Calls Try.prog 26 #[.pointer (some ⟨bt, 0, none⟩)] w
    fun e w' => ∃ q', e = .returned (.pointer (some ⟨w.heap.size, 0, none⟩)) ∧ Tab w' w.heap.size q' m ∧ Below w.heap.size w w' ∧ ∀ k, Own w.heap.size q' k → w.heap.size ≤ k := by
  have HI := Lib.hid (fun (k : Nat) (hk : k < 8) (W : World) => index_tab q hk W)
  have h0 := h.alloc (.cells #[.pointer none, .pointer none, .pointer none, .pointer none, .pointer none, .pointer none, .pointer none, .pointer none] 49)
  have hT := Lib.hid h
  have hne : bt < w.heap.size := h.top.lt
  clear h
  go_enter Try.func26, Try.ntmps26
  go_wp2_with (refine wpList_load_row rfl _ _ rfl bt rfl 49 _ _ _ h0.top Try.underlying47 rfl (info_tab _) ?_)
  go_loopw [15] (fun c wr => ∃ (k : Nat) (q' : Nat → Option Nat), k ≤ 8 ∧ c = .int .i64 k ∧ Half wr w.heap.size w.heap.size q q' m k ∧ Below w.heap.size w wr) (fun c _ => 8 - (intOf c).toNat)
  case atStart =>
    exact ⟨0, fun _ => none, by omega, rfl, ⟨Blk.new w _ _, fun _ _ => rfl, fun i hi => by omega, fun i b _ hb => (by cases hb), fun i j b _ _ hb => (by cases hb)⟩, (Below.refl _ _).alloc (Nat.le_refl _) _⟩
  case round =>
    obtain ⟨k, q', hk, rfl, hH, hB⟩ := hrel
    by_cases hlt : k < 8
    · have hi := HI.out k hlt
      cases hqk : q k with
      | none =>
        rw [hqk] at hi
        simp only [ptrV, Option.map_none] at hi
        have hN : Half wr w.heap.size w.heap.size q q' m (k + 1) := ⟨hH.top, fun i hi => hH.later i (by omega), fun i hi => by
          by_cases hik : i = k
          · subst hik; rw [hqk, hH.later i (Nat.le_refl _)]
          · exact hH.same i (by omega), hH.part, hH.inj⟩
        clear hqk hH
        go_wp2
        go_roundw
        case rel => exact ⟨k + 1, q', by omega, by go_num, hN, hB⟩
        case measure => simp [intOf]; omega
      | some b =>
        rw [hqk] at hi
        simp only [ptrV, Option.map_some] at hi
        have hpt := (hT.out.part k b hlt hqk).below hB (hT.out.part k b hlt hqk).lt
        have HQ := Lib.hid hqk
        have hst := run_storeCells_new (P := Try.prog) wr 70 (partArr (fun _ => none) 0) (partArr m k) (info_part _ _) (by rw [partArr_size, partArr_size]) (oneCell_part _ _)
        simp only [show partArr (fun _ => none) 0 = (#[.int .i64 0, .bool false, .bool false, .bool false, .bool false, .bool false, .int .i64 0, .bool false, .bool false, .bool false, .bool false, .bool false, .int .i64 0, .bool false, .bool false, .bool false, .bool false, .bool false, .int .i64 0, .bool false, .bool false, .bool false, .bool false, .bool false, .int .i64 0, .bool false, .bool false, .bool false, .bool false, .bool false, .int .i64 0, .bool false, .bool false, .bool false, .bool false, .bool false, .int .i64 0, .bool false, .bool false, .bool false, .bool false, .bool false, .int .i64 0, .bool false, .bool false, .bool false, .bool false, .bool false] : Array Value) from rfl] at hst
        have hps := partArr_size m k
        have hF := hH.top.frozen k
        have hC := hH.top.cell k
        rw [tabArr_at q' hlt, hH.later k (Nat.le_refl _)] at hC
        simp only [ptrV, Option.map_none] at hC
        have hlt0 := hH.top.lt
        clear hqk
        go_wp2_with (refine wpList_load_row rfl _ _ rfl b rfl 70 _ _ _ hpt Try.underlying70 rfl (info_part _ _) ?_)
        go_roundw
        case rel =>
          have hsz := hB.size
          exact ⟨k + 1, _, by omega, by go_num, hH.step hlt HQ.out hsz, (hB.setCell (p := ⟨w.heap.size, k, none⟩) (Nat.le_refl _) _).alloc (by simp [World.setCell]; omega) _⟩
        case measure => simp [intOf]; omega
    · have h8 : k = 8 := by omega
      subst h8
      have ht := hH.tab hT.out
      have hp := hH.part
      have HP := Lib.hid hp
      clear hH hp
      go_wp2
      go_ret
      refine ⟨q', rfl, ht, hB, fun j hj => ?_⟩
      rcases hj with rfl | ⟨i, hi, hq⟩
      · exact Nat.le_refl _
      · exact (HP.out i j hi hq).2
theorem copy_nil {w : World} : Calls Try.prog 26 #[.pointer none] w fun e w' => e = .returned (.pointer none) ∧ w = w' := by
  go_enter Try.func26, Try.ntmps26
  go_wp2
  go_ret
  exact ⟨rfl, rfl⟩
end Go.Proofs.Ytgdimjcpdndklaa

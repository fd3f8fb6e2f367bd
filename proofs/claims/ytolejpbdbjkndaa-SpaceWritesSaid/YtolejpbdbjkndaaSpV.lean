/-
  The law SpaceMaps, walked. Condition: the calls lie in memory.
-/
import Derived.Test.YtolejpbdbjkndaaSpU
namespace Go.Proofs.Ytolejpbdbjkndaa
open Go.RowKit Go.Shelf Go.Deep
set_option linter.unusedVariables false
set_option linter.unusedSimpArgs false
attribute [local go_sem] Oper.semAt_some

theorem run_storeCells_pg {vl : List Value} (hl : vl.length = 64) (h1 : ∀ v ∈ vl, v.oneCell' = true) (w : World) : (storeCells ⟨w.heap.size, 0, none⟩ vl).run Try.prog (w.alloc (.cells (List.replicate 64 (Value.string ByteArray.empty)).toArray 41)) = .ok () (w.alloc (.cells vl.toArray 41)) :=
  run_storeCells_new (P := Try.prog) w 41 (List.replicate 64 (Value.string ByteArray.empty)).toArray vl.toArray (by rw [show vl.toArray.size = 64 from by rw [List.size_toArray, hl]]; kernel_rfl) (by show 64 = vl.toArray.size; rw [List.size_toArray, hl]) (all_oneCell_toArray h1)
theorem eqMapped (p f : Int) (a b c d : Bool) (W : World) : (Op.equalIn 10000 62 (.agg #[.int .i64 p, .int .i64 f, .bool a, .bool b, .bool c, .bool d]) (.agg #[.int .i64 p, .int .i64 f, .bool a, .bool b, .bool c, .bool d])).run Try.prog W = .ok true W := by
  rw [show (10000 : Nat) = 9999 + 1 from rfl, run_equalIn_agg W 9999 62 _ _ (by kernel_rfl) Try.stoodInHeld62]
  have a1 := Try.isAgg35
  have a2 := Try.sizeOf35
  have a3 := Try.isAgg3
  simp only [Program.fieldsOf, Try.underlying62]
  have h := fun w => eqEntry ⟨f, a, b, c, d⟩ ⟨f, a, b, c, d⟩ 9997 w
  simp only [E.arr] at h
  go_simp
/-- What the law needs of the pages that are kept. -/
structure PgKept (F : Fs) (m : M) (vl : List Value) : Prop where
  len : vl.length = 64
  one : ∀ v ∈ vl, v.oneCell' = true
  v : pgV F m = .agg vl.toArray
  eq : ∀ w, (Op.equalIn 10000 41 (.agg vl.toArray) (.agg vl.toArray)).run Try.prog w = .ok true w
  none_ : ∀ p, p < 64 → pageP F m p = [] → vl[p]? = some (.string ByteArray.empty)
theorem pgKept (F : Fs) (m : M) : ∃ vl, PgKept F m vl := by
  refine ⟨pgL F m 64, pgL_len _ _ _, pgL_one _ _ _, rfl, fun w => eq_pages F m w, fun p hp h => ?_⟩
  unfold pgL
  rw [List.getElem?_map, List.getElem?_range hp]
  show some (if p < 64 then Value.string _ else Value.string _) = _
  rw [if_pos hp, h]; rfl

set_option maxRecDepth 100000 in
set_option maxHeartbeats 4000000 in
theorem mapsWalk {w : World} (many : Int) (A : Option Addr) (c : Nat) (l : List OpR) (hO : OpsA w A l) (hl : l.length ≤ maxLen) (page n : Int) (hpg : -9223372036854775808 ≤ page ∧ page ≤ 9223372036854775807) (hn : -9223372036854775808 ≤ n ∧ n ≤ 9223372036854775807) (write shared : Bool) :
    Calls Try.prog 6 #[.int .i64 many, .slice A l.length c, .int .i64 page, .int .i64 n, .bool write, .bool shared] w fun e w' => e = .returned (.bool true) ∧ Below w.heap.size w w' := by
  have hml : maxLen ≤ 9223372036854775807 := by decide
  have HO := Lib.hid hO
  have HGL := Lib.hid hl
  clear hO
  go_enter Try.func6, Try.ntmps6
  go_wp2_with (fail)
  refine alive_any.mono ?_
  rintro e W1 ⟨rfl, hb1⟩
  have HB1 := Lib.hid hb1
  clear hb1
  by_cases hmany : 1 ≤ many ∧ many ≤ 256
  case neg =>
    have HMB := Lib.hid (frNew_bad (w := W1) many (by omega))
    clear hmany
    go_wp2_with (fail)
    refine HMB.out.mono ?_
    rintro e _ ⟨rfl, rfl⟩
    go_wp2_with (fail)
    refine (great_any c (HO.out.below HB1.out) HGL.out 30).mono ?_
    rintro e _ ⟨r, rfl, hr, rfl⟩
    clear hr
    by_cases h0 : 0 < r
    · go_wp2
      go_ret
      exact ⟨rfl, HB1.out⟩
    · by_cases h40 : 40 < many
      · go_wp2
        go_ret
        exact ⟨rfl, HB1.out⟩
      · go_wp2
        go_ret
        exact ⟨rfl, HB1.out⟩
  obtain ⟨N, rfl⟩ := Int.eq_ofNat_of_zero_le (show 0 ≤ many by omega)
  have hN1 : 1 ≤ N ∧ N ≤ 256 := by omega
  clear hmany
  go_wp2_with (fail)
  refine (asFrames N hN1).mono ?_
  rintro e W2 ⟨fb, lb, rfl, hf, hb2, g1, g2⟩
  have HF2 := Lib.hid hf
  have HB2 := Lib.hid (bl_step HB1.out hb2)
  have HG := Lib.hid (show w.heap.size ≤ fb ∧ w.heap.size ≤ lb from ⟨Nat.le_trans HB1.out.size g1, Nat.le_trans HB1.out.size g2⟩)
  clear hf hb2 g1 g2
  go_wp2_with (fail)
  refine (great_any c (HO.out.below HB2.out) HGL.out 30).mono ?_
  rintro e _ ⟨r, rfl, hr, rfl⟩
  by_cases h0 : 0 < r
  case pos =>
    clear hr
    go_wp2
    go_ret
    exact ⟨rfl, HB2.out⟩
  have HGR := Lib.hid (greatL_no (show greatL l 30 = false from by
    cases hg : greatL l 30
    · rfl
    · exact absurd (hr.2 hg) h0))
  clear hr
  by_cases h40 : 40 < (N : Int)
  case pos =>
    go_wp2
    go_ret
    exact ⟨rfl, HB2.out⟩
  go_wp2_with (fail)
  refine (msSpace HF2.out hN1 HB2.out HG.out.1 HG.out.2).mono ?_
  rintro e W3 ⟨so, rfl, hM⟩
  have HM3 := Lib.hid hM
  clear hM HF2 HB2 HG HB1 hN1 h40 h0
  go_wp2_with (fail)
  go_loopw [17] (fun i wr => ∃ k : Nat, i = .int .i64 (k : Int) ∧ k ≤ l.length ∧ ∃ F m, Hid (MS w wr fb F so m)) (fun i _ => l.length - (intOf i).toNat)
  case atStart => exact ⟨0, rfl, Nat.zero_le _, _, _, HM3⟩
  case round =>
    clear HM3
    obtain ⟨k, rfl, hk, F, m, HM⟩ := hrel
    by_cases hkl : k < l.length
    case pos =>
      have hki : (k : Int) < (l.length : Int) := by omega
      have hxe : l[k]? = some l[k] := List.getElem?_eq_getElem hkl
      have hmem : l[k] ∈ l := List.getElem_mem hkl
      obtain ⟨b, off, rfl, hlt, c0, c1, c2, c3, c4, c5, c6, c8⟩ := op_at HO.out hxe
      have HX := Lib.hid (HO.out.2 _ hmem)
      have HX3 := Lib.hid (HGR.out.2 _ hmem)
      generalize l[k] = x at *
      obtain ⟨xk, xwho, xp, xn, xwr, xsh, xa, xwd, xA, xc, xbs, xx⟩ := x
      simp only at c2 c3 c4 c5 c6 c8 HX HX3
      have HFX := Lib.hid (fun W1 (hb : Below w.heap.size w W1) => (show W1.cell? ⟨b, off + k * 14 + 2, none⟩ = some (.int .i64 xp) ∧ W1.cell? ⟨b, off + k * 14 + 3, none⟩ = some (.int .i64 xn) ∧ W1.cell? ⟨b, off + k * 14 + 4, none⟩ = some (.bool xwr) ∧ W1.cell? ⟨b, off + k * 14 + 5, none⟩ = some (.bool xsh) ∧ W1.cell? ⟨b, off + k * 14 + 6, none⟩ = some (.int .u32 xa) ∧ W1.cell? ⟨b, off + k * 14 + 8, none⟩ = some (.slice xA xbs.length xc) from
        ⟨(hb.cell hlt).trans c2, (hb.cell hlt).trans c3, (hb.cell hlt).trans c4, (hb.cell hlt).trans c5, (hb.cell hlt).trans c6, (hb.cell hlt).trans c8⟩))
      clear c0 c1 c2 c3 c4 c5 c6 c8 hxe hmem
      have HMP := Lib.hid (msMap HM.out.drew xp xn xwr xsh)
      generalize mapA F m xp xn xwr xsh = r1 at *
      go_wp2_with (fail)
      refine wp_region_held_drew (S := fun w' => Below w.heap.size w w') (by kernel_rfl) (HM.out.lo.drew) (fun hS => ?_)
      refine wpAnyH_takeD (i := 0) (v := ?_) rfl (by kernel_rfl) (by kernel_rfl) (by kernel_rfl) (fun _ _ _ h => h) (Or.inl ⟨by kernel_rfl, ?_⟩) hS ?_
      rotate_left 1
      · intro w hS
        obtain ⟨d2, d3, d4, d5, d6, d8⟩ := HFX.out _ hS
        go_simp
        all_goals with_reducible rfl
      try simp only [Act.put, List.setIfInBounds_toArray, List.set_cons_zero, List.set_cons_succ]
      refine wpAnyH_takeD (i := 1) (v := ?_) rfl (by kernel_rfl) (by kernel_rfl) (by kernel_rfl) (fun _ _ _ h => h) (Or.inl ⟨by kernel_rfl, ?_⟩) hS ?_
      rotate_left 1
      · intro w hS
        obtain ⟨d2, d3, d4, d5, d6, d8⟩ := HFX.out _ hS
        go_simp
        all_goals with_reducible rfl
      try simp only [Act.put, List.setIfInBounds_toArray, List.set_cons_zero, List.set_cons_succ]
      refine wpAnyH_takeD (i := 2) (v := ?_) rfl (by kernel_rfl) (by kernel_rfl) (by kernel_rfl) (fun _ _ _ h => h) (Or.inl ⟨by kernel_rfl, ?_⟩) hS ?_
      rotate_left 1
      · intro w hS
        obtain ⟨d2, d3, d4, d5, d6, d8⟩ := HFX.out _ hS
        go_simp
        all_goals with_reducible rfl
      try simp only [Act.put, List.setIfInBounds_toArray, List.set_cons_zero, List.set_cons_succ]
      refine wpAnyH_takeD (i := 3) (v := ?_) rfl (by kernel_rfl) (by kernel_rfl) (by kernel_rfl) (fun _ _ _ h => h) (Or.inl ⟨by kernel_rfl, ?_⟩) hS ?_
      rotate_left 1
      · intro w hS
        obtain ⟨d2, d3, d4, d5, d6, d8⟩ := HFX.out _ hS
        go_simp
        all_goals with_reducible rfl
      try simp only [Act.put, List.setIfInBounds_toArray, List.set_cons_zero, List.set_cons_succ]
      refine wpAnyH_takeD (i := 4) (v := ?_) rfl (by kernel_rfl) (by kernel_rfl) (by kernel_rfl) (fun _ _ _ h => h) (Or.inl ⟨by kernel_rfl, ?_⟩) hS ?_
      rotate_left 1
      · intro w hS
        obtain ⟨d2, d3, d4, d5, d6, d8⟩ := HFX.out _ hS
        go_simp
        all_goals with_reducible rfl
      try simp only [Act.put, List.setIfInBounds_toArray, List.set_cons_zero, List.set_cons_succ]
      refine wpAnyH_takeD (i := 5) (v := ?_) rfl (by kernel_rfl) (by kernel_rfl) (by kernel_rfl) (fun _ _ _ h => h) (Or.inl ⟨by kernel_rfl, ?_⟩) hS ?_
      rotate_left 1
      · intro w hS
        obtain ⟨d2, d3, d4, d5, d6, d8⟩ := HFX.out _ hS
        go_simp
        all_goals with_reducible rfl
      try simp only [Act.put, List.setIfInBounds_toArray, List.set_cons_zero, List.set_cons_succ]
      refine wpAnyH_takeD (i := 6) (v := ?_) rfl (by kernel_rfl) (by kernel_rfl) (by kernel_rfl) (fun _ _ _ h => h) (Or.inl ⟨by kernel_rfl, ?_⟩) hS ?_
      rotate_left 1
      · intro w hS
        obtain ⟨d2, d3, d4, d5, d6, d8⟩ := HFX.out _ hS
        go_simp
        all_goals with_reducible rfl
      try simp only [Act.put, List.setIfInBounds_toArray, List.set_cons_zero, List.set_cons_succ]
      refine wpAnyH_takeD (i := 7) (v := ?_) rfl (by kernel_rfl) (by kernel_rfl) (by kernel_rfl) (fun _ _ _ h => h) (Or.inl ⟨by kernel_rfl, ?_⟩) hS ?_
      rotate_left 1
      · intro w hS
        obtain ⟨d2, d3, d4, d5, d6, d8⟩ := HFX.out _ hS
        go_simp
        all_goals with_reducible rfl
      try simp only [Act.put, List.setIfInBounds_toArray, List.set_cons_zero, List.set_cons_succ]
      refine wpAnyH_takeD (i := 8) (v := ?_) rfl (by kernel_rfl) (by kernel_rfl) (by kernel_rfl) (fun _ _ _ h => h) (Or.inl ⟨by kernel_rfl, ?_⟩) hS ?_
      rotate_left 1
      · intro w hS
        obtain ⟨d2, d3, d4, d5, d6, d8⟩ := HFX.out _ hS
        go_simp
        all_goals with_reducible rfl
      try simp only [Act.put, List.setIfInBounds_toArray, List.set_cons_zero, List.set_cons_succ]
      refine wpAnyH_takeD (i := 9) (v := ?_) rfl (by kernel_rfl) (by kernel_rfl) (by kernel_rfl) (fun _ _ _ h => h) (Or.inl ⟨by kernel_rfl, ?_⟩) hS ?_
      rotate_left 1
      · intro w hS
        obtain ⟨d2, d3, d4, d5, d6, d8⟩ := HFX.out _ hS
        go_simp
        all_goals with_reducible rfl
      try simp only [Act.put, List.setIfInBounds_toArray, List.set_cons_zero, List.set_cons_succ]
      refine wpAnyH_takeD (i := 10) (v := ?_) rfl (by kernel_rfl) (by kernel_rfl) (by kernel_rfl) (fun _ _ _ h => h) (Or.inl ⟨by kernel_rfl, ?_⟩) hS ?_
      rotate_left 1
      · intro w hS
        obtain ⟨d2, d3, d4, d5, d6, d8⟩ := HFX.out _ hS
        go_simp
        all_goals with_reducible rfl
      try simp only [Act.put, List.setIfInBounds_toArray, List.set_cons_zero, List.set_cons_succ]
      refine wpAnyH_takeD (i := 11) (v := ?_) rfl (by kernel_rfl) (by kernel_rfl) (by kernel_rfl) (fun _ _ _ h => h) (Or.inl ⟨by kernel_rfl, ?_⟩) hS ?_
      rotate_left 1
      · intro w hS
        obtain ⟨d2, d3, d4, d5, d6, d8⟩ := HFX.out _ hS
        go_simp
        all_goals with_reducible rfl
      try simp only [Act.put, List.setIfInBounds_toArray, List.set_cons_zero, List.set_cons_succ]
      refine wpAnyH_takeD (i := 12) (v := ?_) rfl (by kernel_rfl) (by kernel_rfl) (by kernel_rfl) (fun _ _ _ h => h) (Or.inl ⟨by kernel_rfl, ?_⟩) hS ?_
      rotate_left 1
      · intro w hS
        obtain ⟨d2, d3, d4, d5, d6, d8⟩ := HFX.out _ hS
        go_simp
        all_goals with_reducible rfl
      try simp only [Act.put, List.setIfInBounds_toArray, List.set_cons_zero, List.set_cons_succ]
      refine wpAnyH_takeD (i := 13) (v := ?_) rfl (by kernel_rfl) (by kernel_rfl) (by kernel_rfl) (fun _ _ _ h => h) (Or.inl ⟨by kernel_rfl, ?_⟩) hS ?_
      rotate_left 1
      · intro w hS
        obtain ⟨d2, d3, d4, d5, d6, d8⟩ := HFX.out _ hS
        go_simp
        all_goals with_reducible rfl
      try simp only [Act.put, List.setIfInBounds_toArray, List.set_cons_zero, List.set_cons_succ]
      refine wpAnyH_takeD (i := 14) (v := ?_) rfl (by kernel_rfl) (by kernel_rfl) (by kernel_rfl) (fun _ _ _ h => h) (Or.inl ⟨by kernel_rfl, ?_⟩) hS ?_
      rotate_left 1
      · intro w hS
        obtain ⟨d2, d3, d4, d5, d6, d8⟩ := HFX.out _ hS
        go_simp
        all_goals with_reducible rfl
      try simp only [Act.put, List.setIfInBounds_toArray, List.set_cons_zero, List.set_cons_succ]
      refine wpAnyH_takeD (i := 15) (v := ?_) rfl (by kernel_rfl) (by kernel_rfl) (by kernel_rfl) (fun _ _ _ h => h) (Or.inl ⟨by kernel_rfl, ?_⟩) hS ?_
      rotate_left 1
      · intro w hS
        obtain ⟨d2, d3, d4, d5, d6, d8⟩ := HFX.out _ hS
        go_simp
        all_goals with_reducible rfl
      try simp only [Act.put, List.setIfInBounds_toArray, List.set_cons_zero, List.set_cons_succ]
      refine wpAnyH_takeD (i := 16) (v := ?_) rfl (by kernel_rfl) (by kernel_rfl) (by kernel_rfl) (fun _ _ _ h => h) (Or.inl ⟨by kernel_rfl, ?_⟩) hS ?_
      rotate_left 1
      · intro w hS
        obtain ⟨d2, d3, d4, d5, d6, d8⟩ := HFX.out _ hS
        go_simp
        all_goals with_reducible rfl
      try simp only [Act.put, List.setIfInBounds_toArray, List.set_cons_zero, List.set_cons_succ]
      refine wpAnyH_takeD (i := 17) (v := ?_) rfl (by kernel_rfl) (by kernel_rfl) (by kernel_rfl) (fun _ _ _ h => h) (Or.inl ⟨by kernel_rfl, ?_⟩) hS ?_
      rotate_left 1
      · intro w hS
        obtain ⟨d2, d3, d4, d5, d6, d8⟩ := HFX.out _ hS
        go_simp
        all_goals with_reducible rfl
      try simp only [Act.put, List.setIfInBounds_toArray, List.set_cons_zero, List.set_cons_succ]
      refine wpAnyH_takeD (i := 18) (v := ?_) rfl (by kernel_rfl) (by kernel_rfl) (by kernel_rfl) (fun _ _ _ h => h) (Or.inl ⟨by kernel_rfl, ?_⟩) hS ?_
      rotate_left 1
      · intro w hS
        obtain ⟨d2, d3, d4, d5, d6, d8⟩ := HFX.out _ hS
        go_simp
        all_goals with_reducible rfl
      try simp only [Act.put, List.setIfInBounds_toArray, List.set_cons_zero, List.set_cons_succ]
      refine wpAnyH_takeD (i := 19) (v := ?_) rfl (by kernel_rfl) (by kernel_rfl) (by kernel_rfl) (fun _ _ _ h => h) (Or.inl ⟨by kernel_rfl, ?_⟩) hS ?_
      rotate_left 1
      · intro w hS
        obtain ⟨d2, d3, d4, d5, d6, d8⟩ := HFX.out _ hS
        go_simp
        all_goals with_reducible rfl
      try simp only [Act.put, List.setIfInBounds_toArray, List.set_cons_zero, List.set_cons_succ]
      refine wpAnyH_takeD (i := 20) (v := ?_) rfl (by kernel_rfl) (by kernel_rfl) (by kernel_rfl) (fun _ _ _ h => h) (Or.inl ⟨by kernel_rfl, ?_⟩) hS ?_
      rotate_left 1
      · intro w hS
        obtain ⟨d2, d3, d4, d5, d6, d8⟩ := HFX.out _ hS
        go_simp
        all_goals with_reducible rfl
      try simp only [Act.put, List.setIfInBounds_toArray, List.set_cons_zero, List.set_cons_succ]
      refine wpAnyH_ready (rs := [21]) (by kernel_rfl) (by simp) ?_
      refine AllReadyH.consD rfl (fun K hK => ?_) AllReadyH.nil
      go_simp
      refine (HMP.out).mono ?_
      rintro e V ⟨rfl, hM1, _⟩
      refine hK.out _ _ (hM1.lo) (fun hS => ?_)
      clear hK K
      try simp only [Act.put, List.setIfInBounds_toArray, List.set_cons_zero, List.set_cons_succ]
      refine wpAnyH_done (by kernel_rfl) ?_ _
      have HM1 := Lib.hid hM1
      clear hM1 HMP hS
      have HW := Lib.hid (msWrite HM1.out.drew xa HX.out.2 HX.out.1 (by have h3 : xbs.length ≤ 300 := HX3.out; show xbs.length ≤ 4096; omega))
      generalize writeA r1.2.1 r1.2.2 xa xbs = r2 at *
      go_wp2_with (fail)
      refine wp_region_held_drew (S := fun w' => Below w.heap.size w w') (by kernel_rfl) (HM1.out.lo.drew) (fun hS => ?_)
      refine wpAnyH_takeD (i := 0) (v := ?_) rfl (by kernel_rfl) (by kernel_rfl) (by kernel_rfl) (fun _ _ _ h => h) (Or.inl ⟨by kernel_rfl, ?_⟩) hS ?_
      rotate_left 1
      · intro w hS
        obtain ⟨d2, d3, d4, d5, d6, d8⟩ := HFX.out _ hS
        go_simp
        all_goals with_reducible rfl
      try simp only [Act.put, List.setIfInBounds_toArray, List.set_cons_zero, List.set_cons_succ]
      refine wpAnyH_takeD (i := 1) (v := ?_) rfl (by kernel_rfl) (by kernel_rfl) (by kernel_rfl) (fun _ _ _ h => h) (Or.inl ⟨by kernel_rfl, ?_⟩) hS ?_
      rotate_left 1
      · intro w hS
        obtain ⟨d2, d3, d4, d5, d6, d8⟩ := HFX.out _ hS
        go_simp
        all_goals with_reducible rfl
      try simp only [Act.put, List.setIfInBounds_toArray, List.set_cons_zero, List.set_cons_succ]
      refine wpAnyH_takeD (i := 2) (v := ?_) rfl (by kernel_rfl) (by kernel_rfl) (by kernel_rfl) (fun _ _ _ h => h) (Or.inl ⟨by kernel_rfl, ?_⟩) hS ?_
      rotate_left 1
      · intro w hS
        obtain ⟨d2, d3, d4, d5, d6, d8⟩ := HFX.out _ hS
        go_simp
        all_goals with_reducible rfl
      try simp only [Act.put, List.setIfInBounds_toArray, List.set_cons_zero, List.set_cons_succ]
      refine wpAnyH_takeD (i := 3) (v := ?_) rfl (by kernel_rfl) (by kernel_rfl) (by kernel_rfl) (fun _ _ _ h => h) (Or.inl ⟨by kernel_rfl, ?_⟩) hS ?_
      rotate_left 1
      · intro w hS
        obtain ⟨d2, d3, d4, d5, d6, d8⟩ := HFX.out _ hS
        go_simp
        all_goals with_reducible rfl
      try simp only [Act.put, List.setIfInBounds_toArray, List.set_cons_zero, List.set_cons_succ]
      refine wpAnyH_takeD (i := 4) (v := ?_) rfl (by kernel_rfl) (by kernel_rfl) (by kernel_rfl) (fun _ _ _ h => h) (Or.inl ⟨by kernel_rfl, ?_⟩) hS ?_
      rotate_left 1
      · intro w hS
        obtain ⟨d2, d3, d4, d5, d6, d8⟩ := HFX.out _ hS
        go_simp
        all_goals with_reducible rfl
      try simp only [Act.put, List.setIfInBounds_toArray, List.set_cons_zero, List.set_cons_succ]
      refine wpAnyH_takeD (i := 5) (v := ?_) rfl (by kernel_rfl) (by kernel_rfl) (by kernel_rfl) (fun _ _ _ h => h) (Or.inl ⟨by kernel_rfl, ?_⟩) hS ?_
      rotate_left 1
      · intro w hS
        obtain ⟨d2, d3, d4, d5, d6, d8⟩ := HFX.out _ hS
        go_simp
        all_goals with_reducible rfl
      try simp only [Act.put, List.setIfInBounds_toArray, List.set_cons_zero, List.set_cons_succ]
      refine wpAnyH_takeD (i := 6) (v := ?_) rfl (by kernel_rfl) (by kernel_rfl) (by kernel_rfl) (fun _ _ _ h => h) (Or.inl ⟨by kernel_rfl, ?_⟩) hS ?_
      rotate_left 1
      · intro w hS
        obtain ⟨d2, d3, d4, d5, d6, d8⟩ := HFX.out _ hS
        go_simp
        all_goals with_reducible rfl
      try simp only [Act.put, List.setIfInBounds_toArray, List.set_cons_zero, List.set_cons_succ]
      refine wpAnyH_takeD (i := 7) (v := ?_) rfl (by kernel_rfl) (by kernel_rfl) (by kernel_rfl) (fun _ _ _ h => h) (Or.inl ⟨by kernel_rfl, ?_⟩) hS ?_
      rotate_left 1
      · intro w hS
        obtain ⟨d2, d3, d4, d5, d6, d8⟩ := HFX.out _ hS
        go_simp
        all_goals with_reducible rfl
      try simp only [Act.put, List.setIfInBounds_toArray, List.set_cons_zero, List.set_cons_succ]
      refine wpAnyH_takeD (i := 8) (v := ?_) rfl (by kernel_rfl) (by kernel_rfl) (by kernel_rfl) (fun _ _ _ h => h) (Or.inl ⟨by kernel_rfl, ?_⟩) hS ?_
      rotate_left 1
      · intro w hS
        obtain ⟨d2, d3, d4, d5, d6, d8⟩ := HFX.out _ hS
        go_simp
        all_goals with_reducible rfl
      try simp only [Act.put, List.setIfInBounds_toArray, List.set_cons_zero, List.set_cons_succ]
      refine wpAnyH_takeD (i := 9) (v := ?_) rfl (by kernel_rfl) (by kernel_rfl) (by kernel_rfl) (fun _ _ _ h => h) (Or.inl ⟨by kernel_rfl, ?_⟩) hS ?_
      rotate_left 1
      · intro w hS
        obtain ⟨d2, d3, d4, d5, d6, d8⟩ := HFX.out _ hS
        go_simp
        all_goals with_reducible rfl
      try simp only [Act.put, List.setIfInBounds_toArray, List.set_cons_zero, List.set_cons_succ]
      refine wpAnyH_takeD (i := 10) (v := ?_) rfl (by kernel_rfl) (by kernel_rfl) (by kernel_rfl) (fun _ _ _ h => h) (Or.inl ⟨by kernel_rfl, ?_⟩) hS ?_
      rotate_left 1
      · intro w hS
        obtain ⟨d2, d3, d4, d5, d6, d8⟩ := HFX.out _ hS
        go_simp
        all_goals with_reducible rfl
      try simp only [Act.put, List.setIfInBounds_toArray, List.set_cons_zero, List.set_cons_succ]
      refine wpAnyH_ready (rs := [11]) (by kernel_rfl) (by simp) ?_
      refine AllReadyH.consD rfl (fun K hK => ?_) AllReadyH.nil
      go_simp
      refine (HW.out).mono ?_
      rintro e V2 ⟨rfl, hM2, _⟩
      refine hK.out _ _ (hM2.lo) (fun hS => ?_)
      clear hK K
      try simp only [Act.put, List.setIfInBounds_toArray, List.set_cons_zero, List.set_cons_succ]
      refine wpAnyH_done (by kernel_rfl) ?_ _
      have HM2 := Lib.hid hM2
      clear hM2 HW hS HM1 HM
      go_wp2
      go_roundw
      case rel => exact ⟨k + 1, by go_num, by omega, _, _, HM2⟩
      case measure => simp [intOf]; omega
    have hki : ¬ (k : Int) < (l.length : Int) := by omega
    clear HO HGL HGR hkl
    obtain ⟨vl, hvl⟩ := pgKept F m
    have HVL := Lib.hid hvl
    have HPG := Lib.hid (msPages HM.out)
    rw [hvl.v] at HPG
    clear hvl
    go_wp2_with (fail)
    refine HPG.out.mono ?_
    rintro e W5 ⟨rfl, hb5⟩
    have HM5 := Lib.hid (HM.out.below hb5)
    clear hb5 HM HPG
    have hz := zeroS W5
    have hst := run_storeCells_pg HVL.out.len HVL.out.one W5
    have HBW := Lib.hid (Blk.new W5 41 vl.toArray)
    have HM6 := Lib.hid (HM5.out.below (bl_new (Below.refl W5.heap.size W5) (.cells vl.toArray 41)))
    have hlen := HVL.out.len
    generalize List.replicate 64 (Value.string ByteArray.empty) = zs at *
    go_wp2_with (fail)
    obtain ⟨bw, hbw⟩ : ∃ bw, bw = W5.heap.size := ⟨_, rfl⟩
    rw [← hbw] at HBW ⊢
    generalize W5.alloc (.cells vl.toArray 41) = W6 at *
    clear hz hst HM5 hbw hlen
    refine (msList HM6.out).mono ?_
    rintro e W7 ⟨A1, c1, rfl, hR, hb7⟩
    have HR7 := Lib.hid hR
    have HM7 := Lib.hid (HM6.out.below hb7)
    have HBW7 := Lib.hid (HBW.out.below hb7 HBW.out.lt)
    clear hR hb7 HM6 HBW
    go_wp2_with (fail)
    refine (msFree HM7.out).mono ?_
    rintro e W8 ⟨rfl, hb8⟩
    have HR8 := Lib.hid (HR7.out.keep (KeepT.of_below hb8) (by decide) (by decide) (by decide))
    have HM5pos := Lib.hid HM7.out.gi.fok.pos
    have HM8 := Lib.hid (HM7.out.below hb8)
    have HBW8 := Lib.hid (HBW7.out.below hb8 HBW7.out.lt)
    clear hb8 HM7 HBW7 HR7
    have HMP := Lib.hid (msMap HM8.out page n write shared)
    rcases mapA_cases F m page n write shared with hr | ⟨hr, hfew⟩ | ⟨P, K, rfl, rfl, hK1, hPK, hcz, hfr, hr⟩
    · rw [hr] at HMP
      clear hr
      go_wp2_with (fail)
      refine HMP.out.mono ?_
      rintro e W9 ⟨rfl, hM9, hk9⟩
      have HM9 := Lib.hid (show MS w W9 fb F so m from hM9)
      have HBW9 := Lib.hid (hk9.2 bw _ _ (by decide) (by decide) (by decide) HBW8.out)
      clear hM9 hk9 HM8 HBW8 HR8 HMP
      have HPG := Lib.hid (fun W (hb : Below W9.heap.size W9 W) => msPages (HM9.out.below hb))
      rw [HVL.out.v] at HPG
      have HFR := Lib.hid (fun W (hb : Below W9.heap.size W9 W) => msFree (HM9.out.below hb))
      have HRG := Lib.hid (fun W (hb : Below W9.heap.size W9 W) => (show W.rangeAt bw 0 vl from fun j v hv => by rw [Nat.zero_add, (HBW9.out.below hb HBW9.out.lt).cell, List.getElem?_toArray]; exact hv))
      have HSZ := Lib.hid (show (Try.prog.info? 41).map (·.size) = some vl.length from by rw [HVL.out.len]; kernel_rfl)
      have heq := HVL.out.eq
      generalize freeN F = fr at *
      go_wp2_with (fail)
      refine wp_region_held_drew (S := fun w' => Below W9.heap.size W9 w') (by kernel_rfl) ((Below.refl W9.heap.size W9).drew) (fun hS => ?_)
      refine wpAnyH_takeD (i := 0) (v := ?_) rfl (by kernel_rfl) (by kernel_rfl) (by kernel_rfl) (fun _ _ _ h => h) (Or.inl ⟨by kernel_rfl, ?_⟩) hS ?_
      rotate_left 1
      · intro w hS
        go_simp
        all_goals with_reducible rfl
      try simp only [Act.put, List.setIfInBounds_toArray, List.set_cons_zero, List.set_cons_succ]
      refine wpAnyH_takeD (i := 1) (v := ?_) rfl (by kernel_rfl) (by kernel_rfl) (by kernel_rfl) (fun _ _ _ h => h) (Or.inl ⟨by kernel_rfl, ?_⟩) hS ?_
      rotate_left 1
      · intro w hS
        go_simp
        all_goals with_reducible rfl
      try simp only [Act.put, List.setIfInBounds_toArray, List.set_cons_zero, List.set_cons_succ]
      refine wpAnyH_takeD (i := 2) (v := ?_) rfl (by kernel_rfl) (by kernel_rfl) (by kernel_rfl) (fun _ _ _ h => h) (Or.inl ⟨by kernel_rfl, ?_⟩) hS ?_
      rotate_left 1
      · intro w hS
        go_simp
        all_goals with_reducible rfl
      try simp only [Act.put, List.setIfInBounds_toArray, List.set_cons_zero, List.set_cons_succ]
      refine wpAnyH_takeD (i := 4) (v := .agg vl.toArray) rfl (by kernel_rfl) (by kernel_rfl) (by kernel_rfl) (fun _ _ _ h => h) (yieldsIf_load_mid (by kernel_rfl) 41 _ rfl bw 0 rfl vl _ HRG.out Try.underlying41 rfl HSZ.out) hS ?_
      try simp only [Act.put, List.setIfInBounds_toArray, List.set_cons_zero, List.set_cons_succ]
      refine wpAnyH_ready (rs := [3]) (by kernel_rfl) (by simp) ?_
      refine AllReadyH.consD rfl (fun K hK => ?_) AllReadyH.nil
      go_simp
      refine (HPG.out _ hS).mono ?_
      rintro e Va ⟨rfl, hba⟩
      refine hK.out _ _ (bl_step hS hba) (fun hS => ?_)
      clear hK K
      try simp only [Act.put, List.setIfInBounds_toArray, List.set_cons_zero, List.set_cons_succ]
      refine wpAnyH_takeD (i := 5) (v := ?_) rfl (by kernel_rfl) (by kernel_rfl) (by kernel_rfl) (fun _ _ _ h => h) (Or.inl ⟨by kernel_rfl, ?_⟩) hS ?_
      rotate_left 1
      · intro w hS
        go_simp
        all_goals with_reducible rfl
      try simp only [Act.put, List.setIfInBounds_toArray, List.set_cons_zero, List.set_cons_succ]
      refine wpAnyH_takeD (i := 6) (v := ?_) rfl (by kernel_rfl) (by kernel_rfl) (by kernel_rfl) (fun _ _ _ h => h) (Or.inl ⟨by kernel_rfl, ?_⟩) hS ?_
      rotate_left 1
      · intro w hS
        go_simp
        all_goals with_reducible rfl
      try simp only [Act.put, List.setIfInBounds_toArray, List.set_cons_zero, List.set_cons_succ]
      refine wpAnyH_takeD (i := 7) (v := ?_) rfl (by kernel_rfl) (by kernel_rfl) (by kernel_rfl) (fun _ _ _ h => h) (Or.inl ⟨by kernel_rfl, ?_⟩) hS ?_
      rotate_left 1
      · intro w hS
        go_simp
        all_goals with_reducible rfl
      try simp only [Act.put, List.setIfInBounds_toArray, List.set_cons_zero, List.set_cons_succ]
      refine wpAnyH_takeD (i := 8) (v := ?_) rfl (by kernel_rfl) (by kernel_rfl) (by kernel_rfl) (fun _ _ _ h => h) (Or.inl ⟨by kernel_rfl, ?_⟩) hS ?_
      rotate_left 1
      · intro w hS
        go_simp
        all_goals with_reducible rfl
      try simp only [Act.put, List.setIfInBounds_toArray, List.set_cons_zero, List.set_cons_succ]
      refine wpAnyH_takeD (i := 10) (v := ?_) rfl (by kernel_rfl) (by kernel_rfl) (by kernel_rfl) (fun _ _ _ h => h) (Or.inl ⟨by kernel_rfl, ?_⟩) hS ?_
      rotate_left 1
      · intro w hS
        go_simp
        all_goals with_reducible rfl
      try simp only [Act.put, List.setIfInBounds_toArray, List.set_cons_zero, List.set_cons_succ]
      refine wpAnyH_ready (rs := [9]) (by kernel_rfl) (by simp) ?_
      refine AllReadyH.consD rfl (fun K hK => ?_) AllReadyH.nil
      go_simp
      refine (HFR.out _ hS).mono ?_
      rintro e Vb ⟨rfl, hbb⟩
      refine hK.out _ _ (bl_step hS hbb) (fun hS => ?_)
      clear hK K
      try simp only [Act.put, List.setIfInBounds_toArray, List.set_cons_zero, List.set_cons_succ]
      refine wpAnyH_takeD (i := 11) (v := ?_) rfl (by kernel_rfl) (by kernel_rfl) (by kernel_rfl) (fun _ _ _ h => h) (Or.inl ⟨by kernel_rfl, ?_⟩) hS ?_
      rotate_left 1
      · intro w hS
        go_simp
        all_goals with_reducible rfl
      try simp only [Act.put, List.setIfInBounds_toArray, List.set_cons_zero, List.set_cons_succ]
      refine wpAnyH_takeD (i := 12) (v := ?_) rfl (by kernel_rfl) (by kernel_rfl) (by kernel_rfl) (fun _ _ _ h => h) (Or.inl ⟨by kernel_rfl, ?_⟩) hS ?_
      rotate_left 1
      · intro w hS
        go_simp
        all_goals with_reducible rfl
      try simp only [Act.put, List.setIfInBounds_toArray, List.set_cons_zero, List.set_cons_succ]
      refine wpAnyH_takeD (i := 13) (v := ?_) rfl (by kernel_rfl) (by kernel_rfl) (by kernel_rfl) (fun _ _ _ h => h) (Or.inl ⟨by kernel_rfl, ?_⟩) hS ?_
      rotate_left 1
      · intro w hS
        go_simp
        all_goals with_reducible rfl
      try simp only [Act.put, List.setIfInBounds_toArray, List.set_cons_zero, List.set_cons_succ]
      refine wpAnyH_takeD (i := 14) (v := ?_) rfl (by kernel_rfl) (by kernel_rfl) (by kernel_rfl) (fun _ _ _ h => h) (Or.inl ⟨by kernel_rfl, ?_⟩) hS ?_
      rotate_left 1
      · intro w hS
        go_simp
        all_goals with_reducible rfl
      try simp only [Act.put, List.setIfInBounds_toArray, List.set_cons_zero, List.set_cons_succ]
      refine wpAnyH_takeD (i := 15) (v := ?_) rfl (by kernel_rfl) (by kernel_rfl) (by kernel_rfl) (fun _ _ _ h => h) (Or.inl ⟨by kernel_rfl, ?_⟩) hS ?_
      rotate_left 1
      · intro w hS
        go_simp
        all_goals with_reducible rfl
      try simp only [Act.put, List.setIfInBounds_toArray, List.set_cons_zero, List.set_cons_succ]
      refine wpAnyH_takeD (i := 16) (v := ?_) rfl (by kernel_rfl) (by kernel_rfl) (by kernel_rfl) (fun _ _ _ h => h) (Or.inl ⟨by kernel_rfl, ?_⟩) hS ?_
      rotate_left 1
      · intro w hS
        go_simp
        all_goals with_reducible rfl
      try simp only [Act.put, List.setIfInBounds_toArray, List.set_cons_zero, List.set_cons_succ]
      refine wpAnyH_takeD (i := 17) (v := undef) rfl (by kernel_rfl) (by kernel_rfl) (by kernel_rfl) (fun _ _ _ h => h) (Or.inr ⟨by kernel_rfl, rfl⟩) hS ?_
      try simp only [Act.put, List.setIfInBounds_toArray, List.set_cons_zero, List.set_cons_succ]
      refine wpAnyH_takeD (i := 18) (v := undef) rfl (by kernel_rfl) (by kernel_rfl) (by kernel_rfl) (fun _ _ _ h => h) (Or.inr ⟨by kernel_rfl, rfl⟩) hS ?_
      try simp only [Act.put, List.setIfInBounds_toArray, List.set_cons_zero, List.set_cons_succ]
      refine wpAnyH_takeD (i := 19) (v := undef) rfl (by kernel_rfl) (by kernel_rfl) (by kernel_rfl) (fun _ _ _ h => h) (Or.inr ⟨by kernel_rfl, rfl⟩) hS ?_
      try simp only [Act.put, List.setIfInBounds_toArray, List.set_cons_zero, List.set_cons_succ]
      refine wpAnyH_takeD (i := 20) (v := undef) rfl (by kernel_rfl) (by kernel_rfl) (by kernel_rfl) (fun _ _ _ h => h) (Or.inr ⟨by kernel_rfl, rfl⟩) hS ?_
      try simp only [Act.put, List.setIfInBounds_toArray, List.set_cons_zero, List.set_cons_succ]
      refine wpAnyH_takeD (i := 21) (v := undef) rfl (by kernel_rfl) (by kernel_rfl) (by kernel_rfl) (fun _ _ _ h => h) (Or.inr ⟨by kernel_rfl, rfl⟩) hS ?_
      try simp only [Act.put, List.setIfInBounds_toArray, List.set_cons_zero, List.set_cons_succ]
      refine wpAnyH_takeD (i := 22) (v := undef) rfl (by kernel_rfl) (by kernel_rfl) (by kernel_rfl) (fun _ _ _ h => h) (Or.inr ⟨by kernel_rfl, rfl⟩) hS ?_
      try simp only [Act.put, List.setIfInBounds_toArray, List.set_cons_zero, List.set_cons_succ]
      refine wpAnyH_takeD (i := 23) (v := undef) rfl (by kernel_rfl) (by kernel_rfl) (by kernel_rfl) (fun _ _ _ h => h) (Or.inr ⟨by kernel_rfl, rfl⟩) hS ?_
      try simp only [Act.put, List.setIfInBounds_toArray, List.set_cons_zero, List.set_cons_succ]
      refine wpAnyH_takeD (i := 24) (v := ?_) rfl (by kernel_rfl) (by kernel_rfl) (by kernel_rfl) (fun _ _ _ h => h) (Or.inl ⟨by kernel_rfl, ?_⟩) hS ?_
      rotate_left 1
      · intro w hS
        go_simp
        all_goals with_reducible rfl
      try simp only [Act.put, List.setIfInBounds_toArray, List.set_cons_zero, List.set_cons_succ]
      refine wpAnyH_takeD (i := 25) (v := ?_) rfl (by kernel_rfl) (by kernel_rfl) (by kernel_rfl) (fun _ _ _ h => h) (Or.inl ⟨by kernel_rfl, ?_⟩) hS ?_
      rotate_left 1
      · intro w hS
        go_simp
        all_goals with_reducible rfl
      try simp only [Act.put, List.setIfInBounds_toArray, List.set_cons_zero, List.set_cons_succ]
      refine wpAnyH_takeD (i := 26) (v := ?_) rfl (by kernel_rfl) (by kernel_rfl) (by kernel_rfl) (fun _ _ _ h => h) (Or.inl ⟨by kernel_rfl, ?_⟩) hS ?_
      rotate_left 1
      · intro w hS
        go_simp
        all_goals with_reducible rfl
      try simp only [Act.put, List.setIfInBounds_toArray, List.set_cons_zero, List.set_cons_succ]
      refine wpAnyH_done (by kernel_rfl) ?_ _
      go_wp2
      go_ret
      exact ⟨rfl, HM9.out.lo.trans (hS.mono HM9.out.lo.size)⟩
    · rw [hr] at HMP
      clear hr
      go_wp2_with (fail)
      refine HMP.out.mono ?_
      rintro e W9 ⟨rfl, hM9, hk9⟩
      have HM9 := Lib.hid (show MS w W9 fb F so m from hM9)
      have HBW9 := Lib.hid (hk9.2 bw _ _ (by decide) (by decide) (by decide) HBW8.out)
      clear hM9 hk9 HM8 HBW8 HR8 HMP
      have HPG := Lib.hid (fun W (hb : Below W9.heap.size W9 W) => msPages (HM9.out.below hb))
      rw [HVL.out.v] at HPG
      have HFR := Lib.hid (fun W (hb : Below W9.heap.size W9 W) => msFree (HM9.out.below hb))
      have HRG := Lib.hid (fun W (hb : Below W9.heap.size W9 W) => (show W.rangeAt bw 0 vl from fun j v hv => by rw [Nat.zero_add, (HBW9.out.below hb HBW9.out.lt).cell, List.getElem?_toArray]; exact hv))
      have HSZ := Lib.hid (show (Try.prog.info? 41).map (·.size) = some vl.length from by rw [HVL.out.len]; kernel_rfl)
      have heq := HVL.out.eq
      generalize freeN F = fr at *
      go_wp2_with (fail)
      refine wp_region_held_drew (S := fun w' => Below W9.heap.size W9 w') (by kernel_rfl) ((Below.refl W9.heap.size W9).drew) (fun hS => ?_)
      refine wpAnyH_takeD (i := 0) (v := ?_) rfl (by kernel_rfl) (by kernel_rfl) (by kernel_rfl) (fun _ _ _ h => h) (Or.inl ⟨by kernel_rfl, ?_⟩) hS ?_
      rotate_left 1
      · intro w hS
        go_simp
        all_goals with_reducible rfl
      try simp only [Act.put, List.setIfInBounds_toArray, List.set_cons_zero, List.set_cons_succ]
      refine wpAnyH_takeD (i := 1) (v := ?_) rfl (by kernel_rfl) (by kernel_rfl) (by kernel_rfl) (fun _ _ _ h => h) (Or.inl ⟨by kernel_rfl, ?_⟩) hS ?_
      rotate_left 1
      · intro w hS
        go_simp
        all_goals with_reducible rfl
      try simp only [Act.put, List.setIfInBounds_toArray, List.set_cons_zero, List.set_cons_succ]
      refine wpAnyH_takeD (i := 2) (v := ?_) rfl (by kernel_rfl) (by kernel_rfl) (by kernel_rfl) (fun _ _ _ h => h) (Or.inl ⟨by kernel_rfl, ?_⟩) hS ?_
      rotate_left 1
      · intro w hS
        go_simp
        all_goals with_reducible rfl
      try simp only [Act.put, List.setIfInBounds_toArray, List.set_cons_zero, List.set_cons_succ]
      refine wpAnyH_takeD (i := 4) (v := .agg vl.toArray) rfl (by kernel_rfl) (by kernel_rfl) (by kernel_rfl) (fun _ _ _ h => h) (yieldsIf_load_mid (by kernel_rfl) 41 _ rfl bw 0 rfl vl _ HRG.out Try.underlying41 rfl HSZ.out) hS ?_
      try simp only [Act.put, List.setIfInBounds_toArray, List.set_cons_zero, List.set_cons_succ]
      refine wpAnyH_ready (rs := [3]) (by kernel_rfl) (by simp) ?_
      refine AllReadyH.consD rfl (fun K hK => ?_) AllReadyH.nil
      go_simp
      refine (HPG.out _ hS).mono ?_
      rintro e Va ⟨rfl, hba⟩
      refine hK.out _ _ (bl_step hS hba) (fun hS => ?_)
      clear hK K
      try simp only [Act.put, List.setIfInBounds_toArray, List.set_cons_zero, List.set_cons_succ]
      refine wpAnyH_takeD (i := 5) (v := ?_) rfl (by kernel_rfl) (by kernel_rfl) (by kernel_rfl) (fun _ _ _ h => h) (Or.inl ⟨by kernel_rfl, ?_⟩) hS ?_
      rotate_left 1
      · intro w hS
        go_simp
        all_goals with_reducible rfl
      try simp only [Act.put, List.setIfInBounds_toArray, List.set_cons_zero, List.set_cons_succ]
      refine wpAnyH_takeD (i := 6) (v := ?_) rfl (by kernel_rfl) (by kernel_rfl) (by kernel_rfl) (fun _ _ _ h => h) (Or.inl ⟨by kernel_rfl, ?_⟩) hS ?_
      rotate_left 1
      · intro w hS
        go_simp
        all_goals with_reducible rfl
      try simp only [Act.put, List.setIfInBounds_toArray, List.set_cons_zero, List.set_cons_succ]
      refine wpAnyH_takeD (i := 7) (v := ?_) rfl (by kernel_rfl) (by kernel_rfl) (by kernel_rfl) (fun _ _ _ h => h) (Or.inl ⟨by kernel_rfl, ?_⟩) hS ?_
      rotate_left 1
      · intro w hS
        go_simp
        all_goals with_reducible rfl
      try simp only [Act.put, List.setIfInBounds_toArray, List.set_cons_zero, List.set_cons_succ]
      refine wpAnyH_takeD (i := 8) (v := ?_) rfl (by kernel_rfl) (by kernel_rfl) (by kernel_rfl) (fun _ _ _ h => h) (Or.inl ⟨by kernel_rfl, ?_⟩) hS ?_
      rotate_left 1
      · intro w hS
        go_simp
        all_goals with_reducible rfl
      try simp only [Act.put, List.setIfInBounds_toArray, List.set_cons_zero, List.set_cons_succ]
      refine wpAnyH_takeD (i := 10) (v := ?_) rfl (by kernel_rfl) (by kernel_rfl) (by kernel_rfl) (fun _ _ _ h => h) (Or.inl ⟨by kernel_rfl, ?_⟩) hS ?_
      rotate_left 1
      · intro w hS
        go_simp
        all_goals with_reducible rfl
      try simp only [Act.put, List.setIfInBounds_toArray, List.set_cons_zero, List.set_cons_succ]
      refine wpAnyH_ready (rs := [9]) (by kernel_rfl) (by simp) ?_
      refine AllReadyH.consD rfl (fun K hK => ?_) AllReadyH.nil
      go_simp
      refine (HFR.out _ hS).mono ?_
      rintro e Vb ⟨rfl, hbb⟩
      refine hK.out _ _ (bl_step hS hbb) (fun hS => ?_)
      clear hK K
      try simp only [Act.put, List.setIfInBounds_toArray, List.set_cons_zero, List.set_cons_succ]
      refine wpAnyH_takeD (i := 11) (v := ?_) rfl (by kernel_rfl) (by kernel_rfl) (by kernel_rfl) (fun _ _ _ h => h) (Or.inl ⟨by kernel_rfl, ?_⟩) hS ?_
      rotate_left 1
      · intro w hS
        go_simp
        all_goals with_reducible rfl
      try simp only [Act.put, List.setIfInBounds_toArray, List.set_cons_zero, List.set_cons_succ]
      refine wpAnyH_takeD (i := 12) (v := ?_) rfl (by kernel_rfl) (by kernel_rfl) (by kernel_rfl) (fun _ _ _ h => h) (Or.inl ⟨by kernel_rfl, ?_⟩) hS ?_
      rotate_left 1
      · intro w hS
        go_simp
        all_goals with_reducible rfl
      try simp only [Act.put, List.setIfInBounds_toArray, List.set_cons_zero, List.set_cons_succ]
      refine wpAnyH_takeD (i := 13) (v := ?_) rfl (by kernel_rfl) (by kernel_rfl) (by kernel_rfl) (fun _ _ _ h => h) (Or.inl ⟨by kernel_rfl, ?_⟩) hS ?_
      rotate_left 1
      · intro w hS
        go_simp
        all_goals with_reducible rfl
      try simp only [Act.put, List.setIfInBounds_toArray, List.set_cons_zero, List.set_cons_succ]
      refine wpAnyH_takeD (i := 14) (v := ?_) rfl (by kernel_rfl) (by kernel_rfl) (by kernel_rfl) (fun _ _ _ h => h) (Or.inl ⟨by kernel_rfl, ?_⟩) hS ?_
      rotate_left 1
      · intro w hS
        go_simp
        all_goals with_reducible rfl
      try simp only [Act.put, List.setIfInBounds_toArray, List.set_cons_zero, List.set_cons_succ]
      refine wpAnyH_takeD (i := 15) (v := ?_) rfl (by kernel_rfl) (by kernel_rfl) (by kernel_rfl) (fun _ _ _ h => h) (Or.inl ⟨by kernel_rfl, ?_⟩) hS ?_
      rotate_left 1
      · intro w hS
        go_simp
        all_goals with_reducible rfl
      try simp only [Act.put, List.setIfInBounds_toArray, List.set_cons_zero, List.set_cons_succ]
      refine wpAnyH_takeD (i := 16) (v := ?_) rfl (by kernel_rfl) (by kernel_rfl) (by kernel_rfl) (fun _ _ _ h => h) (Or.inl ⟨by kernel_rfl, ?_⟩) hS ?_
      rotate_left 1
      · intro w hS
        go_simp
        all_goals with_reducible rfl
      try simp only [Act.put, List.setIfInBounds_toArray, List.set_cons_zero, List.set_cons_succ]
      refine wpAnyH_takeD (i := 17) (v := ?_) rfl (by kernel_rfl) (by kernel_rfl) (by kernel_rfl) (fun _ _ _ h => h) (Or.inl ⟨by kernel_rfl, ?_⟩) hS ?_
      rotate_left 1
      · intro w hS
        go_simp
        all_goals with_reducible rfl
      try simp only [Act.put, List.setIfInBounds_toArray, List.set_cons_zero, List.set_cons_succ]
      refine wpAnyH_takeD (i := 18) (v := ?_) rfl (by kernel_rfl) (by kernel_rfl) (by kernel_rfl) (fun _ _ _ h => h) (Or.inl ⟨by kernel_rfl, ?_⟩) hS ?_
      rotate_left 1
      · intro w hS
        go_simp
        all_goals with_reducible rfl
      try simp only [Act.put, List.setIfInBounds_toArray, List.set_cons_zero, List.set_cons_succ]
      refine wpAnyH_takeD (i := 19) (v := ?_) rfl (by kernel_rfl) (by kernel_rfl) (by kernel_rfl) (fun _ _ _ h => h) (Or.inl ⟨by kernel_rfl, ?_⟩) hS ?_
      rotate_left 1
      · intro w hS
        go_simp
        all_goals with_reducible rfl
      try simp only [Act.put, List.setIfInBounds_toArray, List.set_cons_zero, List.set_cons_succ]
      refine wpAnyH_takeD (i := 20) (v := ?_) rfl (by kernel_rfl) (by kernel_rfl) (by kernel_rfl) (fun _ _ _ h => h) (Or.inl ⟨by kernel_rfl, ?_⟩) hS ?_
      rotate_left 1
      · intro w hS
        go_simp
        all_goals with_reducible rfl
      try simp only [Act.put, List.setIfInBounds_toArray, List.set_cons_zero, List.set_cons_succ]
      refine wpAnyH_takeD (i := 21) (v := ?_) rfl (by kernel_rfl) (by kernel_rfl) (by kernel_rfl) (fun _ _ _ h => h) (Or.inl ⟨by kernel_rfl, ?_⟩) hS ?_
      rotate_left 1
      · intro w hS
        go_simp
        all_goals with_reducible rfl
      try simp only [Act.put, List.setIfInBounds_toArray, List.set_cons_zero, List.set_cons_succ]
      refine wpAnyH_takeD (i := 22) (v := ?_) rfl (by kernel_rfl) (by kernel_rfl) (by kernel_rfl) (fun _ _ _ h => h) (Or.inl ⟨by kernel_rfl, ?_⟩) hS ?_
      rotate_left 1
      · intro w hS
        go_simp
        all_goals with_reducible rfl
      try simp only [Act.put, List.setIfInBounds_toArray, List.set_cons_zero, List.set_cons_succ]
      refine wpAnyH_takeD (i := 23) (v := ?_) rfl (by kernel_rfl) (by kernel_rfl) (by kernel_rfl) (fun _ _ _ h => h) (Or.inl ⟨by kernel_rfl, ?_⟩) hS ?_
      rotate_left 1
      · intro w hS
        go_simp
        all_goals with_reducible rfl
      try simp only [Act.put, List.setIfInBounds_toArray, List.set_cons_zero, List.set_cons_succ]
      refine wpAnyH_takeD (i := 24) (v := ?_) rfl (by kernel_rfl) (by kernel_rfl) (by kernel_rfl) (fun _ _ _ h => h) (Or.inl ⟨by kernel_rfl, ?_⟩) hS ?_
      rotate_left 1
      · intro w hS
        go_simp
        all_goals with_reducible rfl
      try simp only [Act.put, List.setIfInBounds_toArray, List.set_cons_zero, List.set_cons_succ]
      refine wpAnyH_takeD (i := 25) (v := ?_) rfl (by kernel_rfl) (by kernel_rfl) (by kernel_rfl) (fun _ _ _ h => h) (Or.inl ⟨by kernel_rfl, ?_⟩) hS ?_
      rotate_left 1
      · intro w hS
        go_simp
        all_goals with_reducible rfl
      try simp only [Act.put, List.setIfInBounds_toArray, List.set_cons_zero, List.set_cons_succ]
      refine wpAnyH_takeD (i := 26) (v := ?_) rfl (by kernel_rfl) (by kernel_rfl) (by kernel_rfl) (fun _ _ _ h => h) (Or.inl ⟨by kernel_rfl, ?_⟩) hS ?_
      rotate_left 1
      · intro w hS
        go_simp
        all_goals with_reducible rfl
      try simp only [Act.put, List.setIfInBounds_toArray, List.set_cons_zero, List.set_cons_succ]
      refine wpAnyH_done (by kernel_rfl) ?_ _
      go_wp2
      go_ret
      exact ⟨rfl, HM9.out.lo.trans (hS.mono HM9.out.lo.size)⟩
    · have HLAW := Lib.hid (maps_law (by exact HM8.out.gi) hK1 hPK hcz hfr write shared)
      rw [hr] at HMP
      clear hr
      generalize (unmapGo (mapGo F m P write shared K).1 (mapGo F m P write shared K).2 P K).1 = F2 at *
      simp only at HMP
      generalize (mapGo F m P write shared K).1 = F1 at *
      generalize (mapGo F m P write shared K).2 = m1 at *
      go_wp2_with (fail)
      refine HMP.out.mono ?_
      rintro e W9 ⟨rfl, hM9, hk9⟩
      have HM9 := Lib.hid hM9
      have HBW9 := Lib.hid (hk9.2 bw _ _ (by decide) (by decide) (by decide) HBW8.out)
      have HR9 := Lib.hid (HR8.out.keep hk9 (by decide) (by decide) (by decide))
      clear hM9 hk9 HM8 HBW8 HR8 HMP hcz
      go_wp2_with (fail)
      refine (msDirty HM9.out).mono ?_
      rintro e W10 ⟨A2, c2, rfl, hb10⟩
      have HS0 := Lib.hid (show MS w W10 fb F1 so m1 ∧ Blk W10 bw 41 vl.toArray ∧ RowB W10 A1 62 6 (listR m) from ⟨HM9.out.below hb10, HBW9.out.below hb10 HBW9.out.lt, HR9.out.keep (KeepT.of_below hb10) (by decide) (by decide) (by decide)⟩)
      clear hb10 HM9 HBW9 HR9
      obtain ⟨D, hD⟩ : ∃ D, D = (filt E.d (list m1)).length := ⟨_, rfl⟩
      have hKD : (K : Int) ≤ (D : Int) := by have := HLAW.out.dirty; omega
      rw [← hD]
      clear hD
      go_wp2_with (fail)
      go_loopw [23] (fun i wr => ∃ k : Nat, i = .int .i64 ((P : Int) + (k : Int)) ∧ k ≤ K ∧ Hid (MS w wr fb F1 so m1 ∧ Blk wr bw 41 vl.toArray ∧ RowB wr A1 62 6 (listR m))) (fun i _ => P + K - (intOf i).toNat)
      case atStart => exact ⟨0, by simp, Nat.zero_le _, HS0⟩
      case round =>
        clear HS0
        obtain ⟨k, rfl, hk, HS⟩ := hrel
        by_cases hkl : k < K
        case pos =>
          have hki : (P : Int) + (k : Int) < (P : Int) + (K : Int) := by omega
          obtain ⟨hz1, hz2, hz3⟩ := HLAW.out.zero k hkl
          have hpg1 := msPage HS.out.1 (P + k) (by omega)
          rw [hz1, show ((P + k : Nat) : Int) = (P : Int) + (k : Int) by omega] at hpg1
          have HPG := Lib.hid hpg1
          have HSTR := Lib.hid (show ∀ W, Blk W bw 41 vl.toArray → W.cell? ⟨bw, P + k, none⟩ = some (.string ⟨#[]⟩) from fun W hW => by rw [hW.cell, List.getElem?_toArray]; exact HVL.out.none_ (P + k) (by omega) hz3)
          have HFV := Lib.hid hz2
          clear hz1 hz2 hz3 hpg1
          go_wp2_with (fail)
          refine HPG.out.mono ?_
          rintro e W11 ⟨v, rfl, hrow, hb11⟩
          obtain ⟨g, cp, cur, rfl, hg, hgb, hcur⟩ := row_open hrow (by decide)
          have HZ := Lib.hid (fun (j : Nat) (hj : j < 64) => (show W11.cell? ⟨g, j, none⟩ = some (.int .u8 0) from by
            rw [hgb.cell]
            refine hcur j _ ?_
            unfold z64
            rw [List.map_replicate, List.getElem?_replicate, if_pos hj]))
          have hgl := hgb.lt
          have HS11 := Lib.hid (show MS w W11 fb F1 so m1 ∧ Blk W11 bw 41 vl.toArray ∧ RowB W11 A1 62 6 (listR m) from ⟨HS.out.1.below hb11, HS.out.2.1.below hb11 HS.out.2.1.lt, HS.out.2.2.keep (KeepT.of_below hb11) (by decide) (by decide) (by decide)⟩)
          have hzl : z64.length = 64 := rfl
          rw [hzl]
          clear hrow hb11 hgb hcur hg HPG HS hzl
          go_wp2_with (fail)
          go_loopw [25] (fun i wy => ∃ j : Nat, i = .int .i64 (j : Int) ∧ j ≤ 64 ∧ wy = W11) (fun i _ => 64 - (intOf i).toNat)
          case atStart => exact ⟨0, rfl, Nat.zero_le _, rfl⟩
          case round =>
            obtain ⟨j, rfl, hj, rfl⟩ := hrel
            by_cases hj64 : j < 64
            case pos =>
              have hji : (j : Int) < 64 := by omega
              have z0 := HZ.out j hj64
              go_wp2
              go_roundw
              case rel => exact ⟨j + 1, by go_num, by omega, trivial⟩
              case measure => simp [intOf]; omega
            have hji : ¬ (j : Int) < 64 := by omega
            have hjj : j = 64 := by omega
            subst hjj
            have hfm := msFrame HS11.out.1 ((P + k) * 64) (by omega)
            rw [HFV.out, show (((P + k) * 64 : Nat) : Int) = ((P : Int) + (k : Int)) * 64 by omega] at hfm
            have HFM := Lib.hid hfm
            generalize (frameP m1 ((P + k) * 64)).1 = fv at *
            clear hfm HFV hj64 hj
            go_wp2_with (fail)
            refine HFM.out.mono ?_
            rintro e W12 ⟨rfl, hb12⟩
            have HS12 := Lib.hid (show MS w W12 fb F1 so m1 ∧ Blk W12 bw 41 vl.toArray ∧ RowB W12 A1 62 6 (listR m) from ⟨HS11.out.1.below hb12, HS11.out.2.1.below hb12 HS11.out.2.1.lt, HS11.out.2.2.keep (KeepT.of_below hb12) (by decide) (by decide) (by decide)⟩)
            have s0 := HSTR.out W12 HS12.out.2.1
            have sl := HS12.out.2.1.lt
            have hpk : P + k < 64 := by omega
            clear hb12 HFM HS11 HSTR
            go_wp2_with (fail)
            exact ⟨⟨k + 1, congrArg (Value.int .i64) (by omega), by omega, HS12⟩, by simp [intOf]; omega⟩
        have hki : ¬ (P : Int) + (k : Int) < (P : Int) + (K : Int) := by omega
        clear hk hkl
        have hpos := HS.out.1.gi.fok.pos
        have hfr1 := HLAW.out.free1
        have hfrt : freeN F ≤ 256 := by
          have := HM5pos.out
          unfold freeN
          omega
        have HFR := Lib.hid (msFree HS.out.1)
        rw [hfr1] at HFR
        obtain ⟨fr, hfrd⟩ : ∃ fr, fr = freeN F := ⟨_, rfl⟩
        rw [← hfrd] at hfr hfrt HFR ⊢
        have HFRD := Lib.hid hfrd
        clear hfr1 hfrd hpos
        go_wp2_with (fail)
        refine HFR.out.mono ?_
        rintro e W13 ⟨rfl, hb13⟩
        have HS13 := Lib.hid (show MS w W13 fb F1 so m1 ∧ Blk W13 bw 41 vl.toArray ∧ RowB W13 A1 62 6 (listR m) from ⟨HS.out.1.below hb13, HS.out.2.1.below hb13 HS.out.2.1.lt, HS.out.2.2.keep (KeepT.of_below hb13) (by decide) (by decide) (by decide)⟩)
        clear hb13 HFR HS
        have hun := msUnmap HS13.out.1 (P : Int) (K : Int)
        rw [HLAW.out.un] at hun
        have HUN := Lib.hid hun
        clear hun
        go_wp2_with (fail)
        refine HUN.out.mono ?_
        rintro e W14 ⟨rfl, hM14, hk14⟩
        have HS14 := Lib.hid (show MS w W14 fb F2 so m ∧ Blk W14 bw 41 vl.toArray ∧ RowB W14 A1 62 6 (listR m) from ⟨hM14, hk14.2 bw _ _ (by decide) (by decide) (by decide) HS13.out.2.1, HS13.out.2.2.keep hk14 (by decide) (by decide) (by decide)⟩)
        clear hM14 hk14 HS13 HUN
        have hun := msUnmap HS14.out.1 (P : Int) (K : Int)
        rw [HLAW.out.un2] at hun
        have HUN := Lib.hid hun
        clear hun
        go_wp2_with (fail)
        refine HUN.out.mono ?_
        rintro e W15 ⟨rfl, hM15, hk15⟩
        have HS15 := Lib.hid (show MS w W15 fb F2 so m ∧ Blk W15 bw 41 vl.toArray ∧ RowB W15 A1 62 6 (listR m) from ⟨hM15, hk15.2 bw _ _ (by decide) (by decide) (by decide) HS14.out.2.1, HS14.out.2.2.keep hk15 (by decide) (by decide) (by decide)⟩)
        clear hM15 hk15 HS14 HUN
        go_wp2_with (fail)
        refine (msList HS15.out.1).mono ?_
        rintro e W16 ⟨A3, c3, rfl, hR16, hb16⟩
        have HS16 := Lib.hid (show MS w W16 fb F2 so m ∧ Blk W16 bw 41 vl.toArray ∧ RowB W16 A1 62 6 (listR m) ∧ RowB W16 A3 62 6 (listR m) from ⟨HS15.out.1.below hb16, HS15.out.2.1.below hb16 HS15.out.2.1.lt, HS15.out.2.2.keep (KeepT.of_below hb16) (by decide) (by decide) (by decide), hR16⟩)
        clear hR16 hb16 HS15
        have hll : (list m).length ≤ 64 := listN_len m 64 0
        obtain ⟨L, hL⟩ : ∃ L, L = (list m).length := ⟨_, rfl⟩
        rw [← hL] at hll ⊢
        have HLL := Lib.hid hL
        clear hL
        go_wp2_with (fail)
        go_loopw [29] (fun i wy => ∃ j : Nat, i = .int .i64 (j : Int) ∧ j ≤ L ∧ Hid (MS w wy fb F2 so m ∧ Blk wy bw 41 vl.toArray ∧ RowB wy A1 62 6 (listR m) ∧ RowB wy A3 62 6 (listR m))) (fun i _ => L - (intOf i).toNat)
        case atStart => exact ⟨0, rfl, Nat.zero_le _, HS16⟩
        case round =>
          clear HS16
          obtain ⟨j, rfl, hj, HQ⟩ := hrel
          by_cases hjl : j < L
          case pos =>
            have hji : (j : Int) < (L : Int) := by omega
            obtain ⟨y, hy⟩ : ∃ y, (list m)[j]? = some y := ⟨_, List.getElem?_eq_getElem (by rw [← HLL.out]; exact hjl)⟩
            have hyr : (listR m)[j]? = some (mapCells y) := by unfold listR; rw [List.getElem?_map, hy]; rfl
            obtain ⟨b1, o1, rfl, hl1, hr1⟩ := HQ.out.2.2.1.r j _ hyr
            obtain ⟨b3, o3, rfl, hl3, hr3⟩ := HQ.out.2.2.2.r j _ hyr
            obtain ⟨yp, yf, ya, yb, yc, yd⟩ := y
            have HRG1 := Lib.hid (fun W1 (hb : Below wr.heap.size wr W1) => (show W1.rangeAt b1 (o1 + j * 6) (mapCells (yp, ⟨yf, ya, yb, yc, yd⟩)) from fun i v hv => (hb.cell hl1).trans (hr1 i v hv)))
            have HRG3 := Lib.hid (fun W1 (hb : Below wr.heap.size wr W1) => (show W1.rangeAt b3 (o3 + j * 6) (mapCells (yp, ⟨yf, ya, yb, yc, yd⟩)) from fun i v hv => (hb.cell hl3).trans (hr3 i v hv)))
            have HSZ := Lib.hid (show (Try.prog.info? 62).map (·.size) = some (mapCells (yp, ⟨yf, ya, yb, yc, yd⟩)).length from by kernel_rfl)
            have heq := eqMapped (yp : Int) yf ya yb yc yd
            clear hy hyr hr1 hr3
            go_wp2_with (fail)
            refine wp_region_held_drew (S := fun w' => Below wr.heap.size wr w') (by kernel_rfl) ((Below.refl wr.heap.size wr).drew) (fun hS => ?_)
            refine wpAnyH_takeD (i := 0) (v := ?_) rfl (by kernel_rfl) (by kernel_rfl) (by kernel_rfl) (fun _ _ _ h => h) (Or.inl ⟨by kernel_rfl, ?_⟩) hS ?_
            rotate_left 1
            · intro w hS
              go_simp
              all_goals with_reducible rfl
            try simp only [Act.put, List.setIfInBounds_toArray, List.set_cons_zero, List.set_cons_succ]
            refine wpAnyH_takeD (i := 1) (v := ?_) rfl (by kernel_rfl) (by kernel_rfl) (by kernel_rfl) (fun _ _ _ h => h) (Or.inl ⟨by kernel_rfl, ?_⟩) hS ?_
            rotate_left 1
            · intro w hS
              go_simp
              all_goals with_reducible rfl
            try simp only [Act.put, List.setIfInBounds_toArray, List.set_cons_zero, List.set_cons_succ]
            refine wpAnyH_takeD (i := 2) (v := ?_) rfl (by kernel_rfl) (by kernel_rfl) (by kernel_rfl) (fun _ _ _ h => h) (Or.inl ⟨by kernel_rfl, ?_⟩) hS ?_
            rotate_left 1
            · intro w hS
              go_simp
              all_goals with_reducible rfl
            try simp only [Act.put, List.setIfInBounds_toArray, List.set_cons_zero, List.set_cons_succ]
            refine wpAnyH_takeD (i := 3) (v := .agg #[.int .i64 (yp : Int), .int .i64 yf, .bool ya, .bool yb, .bool yc, .bool yd]) rfl (by kernel_rfl) (by kernel_rfl) (by kernel_rfl) (fun _ _ _ h => h) (yieldsIf_load_mid (by kernel_rfl) 62 _ rfl b3 (o3 + j * 6) rfl (mapCells (yp, ⟨yf, ya, yb, yc, yd⟩)) _ HRG3.out Try.underlying62 rfl HSZ.out) hS ?_
            try simp only [Act.put, List.setIfInBounds_toArray, List.set_cons_zero, List.set_cons_succ]
            refine wpAnyH_takeD (i := 4) (v := ?_) rfl (by kernel_rfl) (by kernel_rfl) (by kernel_rfl) (fun _ _ _ h => h) (Or.inl ⟨by kernel_rfl, ?_⟩) hS ?_
            rotate_left 1
            · intro w hS
              go_simp
              all_goals with_reducible rfl
            try simp only [Act.put, List.setIfInBounds_toArray, List.set_cons_zero, List.set_cons_succ]
            refine wpAnyH_takeD (i := 5) (v := ?_) rfl (by kernel_rfl) (by kernel_rfl) (by kernel_rfl) (fun _ _ _ h => h) (Or.inl ⟨by kernel_rfl, ?_⟩) hS ?_
            rotate_left 1
            · intro w hS
              go_simp
              all_goals with_reducible rfl
            try simp only [Act.put, List.setIfInBounds_toArray, List.set_cons_zero, List.set_cons_succ]
            refine wpAnyH_takeD (i := 6) (v := ?_) rfl (by kernel_rfl) (by kernel_rfl) (by kernel_rfl) (fun _ _ _ h => h) (Or.inl ⟨by kernel_rfl, ?_⟩) hS ?_
            rotate_left 1
            · intro w hS
              go_simp
              all_goals with_reducible rfl
            try simp only [Act.put, List.setIfInBounds_toArray, List.set_cons_zero, List.set_cons_succ]
            refine wpAnyH_takeD (i := 7) (v := .agg #[.int .i64 (yp : Int), .int .i64 yf, .bool ya, .bool yb, .bool yc, .bool yd]) rfl (by kernel_rfl) (by kernel_rfl) (by kernel_rfl) (fun _ _ _ h => h) (yieldsIf_load_mid (by kernel_rfl) 62 _ rfl b1 (o1 + j * 6) rfl (mapCells (yp, ⟨yf, ya, yb, yc, yd⟩)) _ HRG1.out Try.underlying62 rfl HSZ.out) hS ?_
            try simp only [Act.put, List.setIfInBounds_toArray, List.set_cons_zero, List.set_cons_succ]
            refine wpAnyH_takeD (i := 8) (v := ?_) rfl (by kernel_rfl) (by kernel_rfl) (by kernel_rfl) (fun _ _ _ h => h) (Or.inl ⟨by kernel_rfl, ?_⟩) hS ?_
            rotate_left 1
            · intro w hS
              go_simp
              all_goals with_reducible rfl
            try simp only [Act.put, List.setIfInBounds_toArray, List.set_cons_zero, List.set_cons_succ]
            refine wpAnyH_done (by kernel_rfl) ?_ _
            have HQ2 := Lib.hid (show MS w wr.drew fb F2 so m ∧ Blk wr.drew bw 41 vl.toArray ∧ RowB wr.drew (some ⟨b1, o1, none⟩) 62 6 (listR m) ∧ RowB wr.drew (some ⟨b3, o3, none⟩) 62 6 (listR m) from ⟨HQ.out.1.drew, HQ.out.2.1.drew, ⟨HQ.out.2.2.1.r.drew, HQ.out.2.2.1.b⟩, ⟨HQ.out.2.2.2.r.drew, HQ.out.2.2.2.b⟩⟩)
            clear hS HRG1 HRG3 HSZ heq HQ hl1 hl3
            go_wp2
            go_roundw
            case rel => exact ⟨j + 1, by go_num, by omega, HQ2⟩
            case measure => simp [intOf]; omega
          have hji : ¬ (j : Int) < (L : Int) := by omega
          have hjj : j = L := by omega
          subst hjj
          have hpgs := fun W (hb : Below wr.heap.size wr W) => msPages (HQ.out.1.below hb)
          rw [HLAW.out.pages, HVL.out.v] at hpgs
          have hfre := fun W (hb : Below wr.heap.size wr W) => msFree (HQ.out.1.below hb)
          rw [HLAW.out.free2, ← HFRD.out] at hfre
          have HPG := Lib.hid hpgs
          have HFR := Lib.hid hfre
          have HRG := Lib.hid (fun W (hb : Below wr.heap.size wr W) => (show W.rangeAt bw 0 vl from fun j v hv => by rw [Nat.zero_add, (HQ.out.2.1.below hb HQ.out.2.1.lt).cell, List.getElem?_toArray]; exact hv))
          have HSZ := Lib.hid (show (Try.prog.info? 41).map (·.size) = some vl.length from by rw [HVL.out.len]; kernel_rfl)
          have heq := HVL.out.eq
          clear hpgs hfre hjl hj
          go_wp2_with (fail)
          refine wp_region_held_drew (S := fun w' => Below wr.heap.size wr w') (by kernel_rfl) ((Below.refl wr.heap.size wr).drew) (fun hS => ?_)
          refine wpAnyH_takeD (i := 0) (v := ?_) rfl (by kernel_rfl) (by kernel_rfl) (by kernel_rfl) (fun _ _ _ h => h) (Or.inl ⟨by kernel_rfl, ?_⟩) hS ?_
          rotate_left 1
          · intro w hS
            go_simp
            all_goals with_reducible rfl
          try simp only [Act.put, List.setIfInBounds_toArray, List.set_cons_zero, List.set_cons_succ]
          refine wpAnyH_takeD (i := 1) (v := ?_) rfl (by kernel_rfl) (by kernel_rfl) (by kernel_rfl) (fun _ _ _ h => h) (Or.inl ⟨by kernel_rfl, ?_⟩) hS ?_
          rotate_left 1
          · intro w hS
            go_simp
            all_goals with_reducible rfl
          try simp only [Act.put, List.setIfInBounds_toArray, List.set_cons_zero, List.set_cons_succ]
          refine wpAnyH_takeD (i := 2) (v := ?_) rfl (by kernel_rfl) (by kernel_rfl) (by kernel_rfl) (fun _ _ _ h => h) (Or.inl ⟨by kernel_rfl, ?_⟩) hS ?_
          rotate_left 1
          · intro w hS
            go_simp
            all_goals with_reducible rfl
          try simp only [Act.put, List.setIfInBounds_toArray, List.set_cons_zero, List.set_cons_succ]
          refine wpAnyH_takeD (i := 4) (v := .agg vl.toArray) rfl (by kernel_rfl) (by kernel_rfl) (by kernel_rfl) (fun _ _ _ h => h) (yieldsIf_load_mid (by kernel_rfl) 41 _ rfl bw 0 rfl vl _ HRG.out Try.underlying41 rfl HSZ.out) hS ?_
          try simp only [Act.put, List.setIfInBounds_toArray, List.set_cons_zero, List.set_cons_succ]
          refine wpAnyH_ready (rs := [3]) (by kernel_rfl) (by simp) ?_
          refine AllReadyH.consD rfl (fun K hK => ?_) AllReadyH.nil
          go_simp
          refine (HPG.out _ hS).mono ?_
          rintro e Va ⟨rfl, hba⟩
          refine hK.out _ _ (bl_step hS hba) (fun hS => ?_)
          clear hK K
          try simp only [Act.put, List.setIfInBounds_toArray, List.set_cons_zero, List.set_cons_succ]
          refine wpAnyH_takeD (i := 5) (v := ?_) rfl (by kernel_rfl) (by kernel_rfl) (by kernel_rfl) (fun _ _ _ h => h) (Or.inl ⟨by kernel_rfl, ?_⟩) hS ?_
          rotate_left 1
          · intro w hS
            go_simp
            all_goals with_reducible rfl
          try simp only [Act.put, List.setIfInBounds_toArray, List.set_cons_zero, List.set_cons_succ]
          refine wpAnyH_takeD (i := 6) (v := ?_) rfl (by kernel_rfl) (by kernel_rfl) (by kernel_rfl) (fun _ _ _ h => h) (Or.inl ⟨by kernel_rfl, ?_⟩) hS ?_
          rotate_left 1
          · intro w hS
            go_simp
            all_goals with_reducible rfl
          try simp only [Act.put, List.setIfInBounds_toArray, List.set_cons_zero, List.set_cons_succ]
          refine wpAnyH_takeD (i := 7) (v := ?_) rfl (by kernel_rfl) (by kernel_rfl) (by kernel_rfl) (fun _ _ _ h => h) (Or.inl ⟨by kernel_rfl, ?_⟩) hS ?_
          rotate_left 1
          · intro w hS
            go_simp
            all_goals with_reducible rfl
          try simp only [Act.put, List.setIfInBounds_toArray, List.set_cons_zero, List.set_cons_succ]
          refine wpAnyH_takeD (i := 8) (v := ?_) rfl (by kernel_rfl) (by kernel_rfl) (by kernel_rfl) (fun _ _ _ h => h) (Or.inl ⟨by kernel_rfl, ?_⟩) hS ?_
          rotate_left 1
          · intro w hS
            go_simp
            all_goals with_reducible rfl
          try simp only [Act.put, List.setIfInBounds_toArray, List.set_cons_zero, List.set_cons_succ]
          refine wpAnyH_takeD (i := 10) (v := ?_) rfl (by kernel_rfl) (by kernel_rfl) (by kernel_rfl) (fun _ _ _ h => h) (Or.inl ⟨by kernel_rfl, ?_⟩) hS ?_
          rotate_left 1
          · intro w hS
            go_simp
            all_goals with_reducible rfl
          try simp only [Act.put, List.setIfInBounds_toArray, List.set_cons_zero, List.set_cons_succ]
          refine wpAnyH_ready (rs := [9]) (by kernel_rfl) (by simp) ?_
          refine AllReadyH.consD rfl (fun K hK => ?_) AllReadyH.nil
          go_simp
          refine (HFR.out _ hS).mono ?_
          rintro e Vb ⟨rfl, hbb⟩
          refine hK.out _ _ (bl_step hS hbb) (fun hS => ?_)
          clear hK K
          try simp only [Act.put, List.setIfInBounds_toArray, List.set_cons_zero, List.set_cons_succ]
          refine wpAnyH_takeD (i := 11) (v := ?_) rfl (by kernel_rfl) (by kernel_rfl) (by kernel_rfl) (fun _ _ _ h => h) (Or.inl ⟨by kernel_rfl, ?_⟩) hS ?_
          rotate_left 1
          · intro w hS
            go_simp
            all_goals with_reducible rfl
          try simp only [Act.put, List.setIfInBounds_toArray, List.set_cons_zero, List.set_cons_succ]
          refine wpAnyH_takeD (i := 12) (v := ?_) rfl (by kernel_rfl) (by kernel_rfl) (by kernel_rfl) (fun _ _ _ h => h) (Or.inl ⟨by kernel_rfl, ?_⟩) hS ?_
          rotate_left 1
          · intro w hS
            go_simp
            all_goals with_reducible rfl
          try simp only [Act.put, List.setIfInBounds_toArray, List.set_cons_zero, List.set_cons_succ]
          refine wpAnyH_takeD (i := 13) (v := ?_) rfl (by kernel_rfl) (by kernel_rfl) (by kernel_rfl) (fun _ _ _ h => h) (Or.inl ⟨by kernel_rfl, ?_⟩) hS ?_
          rotate_left 1
          · intro w hS
            go_simp
            all_goals with_reducible rfl
          try simp only [Act.put, List.setIfInBounds_toArray, List.set_cons_zero, List.set_cons_succ]
          refine wpAnyH_takeD (i := 14) (v := ?_) rfl (by kernel_rfl) (by kernel_rfl) (by kernel_rfl) (fun _ _ _ h => h) (Or.inl ⟨by kernel_rfl, ?_⟩) hS ?_
          rotate_left 1
          · intro w hS
            go_simp
            all_goals with_reducible rfl
          try simp only [Act.put, List.setIfInBounds_toArray, List.set_cons_zero, List.set_cons_succ]
          refine wpAnyH_takeD (i := 15) (v := ?_) rfl (by kernel_rfl) (by kernel_rfl) (by kernel_rfl) (fun _ _ _ h => h) (Or.inl ⟨by kernel_rfl, ?_⟩) hS ?_
          rotate_left 1
          · intro w hS
            go_simp
            all_goals with_reducible rfl
          try simp only [Act.put, List.setIfInBounds_toArray, List.set_cons_zero, List.set_cons_succ]
          refine wpAnyH_takeD (i := 16) (v := ?_) rfl (by kernel_rfl) (by kernel_rfl) (by kernel_rfl) (fun _ _ _ h => h) (Or.inl ⟨by kernel_rfl, ?_⟩) hS ?_
          rotate_left 1
          · intro w hS
            go_simp
            all_goals with_reducible rfl
          try simp only [Act.put, List.setIfInBounds_toArray, List.set_cons_zero, List.set_cons_succ]
          refine wpAnyH_takeD (i := 17) (v := ?_) rfl (by kernel_rfl) (by kernel_rfl) (by kernel_rfl) (fun _ _ _ h => h) (Or.inl ⟨by kernel_rfl, ?_⟩) hS ?_
          rotate_left 1
          · intro w hS
            go_simp
            all_goals with_reducible rfl
          try simp only [Act.put, List.setIfInBounds_toArray, List.set_cons_zero, List.set_cons_succ]
          refine wpAnyH_takeD (i := 18) (v := ?_) rfl (by kernel_rfl) (by kernel_rfl) (by kernel_rfl) (fun _ _ _ h => h) (Or.inl ⟨by kernel_rfl, ?_⟩) hS ?_
          rotate_left 1
          · intro w hS
            go_simp
            all_goals with_reducible rfl
          try simp only [Act.put, List.setIfInBounds_toArray, List.set_cons_zero, List.set_cons_succ]
          refine wpAnyH_takeD (i := 19) (v := ?_) rfl (by kernel_rfl) (by kernel_rfl) (by kernel_rfl) (fun _ _ _ h => h) (Or.inl ⟨by kernel_rfl, ?_⟩) hS ?_
          rotate_left 1
          · intro w hS
            go_simp
            all_goals with_reducible rfl
          try simp only [Act.put, List.setIfInBounds_toArray, List.set_cons_zero, List.set_cons_succ]
          refine wpAnyH_takeD (i := 20) (v := ?_) rfl (by kernel_rfl) (by kernel_rfl) (by kernel_rfl) (fun _ _ _ h => h) (Or.inl ⟨by kernel_rfl, ?_⟩) hS ?_
          rotate_left 1
          · intro w hS
            go_simp
            all_goals with_reducible rfl
          try simp only [Act.put, List.setIfInBounds_toArray, List.set_cons_zero, List.set_cons_succ]
          refine wpAnyH_takeD (i := 21) (v := ?_) rfl (by kernel_rfl) (by kernel_rfl) (by kernel_rfl) (fun _ _ _ h => h) (Or.inl ⟨by kernel_rfl, ?_⟩) hS ?_
          rotate_left 1
          · intro w hS
            go_simp
            all_goals with_reducible rfl
          try simp only [Act.put, List.setIfInBounds_toArray, List.set_cons_zero, List.set_cons_succ]
          refine wpAnyH_takeD (i := 22) (v := ?_) rfl (by kernel_rfl) (by kernel_rfl) (by kernel_rfl) (fun _ _ _ h => h) (Or.inl ⟨by kernel_rfl, ?_⟩) hS ?_
          rotate_left 1
          · intro w hS
            go_simp
            all_goals with_reducible rfl
          try simp only [Act.put, List.setIfInBounds_toArray, List.set_cons_zero, List.set_cons_succ]
          refine wpAnyH_takeD (i := 23) (v := ?_) rfl (by kernel_rfl) (by kernel_rfl) (by kernel_rfl) (fun _ _ _ h => h) (Or.inl ⟨by kernel_rfl, ?_⟩) hS ?_
          rotate_left 1
          · intro w hS
            go_simp
            all_goals with_reducible rfl
          try simp only [Act.put, List.setIfInBounds_toArray, List.set_cons_zero, List.set_cons_succ]
          refine wpAnyH_takeD (i := 24) (v := ?_) rfl (by kernel_rfl) (by kernel_rfl) (by kernel_rfl) (fun _ _ _ h => h) (Or.inl ⟨by kernel_rfl, ?_⟩) hS ?_
          rotate_left 1
          · intro w hS
            go_simp
            all_goals with_reducible rfl
          try simp only [Act.put, List.setIfInBounds_toArray, List.set_cons_zero, List.set_cons_succ]
          refine wpAnyH_takeD (i := 25) (v := ?_) rfl (by kernel_rfl) (by kernel_rfl) (by kernel_rfl) (fun _ _ _ h => h) (Or.inl ⟨by kernel_rfl, ?_⟩) hS ?_
          rotate_left 1
          · intro w hS
            go_simp
            all_goals with_reducible rfl
          try simp only [Act.put, List.setIfInBounds_toArray, List.set_cons_zero, List.set_cons_succ]
          refine wpAnyH_done (by kernel_rfl) ?_ _
          go_wp2
          go_ret
          exact ⟨rfl, HQ.out.1.lo.trans (hS.mono HQ.out.1.lo.size)⟩
end Go.Proofs.Ytolejpbdbjkndaa

/-
  The law SpaceClones, walked. Condition: the calls lie in memory.
-/
import Derived.Test.YtolejpbdbjkndaaSpV
import Derived.Test.YtolejpbdbjkndaaSpW
namespace Go.Proofs.Ytolejpbdbjkndaa
open Go.RowKit Go.Shelf Go.Deep
set_option linter.unusedVariables false
set_option linter.unusedSimpArgs false
attribute [local go_sem] Oper.semAt_some

theorem rangeAt_pg {w : World} {b : Nat} {vl : List Value} (h : Blk w b 41 vl.toArray) {W : World} (hb : Below w.heap.size w W) : W.rangeAt b 0 vl := fun j v hv => by
  rw [Nat.zero_add, (h.below hb h.lt).cell, List.getElem?_toArray]; exact hv
theorem size_pg {vl : List Value} (h : PgL vl) : (Try.prog.info? 41).map (·.size) = some vl.length := by rw [h.len]; kernel_rfl
theorem blk_keep {W W' : World} {b : Nat} {vl : List Value} (h : Blk W b 41 vl.toArray) (hk : KeepT W W') : Blk W' b 41 vl.toArray := hk.2 b _ _ (by decide) (by decide) (by decide) h

set_option maxRecDepth 100000 in
set_option maxHeartbeats 4000000 in
theorem clonesWalk {w : World} (many : Int) (A : Option Addr) (c : Nat) (l : List OpR) (hO : OpsA w A l) (hl : l.length ≤ maxLen) (A2 : Option Addr) (c2 : Nat) (l2 : List OpR) (hO2 : OpsA w A2 l2) (hl2 : l2.length ≤ maxLen) :
    Calls Try.prog 3 #[.int .i64 many, .slice A l.length c, .slice A2 l2.length c2] w fun e w' => e = .returned (.bool true) ∧ Below w.heap.size w w' := by
  have hml : maxLen ≤ 9223372036854775807 := by decide
  have HO := Lib.hid hO
  have HGL := Lib.hid hl
  have HO2 := Lib.hid hO2
  have HGL2 := Lib.hid hl2
  clear hO hO2
  go_enter Try.func3, Try.ntmps3
  go_wp2_with (fail)
  refine alive_any.mono ?_
  rintro e W1 ⟨rfl, hb1⟩
  have HB1 := Lib.hid hb1
  clear hb1
  by_cases hmany : 1 ≤ many ∧ many ≤ 256
  case neg =>
    have HMB := Lib.hid (frNew_bad (w := W1) many (by omega))
    clear hmany
    go_wp2_with (fail)
    refine HMB.out.mono ?_
    rintro e _ ⟨rfl, rfl⟩
    go_wp2_with (fail)
    refine (great_any c (HO.out.below HB1.out) HGL.out 20).mono ?_
    rintro e _ ⟨r, rfl, hr, rfl⟩
    clear hr
    by_cases h0 : 0 < r
    · go_wp2
      go_ret
      exact ⟨rfl, HB1.out⟩
    go_wp2_with (fail)
    refine (great_any c2 (HO2.out.below HB1.out) HGL2.out 20).mono ?_
    rintro e _ ⟨r2, rfl, hr, rfl⟩
    clear hr
    by_cases h1 : 0 < r2
    · go_wp2
      go_ret
      exact ⟨rfl, HB1.out⟩
    by_cases h40 : 40 < many
    · go_wp2
      go_ret
      exact ⟨rfl, HB1.out⟩
    · go_wp2
      go_ret
      exact ⟨rfl, HB1.out⟩
  obtain ⟨N, rfl⟩ := Int.eq_ofNat_of_zero_le (show 0 ≤ many by omega)
  have hN1 : 1 ≤ N ∧ N ≤ 256 := by omega
  clear hmany
  go_wp2_with (fail)
  refine (asFrames N hN1).mono ?_
  rintro e W2 ⟨fb, lb, rfl, hf, hb2, g1, g2⟩
  have HF2 := Lib.hid hf
  have HB2 := Lib.hid (bl_step HB1.out hb2)
  have HG := Lib.hid (show w.heap.size ≤ fb ∧ w.heap.size ≤ lb from ⟨Nat.le_trans HB1.out.size g1, Nat.le_trans HB1.out.size g2⟩)
  clear hf hb2 g1 g2
  go_wp2_with (fail)
  refine (great_any c (HO.out.below HB2.out) HGL.out 20).mono ?_
  rintro e _ ⟨r, rfl, hr, rfl⟩
  by_cases h0 : 0 < r
  case pos =>
    clear hr
    go_wp2
    go_ret
    exact ⟨rfl, HB2.out⟩
  have HGR := Lib.hid (greatL_no (show greatL l 20 = false from by
    cases hg : greatL l 20
    · rfl
    · exact absurd (hr.2 hg) h0))
  clear hr
  go_wp2_with (fail)
  refine (great_any c2 (HO2.out.below HB2.out) HGL2.out 20).mono ?_
  rintro e _ ⟨r2, rfl, hr, rfl⟩
  by_cases h1 : 0 < r2
  case pos =>
    clear hr
    go_wp2
    go_ret
    exact ⟨rfl, HB2.out⟩
  have HGR2 := Lib.hid (greatL_no (show greatL l2 20 = false from by
    cases hg : greatL l2 20
    · rfl
    · exact absurd (hr.2 hg) h1))
  clear hr
  by_cases h40 : 40 < (N : Int)
  case pos =>
    go_wp2
    go_ret
    exact ⟨rfl, HB2.out⟩
  go_wp2_with (fail)
  refine (msSpace HF2.out hN1 HB2.out HG.out.1 HG.out.2).mono ?_
  rintro e W3 ⟨so, rfl, hM⟩
  have HM3 := Lib.hid (show MS w W3 fb (Fs.new N) so m0 ∧ NS m0 from ⟨hM, NS.start⟩)
  clear hM HF2 HB2 HG HB1 hN1 h40 h0 h1
  go_wp2_with (fail)
  go_loopw [11] (fun i wr => ∃ k : Nat, i = .int .i64 (k : Int) ∧ k ≤ l.length ∧ ∃ F m, Hid (MS w wr fb F so m ∧ NS m)) (fun i _ => l.length - (intOf i).toNat)
  case atStart => exact ⟨0, rfl, Nat.zero_le _, _, _, HM3⟩
  case round =>
    clear HM3
    obtain ⟨k, rfl, hk, F, m, HM⟩ := hrel
    by_cases hkl : k < l.length
    case pos =>
      have hki : (k : Int) < (l.length : Int) := by omega
      have hxe : l[k]? = some l[k] := List.getElem?_eq_getElem hkl
      have hmem : l[k] ∈ l := List.getElem_mem hkl
      obtain ⟨b, off, rfl, hlt, c0, c1, c2, c3, c4, c5, c6, c8⟩ := op_at HO.out hxe
      have HX := Lib.hid (HO.out.2 _ hmem)
      have HX3 := Lib.hid (HGR.out.2 _ hmem)
      generalize l[k] = x at *
      obtain ⟨xk, xwho, xp, xn, xwr, xsh, xa, xwd, xA, xc, xbs, xx⟩ := x
      simp only at c2 c3 c4 c5 c6 c8 HX HX3
      have HFX := Lib.hid (fun W1 (hb : Below w.heap.size w W1) => (show W1.cell? ⟨b, off + k * 14 + 2, none⟩ = some (.int .i64 xp) ∧ W1.cell? ⟨b, off + k * 14 + 3, none⟩ = some (.int .i64 xn) ∧ W1.cell? ⟨b, off + k * 14 + 4, none⟩ = some (.bool xwr) ∧ W1.cell? ⟨b, off + k * 14 + 6, none⟩ = some (.int .u32 xa) ∧ W1.cell? ⟨b, off + k * 14 + 8, none⟩ = some (.slice xA xbs.length xc) from
        ⟨(hb.cell hlt).trans c2, (hb.cell hlt).trans c3, (hb.cell hlt).trans c4, (hb.cell hlt).trans c6, (hb.cell hlt).trans c8⟩))
      clear c0 c1 c2 c3 c4 c5 c6 c8 hxe hmem
      have HMP := Lib.hid (msMap HM.out.1.drew xp xn xwr false)
      have HNS := Lib.hid (HM.out.2.map (F := F) xp xn xwr)
      generalize mapA F m xp xn xwr false = r1 at *
      go_wp2_with (fail)
      refine wp_region_held_drew (S := fun w' => Below w.heap.size w w') (by kernel_rfl) (HM.out.1.lo.drew) (fun hS => ?_)
      refine wpAnyH_takeD (i := 0) (v := ?_) rfl (by kernel_rfl) (by kernel_rfl) (by kernel_rfl) (fun _ _ _ h => h) (Or.inl ⟨by kernel_rfl, ?_⟩) hS ?_
      rotate_left 1
      · intro w hS
        obtain ⟨d2, d3, d4, d6, d8⟩ := HFX.out _ hS
        go_simp
        all_goals with_reducible rfl
      try simp only [Act.put, List.setIfInBounds_toArray, List.set_cons_zero, List.set_cons_succ]
      refine wpAnyH_takeD (i := 1) (v := ?_) rfl (by kernel_rfl) (by kernel_rfl) (by kernel_rfl) (fun _ _ _ h => h) (Or.inl ⟨by kernel_rfl, ?_⟩) hS ?_
      rotate_left 1
      · intro w hS
        obtain ⟨d2, d3, d4, d6, d8⟩ := HFX.out _ hS
        go_simp
        all_goals with_reducible rfl
      try simp only [Act.put, List.setIfInBounds_toArray, List.set_cons_zero, List.set_cons_succ]
      refine wpAnyH_takeD (i := 2) (v := ?_) rfl (by kernel_rfl) (by kernel_rfl) (by kernel_rfl) (fun _ _ _ h => h) (Or.inl ⟨by kernel_rfl, ?_⟩) hS ?_
      rotate_left 1
      · intro w hS
        obtain ⟨d2, d3, d4, d6, d8⟩ := HFX.out _ hS
        go_simp
        all_goals with_reducible rfl
      try simp only [Act.put, List.setIfInBounds_toArray, List.set_cons_zero, List.set_cons_succ]
      refine wpAnyH_takeD (i := 3) (v := ?_) rfl (by kernel_rfl) (by kernel_rfl) (by kernel_rfl) (fun _ _ _ h => h) (Or.inl ⟨by kernel_rfl, ?_⟩) hS ?_
      rotate_left 1
      · intro w hS
        obtain ⟨d2, d3, d4, d6, d8⟩ := HFX.out _ hS
        go_simp
        all_goals with_reducible rfl
      try simp only [Act.put, List.setIfInBounds_toArray, List.set_cons_zero, List.set_cons_succ]
      refine wpAnyH_takeD (i := 4) (v := ?_) rfl (by kernel_rfl) (by kernel_rfl) (by kernel_rfl) (fun _ _ _ h => h) (Or.inl ⟨by kernel_rfl, ?_⟩) hS ?_
      rotate_left 1
      · intro w hS
        obtain ⟨d2, d3, d4, d6, d8⟩ := HFX.out _ hS
        go_simp
        all_goals with_reducible rfl
      try simp only [Act.put, List.setIfInBounds_toArray, List.set_cons_zero, List.set_cons_succ]
      refine wpAnyH_takeD (i := 5) (v := ?_) rfl (by kernel_rfl) (by kernel_rfl) (by kernel_rfl) (fun _ _ _ h => h) (Or.inl ⟨by kernel_rfl, ?_⟩) hS ?_
      rotate_left 1
      · intro w hS
        obtain ⟨d2, d3, d4, d6, d8⟩ := HFX.out _ hS
        go_simp
        all_goals with_reducible rfl
      try simp only [Act.put, List.setIfInBounds_toArray, List.set_cons_zero, List.set_cons_succ]
      refine wpAnyH_takeD (i := 6) (v := ?_) rfl (by kernel_rfl) (by kernel_rfl) (by kernel_rfl) (fun _ _ _ h => h) (Or.inl ⟨by kernel_rfl, ?_⟩) hS ?_
      rotate_left 1
      · intro w hS
        obtain ⟨d2, d3, d4, d6, d8⟩ := HFX.out _ hS
        go_simp
        all_goals with_reducible rfl
      try simp only [Act.put, List.setIfInBounds_toArray, List.set_cons_zero, List.set_cons_succ]
      refine wpAnyH_takeD (i := 7) (v := ?_) rfl (by kernel_rfl) (by kernel_rfl) (by kernel_rfl) (fun _ _ _ h => h) (Or.inl ⟨by kernel_rfl, ?_⟩) hS ?_
      rotate_left 1
      · intro w hS
        obtain ⟨d2, d3, d4, d6, d8⟩ := HFX.out _ hS
        go_simp
        all_goals with_reducible rfl
      try simp only [Act.put, List.setIfInBounds_toArray, List.set_cons_zero, List.set_cons_succ]
      refine wpAnyH_takeD (i := 8) (v := ?_) rfl (by kernel_rfl) (by kernel_rfl) (by kernel_rfl) (fun _ _ _ h => h) (Or.inl ⟨by kernel_rfl, ?_⟩) hS ?_
      rotate_left 1
      · intro w hS
        obtain ⟨d2, d3, d4, d6, d8⟩ := HFX.out _ hS
        go_simp
        all_goals with_reducible rfl
      try simp only [Act.put, List.setIfInBounds_toArray, List.set_cons_zero, List.set_cons_succ]
      refine wpAnyH_takeD (i := 9) (v := ?_) rfl (by kernel_rfl) (by kernel_rfl) (by kernel_rfl) (fun _ _ _ h => h) (Or.inl ⟨by kernel_rfl, ?_⟩) hS ?_
      rotate_left 1
      · intro w hS
        obtain ⟨d2, d3, d4, d6, d8⟩ := HFX.out _ hS
        go_simp
        all_goals with_reducible rfl
      try simp only [Act.put, List.setIfInBounds_toArray, List.set_cons_zero, List.set_cons_succ]
      refine wpAnyH_takeD (i := 10) (v := ?_) rfl (by kernel_rfl) (by kernel_rfl) (by kernel_rfl) (fun _ _ _ h => h) (Or.inl ⟨by kernel_rfl, ?_⟩) hS ?_
      rotate_left 1
      · intro w hS
        obtain ⟨d2, d3, d4, d6, d8⟩ := HFX.out _ hS
        go_simp
        all_goals with_reducible rfl
      try simp only [Act.put, List.setIfInBounds_toArray, List.set_cons_zero, List.set_cons_succ]
      refine wpAnyH_takeD (i := 11) (v := ?_) rfl (by kernel_rfl) (by kernel_rfl) (by kernel_rfl) (fun _ _ _ h => h) (Or.inl ⟨by kernel_rfl, ?_⟩) hS ?_
      rotate_left 1
      · intro w hS
        obtain ⟨d2, d3, d4, d6, d8⟩ := HFX.out _ hS
        go_simp
        all_goals with_reducible rfl
      try simp only [Act.put, List.setIfInBounds_toArray, List.set_cons_zero, List.set_cons_succ]
      refine wpAnyH_takeD (i := 12) (v := ?_) rfl (by kernel_rfl) (by kernel_rfl) (by kernel_rfl) (fun _ _ _ h => h) (Or.inl ⟨by kernel_rfl, ?_⟩) hS ?_
      rotate_left 1
      · intro w hS
        obtain ⟨d2, d3, d4, d6, d8⟩ := HFX.out _ hS
        go_simp
        all_goals with_reducible rfl
      try simp only [Act.put, List.setIfInBounds_toArray, List.set_cons_zero, List.set_cons_succ]
      refine wpAnyH_takeD (i := 13) (v := ?_) rfl (by kernel_rfl) (by kernel_rfl) (by kernel_rfl) (fun _ _ _ h => h) (Or.inl ⟨by kernel_rfl, ?_⟩) hS ?_
      rotate_left 1
      · intro w hS
        obtain ⟨d2, d3, d4, d6, d8⟩ := HFX.out _ hS
        go_simp
        all_goals with_reducible rfl
      try simp only [Act.put, List.setIfInBounds_toArray, List.set_cons_zero, List.set_cons_succ]
      refine wpAnyH_takeD (i := 14) (v := ?_) rfl (by kernel_rfl) (by kernel_rfl) (by kernel_rfl) (fun _ _ _ h => h) (Or.inl ⟨by kernel_rfl, ?_⟩) hS ?_
      rotate_left 1
      · intro w hS
        obtain ⟨d2, d3, d4, d6, d8⟩ := HFX.out _ hS
        go_simp
        all_goals with_reducible rfl
      try simp only [Act.put, List.setIfInBounds_toArray, List.set_cons_zero, List.set_cons_succ]
      refine wpAnyH_takeD (i := 15) (v := ?_) rfl (by kernel_rfl) (by kernel_rfl) (by kernel_rfl) (fun _ _ _ h => h) (Or.inl ⟨by kernel_rfl, ?_⟩) hS ?_
      rotate_left 1
      · intro w hS
        obtain ⟨d2, d3, d4, d6, d8⟩ := HFX.out _ hS
        go_simp
        all_goals with_reducible rfl
      try simp only [Act.put, List.setIfInBounds_toArray, List.set_cons_zero, List.set_cons_succ]
      refine wpAnyH_ready (rs := [16]) (by kernel_rfl) (by simp) ?_
      refine AllReadyH.consD rfl (fun K hK => ?_) AllReadyH.nil
      go_simp
      refine (HMP.out).mono ?_
      rintro e V ⟨rfl, hM1, _⟩
      refine hK.out _ _ (hM1.lo) (fun hS => ?_)
      clear hK K
      try simp only [Act.put, List.setIfInBounds_toArray, List.set_cons_zero, List.set_cons_succ]
      refine wpAnyH_done (by kernel_rfl) ?_ _
      have HM1 := Lib.hid hM1
      clear hM1 HMP hS
      have HXL := Lib.hid (show xbs.length ≤ 4096 from by have h3 : xbs.length ≤ 300 := HX3.out; omega)
      have HW := Lib.hid (msWrite HM1.out.drew xa HX.out.2 HX.out.1 HXL.out)
      have HNS2 := Lib.hid (NS.write (ms := fun _ => r1.2.2) (i := 0) HM1.out.gi (by decide) HNS.out xa HXL.out HX.out.1.low)
      generalize writeA r1.2.1 r1.2.2 xa xbs = r2 at *
      go_wp2_with (fail)
      refine wp_region_held_drew (S := fun w' => Below w.heap.size w w') (by kernel_rfl) (HM1.out.lo.drew) (fun hS => ?_)
      refine wpAnyH_takeD (i := 0) (v := ?_) rfl (by kernel_rfl) (by kernel_rfl) (by kernel_rfl) (fun _ _ _ h => h) (Or.inl ⟨by kernel_rfl, ?_⟩) hS ?_
      rotate_left 1
      · intro w hS
        obtain ⟨d2, d3, d4, d6, d8⟩ := HFX.out _ hS
        go_simp
        all_goals with_reducible rfl
      try simp only [Act.put, List.setIfInBounds_toArray, List.set_cons_zero, List.set_cons_succ]
      refine wpAnyH_takeD (i := 1) (v := ?_) rfl (by kernel_rfl) (by kernel_rfl) (by kernel_rfl) (fun _ _ _ h => h) (Or.inl ⟨by kernel_rfl, ?_⟩) hS ?_
      rotate_left 1
      · intro w hS
        obtain ⟨d2, d3, d4, d6, d8⟩ := HFX.out _ hS
        go_simp
        all_goals with_reducible rfl
      try simp only [Act.put, List.setIfInBounds_toArray, List.set_cons_zero, List.set_cons_succ]
      refine wpAnyH_takeD (i := 2) (v := ?_) rfl (by kernel_rfl) (by kernel_rfl) (by kernel_rfl) (fun _ _ _ h => h) (Or.inl ⟨by kernel_rfl, ?_⟩) hS ?_
      rotate_left 1
      · intro w hS
        obtain ⟨d2, d3, d4, d6, d8⟩ := HFX.out _ hS
        go_simp
        all_goals with_reducible rfl
      try simp only [Act.put, List.setIfInBounds_toArray, List.set_cons_zero, List.set_cons_succ]
      refine wpAnyH_takeD (i := 3) (v := ?_) rfl (by kernel_rfl) (by kernel_rfl) (by kernel_rfl) (fun _ _ _ h => h) (Or.inl ⟨by kernel_rfl, ?_⟩) hS ?_
      rotate_left 1
      · intro w hS
        obtain ⟨d2, d3, d4, d6, d8⟩ := HFX.out _ hS
        go_simp
        all_goals with_reducible rfl
      try simp only [Act.put, List.setIfInBounds_toArray, List.set_cons_zero, List.set_cons_succ]
      refine wpAnyH_takeD (i := 4) (v := ?_) rfl (by kernel_rfl) (by kernel_rfl) (by kernel_rfl) (fun _ _ _ h => h) (Or.inl ⟨by kernel_rfl, ?_⟩) hS ?_
      rotate_left 1
      · intro w hS
        obtain ⟨d2, d3, d4, d6, d8⟩ := HFX.out _ hS
        go_simp
        all_goals with_reducible rfl
      try simp only [Act.put, List.setIfInBounds_toArray, List.set_cons_zero, List.set_cons_succ]
      refine wpAnyH_takeD (i := 5) (v := ?_) rfl (by kernel_rfl) (by kernel_rfl) (by kernel_rfl) (fun _ _ _ h => h) (Or.inl ⟨by kernel_rfl, ?_⟩) hS ?_
      rotate_left 1
      · intro w hS
        obtain ⟨d2, d3, d4, d6, d8⟩ := HFX.out _ hS
        go_simp
        all_goals with_reducible rfl
      try simp only [Act.put, List.setIfInBounds_toArray, List.set_cons_zero, List.set_cons_succ]
      refine wpAnyH_takeD (i := 6) (v := ?_) rfl (by kernel_rfl) (by kernel_rfl) (by kernel_rfl) (fun _ _ _ h => h) (Or.inl ⟨by kernel_rfl, ?_⟩) hS ?_
      rotate_left 1
      · intro w hS
        obtain ⟨d2, d3, d4, d6, d8⟩ := HFX.out _ hS
        go_simp
        all_goals with_reducible rfl
      try simp only [Act.put, List.setIfInBounds_toArray, List.set_cons_zero, List.set_cons_succ]
      refine wpAnyH_takeD (i := 7) (v := ?_) rfl (by kernel_rfl) (by kernel_rfl) (by kernel_rfl) (fun _ _ _ h => h) (Or.inl ⟨by kernel_rfl, ?_⟩) hS ?_
      rotate_left 1
      · intro w hS
        obtain ⟨d2, d3, d4, d6, d8⟩ := HFX.out _ hS
        go_simp
        all_goals with_reducible rfl
      try simp only [Act.put, List.setIfInBounds_toArray, List.set_cons_zero, List.set_cons_succ]
      refine wpAnyH_takeD (i := 8) (v := ?_) rfl (by kernel_rfl) (by kernel_rfl) (by kernel_rfl) (fun _ _ _ h => h) (Or.inl ⟨by kernel_rfl, ?_⟩) hS ?_
      rotate_left 1
      · intro w hS
        obtain ⟨d2, d3, d4, d6, d8⟩ := HFX.out _ hS
        go_simp
        all_goals with_reducible rfl
      try simp only [Act.put, List.setIfInBounds_toArray, List.set_cons_zero, List.set_cons_succ]
      refine wpAnyH_takeD (i := 9) (v := ?_) rfl (by kernel_rfl) (by kernel_rfl) (by kernel_rfl) (fun _ _ _ h => h) (Or.inl ⟨by kernel_rfl, ?_⟩) hS ?_
      rotate_left 1
      · intro w hS
        obtain ⟨d2, d3, d4, d6, d8⟩ := HFX.out _ hS
        go_simp
        all_goals with_reducible rfl
      try simp only [Act.put, List.setIfInBounds_toArray, List.set_cons_zero, List.set_cons_succ]
      refine wpAnyH_takeD (i := 10) (v := ?_) rfl (by kernel_rfl) (by kernel_rfl) (by kernel_rfl) (fun _ _ _ h => h) (Or.inl ⟨by kernel_rfl, ?_⟩) hS ?_
      rotate_left 1
      · intro w hS
        obtain ⟨d2, d3, d4, d6, d8⟩ := HFX.out _ hS
        go_simp
        all_goals with_reducible rfl
      try simp only [Act.put, List.setIfInBounds_toArray, List.set_cons_zero, List.set_cons_succ]
      refine wpAnyH_ready (rs := [11]) (by kernel_rfl) (by simp) ?_
      refine AllReadyH.consD rfl (fun K hK => ?_) AllReadyH.nil
      go_simp
      refine (HW.out).mono ?_
      rintro e V2 ⟨rfl, hM2, _⟩
      refine hK.out _ _ (hM2.lo) (fun hS => ?_)
      clear hK K
      try simp only [Act.put, List.setIfInBounds_toArray, List.set_cons_zero, List.set_cons_succ]
      refine wpAnyH_done (by kernel_rfl) ?_ _
      have HM2 := Lib.hid (show MS w V2 fb r2.2.1 so r2.2.2 ∧ NS r2.2.2 from ⟨hM2, HNS2.out⟩)
      clear hM2 HW hS HM1 HM HNS HNS2
      go_wp2
      go_roundw
      case rel => exact ⟨k + 1, by go_num, by omega, _, _, HM2⟩
      case measure => simp [intOf]; omega
    have hki : ¬ (k : Int) < (l.length : Int) := by omega
    clear HO HGL HGR hkl
    obtain ⟨vl, hv, hp⟩ := pgV_list F m
    have HV := Lib.hid hv
    have HP := Lib.hid hp
    clear hv hp
    go_wp2_with (fail)
    refine (msFree HM.out.1).mono ?_
    rintro e W4 ⟨rfl, hb4⟩
    have HM4 := Lib.hid (show MS w W4 fb F so m ∧ NS m from ⟨HM.out.1.below hb4, HM.out.2⟩)
    clear hb4 HM
    have HC1 := Lib.hid (msClone HM4.out.1)
    have HGI := Lib.hid HM4.out.1.gi
    have HNS := Lib.hid HM4.out.2
    obtain ⟨r1, hr1⟩ : ∃ r1, r1 = clG F m (list m) (list m).length := ⟨_, rfl⟩
    obtain ⟨F1, m1, n1⟩ := r1
    have HR1 := Lib.hid hr1
    rw [← hr1] at HC1
    clear hr1 HM4
    simp only at HC1
    go_wp2_with (fail)
    refine HC1.out.mono ?_
    rintro e W5 ⟨bo, rfl, hS2, _⟩
    have HC2 := Lib.hid (s2Clone hS2)
    obtain ⟨r2, hr2⟩ : ∃ r2, r2 = clG F1 m1 (list m1) (list m1).length := ⟨_, rfl⟩
    obtain ⟨F2, m2, n2⟩ := r2
    have HR2 := Lib.hid hr2
    rw [← hr2] at HC2
    clear hr2 hS2 HC1
    simp only at HC2
    go_wp2_with (fail)
    refine HC2.out.mono ?_
    rintro e W6 ⟨co, rfl, hS3, _⟩
    have h3 := K3.of (w := w) F m HGI.out HNS.out HV.out HP.out HR1.out HR2.out hS3
    have HK := Lib.hid h3.1
    have HFI := Lib.hid (hS3.free h3.2)
    obtain ⟨fr, hfr⟩ : ∃ fr, fr = freeN F := ⟨_, rfl⟩
    rw [← hfr] at HK HFI ⊢
    clear h3 hS3 HR1 HR2 HGI HNS HV hfr HC2
    go_wp2_with (fail)
    refine (k3A HK.out).mono ?_
    rintro e W7 ⟨rfl, hb7⟩
    have HK7 := Lib.hid (HK.out.below hb7)
    have HFI7 := Lib.hid (HFI.out.below hb7)
    clear hb7 HK HFI
    have hz := zeroS W7
    have hst := run_storeCells_pg HP.out.len HP.out.one W7
    have HBW := Lib.hid (Blk.new W7 41 vl.toArray)
    have HK8 := Lib.hid (HK7.out.below (bl_new (Below.refl W7.heap.size W7) (.cells vl.toArray 41)))
    have HFI8 := Lib.hid (HFI7.out.below (bl_new (Below.refl W7.heap.size W7) (.cells vl.toArray 41)))
    have hlen := HP.out.len
    generalize List.replicate 64 (Value.string ByteArray.empty) = zs at *
    go_wp2_with (fail)
    obtain ⟨bw, hbw⟩ : ∃ bw, bw = W7.heap.size := ⟨_, rfl⟩
    rw [← hbw] at HBW ⊢
    generalize W7.alloc (.cells vl.toArray 41) = W8 at *
    clear hz hst HK7 HFI7 hbw hlen
    have HPGS := Lib.hid (fun W' (hb : Below W8.heap.size W8 W') => k3B (HK8.out.below hb))
    have HFRE := Lib.hid (fun W' (hb : Below W8.heap.size W8 W') => freeIs_any (HFI8.out.below hb))
    have heq := HP.out.eq
    go_wp2_with (fail)
    refine wp_region_held_drew (S := fun w' => Below W8.heap.size W8 w') (by kernel_rfl) ((Below.refl W8.heap.size W8).drew) (fun hS => ?_)
    refine wpAnyH_takeD (i := 0) (v := ?_) rfl (by kernel_rfl) (by kernel_rfl) (by kernel_rfl) (fun _ _ _ h => h) (Or.inl ⟨by kernel_rfl, ?_⟩) hS ?_
    rotate_left 1
    · intro w hS
      go_simp
      all_goals with_reducible rfl
    try simp only [Act.put, List.setIfInBounds_toArray, List.set_cons_zero, List.set_cons_succ]
    refine wpAnyH_takeD (i := 2) (v := .agg vl.toArray) rfl (by kernel_rfl) (by kernel_rfl) (by kernel_rfl) (fun _ _ _ h => h) (yieldsIf_load_mid (by kernel_rfl) 41 _ rfl bw 0 rfl vl _ (fun w' hb => rangeAt_pg HBW.out hb) Try.underlying41 rfl (size_pg HP.out)) hS ?_
    try simp only [Act.put, List.setIfInBounds_toArray, List.set_cons_zero, List.set_cons_succ]
    refine wpAnyH_ready (rs := [1]) (by kernel_rfl) (by simp) ?_
    refine AllReadyH.consD rfl (fun K hK => ?_) AllReadyH.nil
    go_simp
    refine (HPGS.out _ hS).mono ?_
    rintro e Va ⟨rfl, hba⟩
    refine hK.out _ _ (bl_step hS hba) (fun hS => ?_)
    clear hK K
    try simp only [Act.put, List.setIfInBounds_toArray, List.set_cons_zero, List.set_cons_succ]
    refine wpAnyH_takeD (i := 3) (v := ?_) rfl (by kernel_rfl) (by kernel_rfl) (by kernel_rfl) (fun _ _ _ h => h) (Or.inl ⟨by kernel_rfl, ?_⟩) hS ?_
    rotate_left 1
    · intro w hS
      go_simp
      all_goals with_reducible rfl
    try simp only [Act.put, List.setIfInBounds_toArray, List.set_cons_zero, List.set_cons_succ]
    refine wpAnyH_takeD (i := 4) (v := ?_) rfl (by kernel_rfl) (by kernel_rfl) (by kernel_rfl) (fun _ _ _ h => h) (Or.inl ⟨by kernel_rfl, ?_⟩) hS ?_
    rotate_left 1
    · intro w hS
      go_simp
      all_goals with_reducible rfl
    try simp only [Act.put, List.setIfInBounds_toArray, List.set_cons_zero, List.set_cons_succ]
    refine wpAnyH_takeD (i := 5) (v := ?_) rfl (by kernel_rfl) (by kernel_rfl) (by kernel_rfl) (fun _ _ _ h => h) (Or.inl ⟨by kernel_rfl, ?_⟩) hS ?_
    rotate_left 1
    · intro w hS
      go_simp
      all_goals with_reducible rfl
    try simp only [Act.put, List.setIfInBounds_toArray, List.set_cons_zero, List.set_cons_succ]
    refine wpAnyH_takeD (i := 7) (v := ?_) rfl (by kernel_rfl) (by kernel_rfl) (by kernel_rfl) (fun _ _ _ h => h) (Or.inl ⟨by kernel_rfl, ?_⟩) hS ?_
    rotate_left 1
    · intro w hS
      go_simp
      all_goals with_reducible rfl
    try simp only [Act.put, List.setIfInBounds_toArray, List.set_cons_zero, List.set_cons_succ]
    refine wpAnyH_ready (rs := [6]) (by kernel_rfl) (by simp) ?_
    refine AllReadyH.consD rfl (fun K hK => ?_) AllReadyH.nil
    go_simp
    refine (HFRE.out _ hS).mono ?_
    rintro e Vb ⟨rfl, hbb⟩
    refine hK.out _ _ (bl_step hS hbb) (fun hS => ?_)
    clear hK K
    try simp only [Act.put, List.setIfInBounds_toArray, List.set_cons_zero, List.set_cons_succ]
    refine wpAnyH_takeD (i := 8) (v := ?_) rfl (by kernel_rfl) (by kernel_rfl) (by kernel_rfl) (fun _ _ _ h => h) (Or.inl ⟨by kernel_rfl, ?_⟩) hS ?_
    rotate_left 1
    · intro w hS
      go_simp
      all_goals with_reducible rfl
    try simp only [Act.put, List.setIfInBounds_toArray, List.set_cons_zero, List.set_cons_succ]
    refine wpAnyH_takeD (i := 9) (v := ?_) rfl (by kernel_rfl) (by kernel_rfl) (by kernel_rfl) (fun _ _ _ h => h) (Or.inl ⟨by kernel_rfl, ?_⟩) hS ?_
    rotate_left 1
    · intro w hS
      go_simp
      all_goals with_reducible rfl
    try simp only [Act.put, List.setIfInBounds_toArray, List.set_cons_zero, List.set_cons_succ]
    refine wpAnyH_done (by kernel_rfl) ?_ _
    have HK9 := Lib.hid (HK8.out.below hS)
    have HBW9 := Lib.hid (HBW.out.below hS HBW.out.lt)
    clear hS HPGS HFRE heq HK8 HFI8 HBW hba hbb
    go_wp2_with (fail)
    go_loopw [16] (fun i wr => ∃ k : Nat, i = .int .i64 (k : Int) ∧ k ≤ l2.length ∧ ∃ va vb, Hid (K3 w wr fb so bo co va vb vl fr ∧ Blk wr bw 41 vl.toArray)) (fun i _ => l2.length - (intOf i).toNat)
    case atStart => exact ⟨0, rfl, Nat.zero_le _, _, _, Lib.hid ⟨HK9.out, HBW9.out⟩⟩
    case round =>
      clear HK9 HBW9
      obtain ⟨k, rfl, hk, va, vb, HK⟩ := hrel
      by_cases hkl : k < l2.length
      case pos =>
        have hki : (k : Int) < (l2.length : Int) := by omega
        have hxe : l2[k]? = some l2[k] := List.getElem?_eq_getElem hkl
        have hmem : l2[k] ∈ l2 := List.getElem_mem hkl
        obtain ⟨b, off, rfl, hlt, c0, c1, c2, c3, c4, c5, c6, c8⟩ := op_at HO2.out hxe
        have HX := Lib.hid (HO2.out.2 _ hmem)
        have HX3 := Lib.hid (HGR2.out.2 _ hmem)
        generalize l2[k] = x at *
        obtain ⟨xk, xwho, xp, xn, xwr, xsh, xa, xwd, xA, xc, xbs, xx⟩ := x
        simp only at c1 c2 c3 c4 c5 c6 c8 HX HX3
        have HFX := Lib.hid (fun W1 (hb : Below w.heap.size w W1) => (show W1.cell? ⟨b, off + k * 14 + 6, none⟩ = some (.int .u32 xa) ∧ W1.cell? ⟨b, off + k * 14 + 8, none⟩ = some (.slice xA xbs.length xc) from
          ⟨(hb.cell hlt).trans c6, (hb.cell hlt).trans c8⟩))
        have HFW := Lib.hid (fun W1 (hb : Below w.heap.size w W1) => (show W1.cell? ⟨b, off + k * 14 + 1, none⟩ = some (.int .i64 xwho) from (hb.cell hlt).trans c1))
        have HXL := Lib.hid (show xbs.length ≤ 4096 from by have h3 : xbs.length ≤ 300 := HX3.out; omega)
        clear c0 c1 c2 c3 c4 c5 c6 c8 hxe hmem
        obtain ⟨hpa, hpb, _⟩ := HK.out.1.pg
        have HPA := Lib.hid hpa
        have HPB := Lib.hid hpb
        clear hpa hpb
        go_wp2_with (fail)
        refine (k3A HK.out.1).mono ?_
        rintro e W11 ⟨rfl, hb11⟩
        have HK11 := Lib.hid (show K3 w W11 fb so bo co va vb vl fr ∧ Blk W11 bw 41 vl.toArray from ⟨HK.out.1.below hb11, HK.out.2.below hb11 HK.out.2.lt⟩)
        clear hb11 HK
        have hz := zeroS W11
        have hst := run_storeCells_pg HPA.out.len HPA.out.one W11
        have HBX := Lib.hid (Blk.new W11 41 va.toArray)
        have hbl := bl_new (Below.refl W11.heap.size W11) (.cells va.toArray 41)
        have HK12 := Lib.hid (show K3 w (W11.alloc (.cells va.toArray 41)) fb so bo co va vb vl fr ∧ Blk (W11.alloc (.cells va.toArray 41)) bw 41 vl.toArray from ⟨HK11.out.1.below hbl, HK11.out.2.below hbl HK11.out.2.lt⟩)
        have hlen := HPA.out.len
        clear hbl HK11
        generalize hzs : List.replicate 64 (Value.string ByteArray.empty) = zs at *
        have HZS := Lib.hid hzs
        clear hzs
        go_wp2_with (fail)
        obtain ⟨bx, hbx⟩ : ∃ bx, bx = W11.heap.size := ⟨_, rfl⟩
        rw [← hbx] at HBX ⊢
        generalize W11.alloc (.cells va.toArray 41) = W12 at *
        clear hz hst hbx hlen
        refine (k3B HK12.out.1).mono ?_
        rintro e W13 ⟨rfl, hb13⟩
        have HK13 := Lib.hid (show K3 w W13 fb so bo co va vb vl fr ∧ Blk W13 bw 41 vl.toArray ∧ Blk W13 bx 41 va.toArray from ⟨HK12.out.1.below hb13, HK12.out.2.below hb13 HK12.out.2.lt, HBX.out.below hb13 HBX.out.lt⟩)
        clear hb13 HK12 HBX
        have hz := zeroS W13
        have hst := run_storeCells_pg HPB.out.len HPB.out.one W13
        rw [HZS.out] at hz hst
        have HBY := Lib.hid (Blk.new W13 41 vb.toArray)
        have hbl := bl_new (Below.refl W13.heap.size W13) (.cells vb.toArray 41)
        have HK14 := Lib.hid (show K3 w (W13.alloc (.cells vb.toArray 41)) fb so bo co va vb vl fr ∧ Blk (W13.alloc (.cells vb.toArray 41)) bw 41 vl.toArray ∧ Blk (W13.alloc (.cells vb.toArray 41)) bx 41 va.toArray from ⟨HK13.out.1.below hbl, HK13.out.2.1.below hbl HK13.out.2.1.lt, HK13.out.2.2.below hbl HK13.out.2.2.lt⟩)
        have hlen := HPB.out.len
        have w0 := HFW.out _ HK14.out.1.lo
        clear hbl HK13
        go_upto_region 22 with (fail)
        obtain ⟨bY, hbY⟩ : ∃ bY, bY = W13.heap.size := ⟨_, rfl⟩
        rw [← hbY] at HBY ⊢
        generalize W13.alloc (.cells vb.toArray 41) = W14 at *
        have HB14 := Lib.hid (show Blk W14 bw 41 vl.toArray ∧ Blk W14 bx 41 va.toArray ∧ Blk W14 bY 41 vb.toArray from ⟨HK14.out.2.1, HK14.out.2.2, HBY.out⟩)
        have HKK := Lib.hid HK14.out.1
        clear hz hst hbY hlen HBY HK14 HZS
        by_cases hwho : xwho.tmod 2 = 0
        case pos =>
          have HW := Lib.hid (k3WriteA HKK.out.drew xa HX.out.2 HX.out.1 HXL.out)
          go_wp2_with (fail)
          refine wp_region_held_drew (S := fun w' => Below w.heap.size w w') (by kernel_rfl) (HKK.out.lo.drew) (fun hS => ?_)
          refine wpAnyH_takeD (i := 0) (v := ?_) rfl (by kernel_rfl) (by kernel_rfl) (by kernel_rfl) (fun _ _ _ h => h) (Or.inl ⟨by kernel_rfl, ?_⟩) hS ?_
          rotate_left 1
          · intro w hS
            obtain ⟨d6, d8⟩ := HFX.out _ hS
            go_simp
            all_goals with_reducible rfl
          try simp only [Act.put, List.setIfInBounds_toArray, List.set_cons_zero, List.set_cons_succ]
          refine wpAnyH_takeD (i := 1) (v := ?_) rfl (by kernel_rfl) (by kernel_rfl) (by kernel_rfl) (fun _ _ _ h => h) (Or.inl ⟨by kernel_rfl, ?_⟩) hS ?_
          rotate_left 1
          · intro w hS
            obtain ⟨d6, d8⟩ := HFX.out _ hS
            go_simp
            all_goals with_reducible rfl
          try simp only [Act.put, List.setIfInBounds_toArray, List.set_cons_zero, List.set_cons_succ]
          refine wpAnyH_takeD (i := 2) (v := ?_) rfl (by kernel_rfl) (by kernel_rfl) (by kernel_rfl) (fun _ _ _ h => h) (Or.inl ⟨by kernel_rfl, ?_⟩) hS ?_
          rotate_left 1
          · intro w hS
            obtain ⟨d6, d8⟩ := HFX.out _ hS
            go_simp
            all_goals with_reducible rfl
          try simp only [Act.put, List.setIfInBounds_toArray, List.set_cons_zero, List.set_cons_succ]
          refine wpAnyH_takeD (i := 3) (v := ?_) rfl (by kernel_rfl) (by kernel_rfl) (by kernel_rfl) (fun _ _ _ h => h) (Or.inl ⟨by kernel_rfl, ?_⟩) hS ?_
          rotate_left 1
          · intro w hS
            obtain ⟨d6, d8⟩ := HFX.out _ hS
            go_simp
            all_goals with_reducible rfl
          try simp only [Act.put, List.setIfInBounds_toArray, List.set_cons_zero, List.set_cons_succ]
          refine wpAnyH_takeD (i := 4) (v := ?_) rfl (by kernel_rfl) (by kernel_rfl) (by kernel_rfl) (fun _ _ _ h => h) (Or.inl ⟨by kernel_rfl, ?_⟩) hS ?_
          rotate_left 1
          · intro w hS
            obtain ⟨d6, d8⟩ := HFX.out _ hS
            go_simp
            all_goals with_reducible rfl
          try simp only [Act.put, List.setIfInBounds_toArray, List.set_cons_zero, List.set_cons_succ]
          refine wpAnyH_takeD (i := 5) (v := ?_) rfl (by kernel_rfl) (by kernel_rfl) (by kernel_rfl) (fun _ _ _ h => h) (Or.inl ⟨by kernel_rfl, ?_⟩) hS ?_
          rotate_left 1
          · intro w hS
            obtain ⟨d6, d8⟩ := HFX.out _ hS
            go_simp
            all_goals with_reducible rfl
          try simp only [Act.put, List.setIfInBounds_toArray, List.set_cons_zero, List.set_cons_succ]
          refine wpAnyH_takeD (i := 6) (v := ?_) rfl (by kernel_rfl) (by kernel_rfl) (by kernel_rfl) (fun _ _ _ h => h) (Or.inl ⟨by kernel_rfl, ?_⟩) hS ?_
          rotate_left 1
          · intro w hS
            obtain ⟨d6, d8⟩ := HFX.out _ hS
            go_simp
            all_goals with_reducible rfl
          try simp only [Act.put, List.setIfInBounds_toArray, List.set_cons_zero, List.set_cons_succ]
          refine wpAnyH_takeD (i := 7) (v := ?_) rfl (by kernel_rfl) (by kernel_rfl) (by kernel_rfl) (fun _ _ _ h => h) (Or.inl ⟨by kernel_rfl, ?_⟩) hS ?_
          rotate_left 1
          · intro w hS
            obtain ⟨d6, d8⟩ := HFX.out _ hS
            go_simp
            all_goals with_reducible rfl
          try simp only [Act.put, List.setIfInBounds_toArray, List.set_cons_zero, List.set_cons_succ]
          refine wpAnyH_takeD (i := 8) (v := ?_) rfl (by kernel_rfl) (by kernel_rfl) (by kernel_rfl) (fun _ _ _ h => h) (Or.inl ⟨by kernel_rfl, ?_⟩) hS ?_
          rotate_left 1
          · intro w hS
            obtain ⟨d6, d8⟩ := HFX.out _ hS
            go_simp
            all_goals with_reducible rfl
          try simp only [Act.put, List.setIfInBounds_toArray, List.set_cons_zero, List.set_cons_succ]
          refine wpAnyH_takeD (i := 9) (v := ?_) rfl (by kernel_rfl) (by kernel_rfl) (by kernel_rfl) (fun _ _ _ h => h) (Or.inl ⟨by kernel_rfl, ?_⟩) hS ?_
          rotate_left 1
          · intro w hS
            obtain ⟨d6, d8⟩ := HFX.out _ hS
            go_simp
            all_goals with_reducible rfl
          try simp only [Act.put, List.setIfInBounds_toArray, List.set_cons_zero, List.set_cons_succ]
          refine wpAnyH_takeD (i := 10) (v := ?_) rfl (by kernel_rfl) (by kernel_rfl) (by kernel_rfl) (fun _ _ _ h => h) (Or.inl ⟨by kernel_rfl, ?_⟩) hS ?_
          rotate_left 1
          · intro w hS
            obtain ⟨d6, d8⟩ := HFX.out _ hS
            go_simp
            all_goals with_reducible rfl
          try simp only [Act.put, List.setIfInBounds_toArray, List.set_cons_zero, List.set_cons_succ]
          refine wpAnyH_ready (rs := [11]) (by kernel_rfl) (by simp) ?_
          refine AllReadyH.consD rfl (fun K hK => ?_) AllReadyH.nil
          go_simp
          refine (HW.out).mono ?_
          rintro e V ⟨⟨u, rfl⟩, ⟨vn, hKn⟩, hk⟩
          refine hK.out _ _ (hKn.lo) (fun hS => ?_)
          clear hK K
          try simp only [Act.put, List.setIfInBounds_toArray, List.set_cons_zero, List.set_cons_succ]
          refine wpAnyH_done (by kernel_rfl) ?_ _
          have HKV := Lib.hid hKn
          have HB15 := Lib.hid (show Blk V bw 41 vl.toArray ∧ Blk V bY 41 vb.toArray from ⟨blk_keep (W := W14.drew) HB14.out.1.drew hk, blk_keep (W := W14.drew) HB14.out.2.2.drew hk⟩)
          clear hKn hk HW hS HB14 HKK
          have HPGS := Lib.hid (fun W' (hb : Below V.heap.size V W') => k3B (HKV.out.below hb))
          have heq := HPB.out.eq
          go_wp2_with (fail)
          refine wp_region_held_drew (S := fun w' => Below V.heap.size V w') (by kernel_rfl) ((Below.refl V.heap.size V).drew) (fun hS => ?_)
          refine wpAnyH_takeD (i := 0) (v := ?_) rfl (by kernel_rfl) (by kernel_rfl) (by kernel_rfl) (fun _ _ _ h => h) (Or.inl ⟨by kernel_rfl, ?_⟩) hS ?_
          rotate_left 1
          · intro w hS
            go_simp
            all_goals with_reducible rfl
          try simp only [Act.put, List.setIfInBounds_toArray, List.set_cons_zero, List.set_cons_succ]
          refine wpAnyH_takeD (i := 2) (v := .agg vb.toArray) rfl (by kernel_rfl) (by kernel_rfl) (by kernel_rfl) (fun _ _ _ h => h) (yieldsIf_load_mid (by kernel_rfl) 41 _ rfl bY 0 rfl vb _ (fun w' hb => rangeAt_pg HB15.out.2 hb) Try.underlying41 rfl (size_pg HPB.out)) hS ?_
          try simp only [Act.put, List.setIfInBounds_toArray, List.set_cons_zero, List.set_cons_succ]
          refine wpAnyH_ready (rs := [1]) (by kernel_rfl) (by simp) ?_
          refine AllReadyH.consD rfl (fun K hK => ?_) AllReadyH.nil
          go_simp
          refine (HPGS.out _ hS).mono ?_
          rintro e Va ⟨rfl, hba⟩
          refine hK.out _ _ (bl_step hS hba) (fun hS => ?_)
          clear hK K
          try simp only [Act.put, List.setIfInBounds_toArray, List.set_cons_zero, List.set_cons_succ]
          refine wpAnyH_takeD (i := 3) (v := ?_) rfl (by kernel_rfl) (by kernel_rfl) (by kernel_rfl) (fun _ _ _ h => h) (Or.inl ⟨by kernel_rfl, ?_⟩) hS ?_
          rotate_left 1
          · intro w hS
            go_simp
            all_goals with_reducible rfl
          try simp only [Act.put, List.setIfInBounds_toArray, List.set_cons_zero, List.set_cons_succ]
          refine wpAnyH_done (by kernel_rfl) ?_ _
          have HK16 := Lib.hid (HKV.out.below hS)
          have HB16 := Lib.hid (HB15.out.1.below hS HB15.out.1.lt)
          clear hS HPGS heq HKV HB15 hba
          go_wp2_with (fail)
          have HPGS := Lib.hid (fun W' (hb : Below Va.heap.size Va W') => k3C (HK16.out.below hb))
          have heq := HP.out.eq
          go_wp2_with (fail)
          refine wp_region_held_drew (S := fun w' => Below Va.heap.size Va w') (by kernel_rfl) ((Below.refl Va.heap.size Va).drew) (fun hS => ?_)
          refine wpAnyH_takeD (i := 0) (v := ?_) rfl (by kernel_rfl) (by kernel_rfl) (by kernel_rfl) (fun _ _ _ h => h) (Or.inl ⟨by kernel_rfl, ?_⟩) hS ?_
          rotate_left 1
          · intro w hS
            go_simp
            all_goals with_reducible rfl
          try simp only [Act.put, List.setIfInBounds_toArray, List.set_cons_zero, List.set_cons_succ]
          refine wpAnyH_takeD (i := 2) (v := .agg vl.toArray) rfl (by kernel_rfl) (by kernel_rfl) (by kernel_rfl) (fun _ _ _ h => h) (yieldsIf_load_mid (by kernel_rfl) 41 _ rfl bw 0 rfl vl _ (fun w' hb => rangeAt_pg HB16.out hb) Try.underlying41 rfl (size_pg HP.out)) hS ?_
          try simp only [Act.put, List.setIfInBounds_toArray, List.set_cons_zero, List.set_cons_succ]
          refine wpAnyH_ready (rs := [1]) (by kernel_rfl) (by simp) ?_
          refine AllReadyH.consD rfl (fun K hK => ?_) AllReadyH.nil
          go_simp
          refine (HPGS.out _ hS).mono ?_
          rintro e Vc ⟨rfl, hba⟩
          refine hK.out _ _ (bl_step hS hba) (fun hS => ?_)
          clear hK K
          try simp only [Act.put, List.setIfInBounds_toArray, List.set_cons_zero, List.set_cons_succ]
          refine wpAnyH_takeD (i := 3) (v := ?_) rfl (by kernel_rfl) (by kernel_rfl) (by kernel_rfl) (fun _ _ _ h => h) (Or.inl ⟨by kernel_rfl, ?_⟩) hS ?_
          rotate_left 1
          · intro w hS
            go_simp
            all_goals with_reducible rfl
          try simp only [Act.put, List.setIfInBounds_toArray, List.set_cons_zero, List.set_cons_succ]
          refine wpAnyH_done (by kernel_rfl) ?_ _
          have HK17 := Lib.hid (HK16.out.below hS)
          have HB17 := Lib.hid (HB16.out.below hS HB16.out.lt)
          clear hS HPGS heq HK16 HB16 hba
          go_wp2
          go_roundw
          case rel => exact ⟨k + 1, by go_num, by omega, _, _, Lib.hid ⟨HK17.out, HB17.out⟩⟩
          case measure => simp [intOf]; omega
        case neg =>
          have HW := Lib.hid (k3WriteB HKK.out.drew xa HX.out.2 HX.out.1 HXL.out)
          go_wp2_with (fail)
          refine wp_region_held_drew (S := fun w' => Below w.heap.size w w') (by kernel_rfl) (HKK.out.lo.drew) (fun hS => ?_)
          refine wpAnyH_takeD (i := 0) (v := ?_) rfl (by kernel_rfl) (by kernel_rfl) (by kernel_rfl) (fun _ _ _ h => h) (Or.inl ⟨by kernel_rfl, ?_⟩) hS ?_
          rotate_left 1
          · intro w hS
            obtain ⟨d6, d8⟩ := HFX.out _ hS
            go_simp
            all_goals with_reducible rfl
          try simp only [Act.put, List.setIfInBounds_toArray, List.set_cons_zero, List.set_cons_succ]
          refine wpAnyH_takeD (i := 1) (v := ?_) rfl (by kernel_rfl) (by kernel_rfl) (by kernel_rfl) (fun _ _ _ h => h) (Or.inl ⟨by kernel_rfl, ?_⟩) hS ?_
          rotate_left 1
          · intro w hS
            obtain ⟨d6, d8⟩ := HFX.out _ hS
            go_simp
            all_goals with_reducible rfl
          try simp only [Act.put, List.setIfInBounds_toArray, List.set_cons_zero, List.set_cons_succ]
          refine wpAnyH_takeD (i := 2) (v := ?_) rfl (by kernel_rfl) (by kernel_rfl) (by kernel_rfl) (fun _ _ _ h => h) (Or.inl ⟨by kernel_rfl, ?_⟩) hS ?_
          rotate_left 1
          · intro w hS
            obtain ⟨d6, d8⟩ := HFX.out _ hS
            go_simp
            all_goals with_reducible rfl
          try simp only [Act.put, List.setIfInBounds_toArray, List.set_cons_zero, List.set_cons_succ]
          refine wpAnyH_takeD (i := 3) (v := ?_) rfl (by kernel_rfl) (by kernel_rfl) (by kernel_rfl) (fun _ _ _ h => h) (Or.inl ⟨by kernel_rfl, ?_⟩) hS ?_
          rotate_left 1
          · intro w hS
            obtain ⟨d6, d8⟩ := HFX.out _ hS
            go_simp
            all_goals with_reducible rfl
          try simp only [Act.put, List.setIfInBounds_toArray, List.set_cons_zero, List.set_cons_succ]
          refine wpAnyH_takeD (i := 4) (v := ?_) rfl (by kernel_rfl) (by kernel_rfl) (by kernel_rfl) (fun _ _ _ h => h) (Or.inl ⟨by kernel_rfl, ?_⟩) hS ?_
          rotate_left 1
          · intro w hS
            obtain ⟨d6, d8⟩ := HFX.out _ hS
            go_simp
            all_goals with_reducible rfl
          try simp only [Act.put, List.setIfInBounds_toArray, List.set_cons_zero, List.set_cons_succ]
          refine wpAnyH_takeD (i := 5) (v := ?_) rfl (by kernel_rfl) (by kernel_rfl) (by kernel_rfl) (fun _ _ _ h => h) (Or.inl ⟨by kernel_rfl, ?_⟩) hS ?_
          rotate_left 1
          · intro w hS
            obtain ⟨d6, d8⟩ := HFX.out _ hS
            go_simp
            all_goals with_reducible rfl
          try simp only [Act.put, List.setIfInBounds_toArray, List.set_cons_zero, List.set_cons_succ]
          refine wpAnyH_takeD (i := 6) (v := ?_) rfl (by kernel_rfl) (by kernel_rfl) (by kernel_rfl) (fun _ _ _ h => h) (Or.inl ⟨by kernel_rfl, ?_⟩) hS ?_
          rotate_left 1
          · intro w hS
            obtain ⟨d6, d8⟩ := HFX.out _ hS
            go_simp
            all_goals with_reducible rfl
          try simp only [Act.put, List.setIfInBounds_toArray, List.set_cons_zero, List.set_cons_succ]
          refine wpAnyH_takeD (i := 7) (v := ?_) rfl (by kernel_rfl) (by kernel_rfl) (by kernel_rfl) (fun _ _ _ h => h) (Or.inl ⟨by kernel_rfl, ?_⟩) hS ?_
          rotate_left 1
          · intro w hS
            obtain ⟨d6, d8⟩ := HFX.out _ hS
            go_simp
            all_goals with_reducible rfl
          try simp only [Act.put, List.setIfInBounds_toArray, List.set_cons_zero, List.set_cons_succ]
          refine wpAnyH_takeD (i := 8) (v := ?_) rfl (by kernel_rfl) (by kernel_rfl) (by kernel_rfl) (fun _ _ _ h => h) (Or.inl ⟨by kernel_rfl, ?_⟩) hS ?_
          rotate_left 1
          · intro w hS
            obtain ⟨d6, d8⟩ := HFX.out _ hS
            go_simp
            all_goals with_reducible rfl
          try simp only [Act.put, List.setIfInBounds_toArray, List.set_cons_zero, List.set_cons_succ]
          refine wpAnyH_takeD (i := 9) (v := ?_) rfl (by kernel_rfl) (by kernel_rfl) (by kernel_rfl) (fun _ _ _ h => h) (Or.inl ⟨by kernel_rfl, ?_⟩) hS ?_
          rotate_left 1
          · intro w hS
            obtain ⟨d6, d8⟩ := HFX.out _ hS
            go_simp
            all_goals with_reducible rfl
          try simp only [Act.put, List.setIfInBounds_toArray, List.set_cons_zero, List.set_cons_succ]
          refine wpAnyH_takeD (i := 10) (v := ?_) rfl (by kernel_rfl) (by kernel_rfl) (by kernel_rfl) (fun _ _ _ h => h) (Or.inl ⟨by kernel_rfl, ?_⟩) hS ?_
          rotate_left 1
          · intro w hS
            obtain ⟨d6, d8⟩ := HFX.out _ hS
            go_simp
            all_goals with_reducible rfl
          try simp only [Act.put, List.setIfInBounds_toArray, List.set_cons_zero, List.set_cons_succ]
          refine wpAnyH_ready (rs := [11]) (by kernel_rfl) (by simp) ?_
          refine AllReadyH.consD rfl (fun K hK => ?_) AllReadyH.nil
          go_simp
          refine (HW.out).mono ?_
          rintro e V ⟨⟨u, rfl⟩, ⟨vn, hKn⟩, hk⟩
          refine hK.out _ _ (hKn.lo) (fun hS => ?_)
          clear hK K
          try simp only [Act.put, List.setIfInBounds_toArray, List.set_cons_zero, List.set_cons_succ]
          refine wpAnyH_done (by kernel_rfl) ?_ _
          have HKV := Lib.hid hKn
          have HB15 := Lib.hid (show Blk V bw 41 vl.toArray ∧ Blk V bx 41 va.toArray from ⟨blk_keep (W := W14.drew) HB14.out.1.drew hk, blk_keep (W := W14.drew) HB14.out.2.1.drew hk⟩)
          clear hKn hk HW hS HB14 HKK
          have HPGS := Lib.hid (fun W' (hb : Below V.heap.size V W') => k3A (HKV.out.below hb))
          have heq := HPA.out.eq
          go_wp2_with (fail)
          refine wp_region_held_drew (S := fun w' => Below V.heap.size V w') (by kernel_rfl) ((Below.refl V.heap.size V).drew) (fun hS => ?_)
          refine wpAnyH_takeD (i := 0) (v := ?_) rfl (by kernel_rfl) (by kernel_rfl) (by kernel_rfl) (fun _ _ _ h => h) (Or.inl ⟨by kernel_rfl, ?_⟩) hS ?_
          rotate_left 1
          · intro w hS
            go_simp
            all_goals with_reducible rfl
          try simp only [Act.put, List.setIfInBounds_toArray, List.set_cons_zero, List.set_cons_succ]
          refine wpAnyH_takeD (i := 2) (v := .agg va.toArray) rfl (by kernel_rfl) (by kernel_rfl) (by kernel_rfl) (fun _ _ _ h => h) (yieldsIf_load_mid (by kernel_rfl) 41 _ rfl bx 0 rfl va _ (fun w' hb => rangeAt_pg HB15.out.2 hb) Try.underlying41 rfl (size_pg HPA.out)) hS ?_
          try simp only [Act.put, List.setIfInBounds_toArray, List.set_cons_zero, List.set_cons_succ]
          refine wpAnyH_ready (rs := [1]) (by kernel_rfl) (by simp) ?_
          refine AllReadyH.consD rfl (fun K hK => ?_) AllReadyH.nil
          go_simp
          refine (HPGS.out _ hS).mono ?_
          rintro e Va ⟨rfl, hba⟩
          refine hK.out _ _ (bl_step hS hba) (fun hS => ?_)
          clear hK K
          try simp only [Act.put, List.setIfInBounds_toArray, List.set_cons_zero, List.set_cons_succ]
          refine wpAnyH_takeD (i := 3) (v := ?_) rfl (by kernel_rfl) (by kernel_rfl) (by kernel_rfl) (fun _ _ _ h => h) (Or.inl ⟨by kernel_rfl, ?_⟩) hS ?_
          rotate_left 1
          · intro w hS
            go_simp
            all_goals with_reducible rfl
          try simp only [Act.put, List.setIfInBounds_toArray, List.set_cons_zero, List.set_cons_succ]
          refine wpAnyH_done (by kernel_rfl) ?_ _
          have HK16 := Lib.hid (HKV.out.below hS)
          have HB16 := Lib.hid (HB15.out.1.below hS HB15.out.1.lt)
          clear hS HPGS heq HKV HB15 hba
          go_wp2_with (fail)
          have HPGS := Lib.hid (fun W' (hb : Below Va.heap.size Va W') => k3C (HK16.out.below hb))
          have heq := HP.out.eq
          go_wp2_with (fail)
          refine wp_region_held_drew (S := fun w' => Below Va.heap.size Va w') (by kernel_rfl) ((Below.refl Va.heap.size Va).drew) (fun hS => ?_)
          refine wpAnyH_takeD (i := 0) (v := ?_) rfl (by kernel_rfl) (by kernel_rfl) (by kernel_rfl) (fun _ _ _ h => h) (Or.inl ⟨by kernel_rfl, ?_⟩) hS ?_
          rotate_left 1
          · intro w hS
            go_simp
            all_goals with_reducible rfl
          try simp only [Act.put, List.setIfInBounds_toArray, List.set_cons_zero, List.set_cons_succ]
          refine wpAnyH_takeD (i := 2) (v := .agg vl.toArray) rfl (by kernel_rfl) (by kernel_rfl) (by kernel_rfl) (fun _ _ _ h => h) (yieldsIf_load_mid (by kernel_rfl) 41 _ rfl bw 0 rfl vl _ (fun w' hb => rangeAt_pg HB16.out hb) Try.underlying41 rfl (size_pg HP.out)) hS ?_
          try simp only [Act.put, List.setIfInBounds_toArray, List.set_cons_zero, List.set_cons_succ]
          refine wpAnyH_ready (rs := [1]) (by kernel_rfl) (by simp) ?_
          refine AllReadyH.consD rfl (fun K hK => ?_) AllReadyH.nil
          go_simp
          refine (HPGS.out _ hS).mono ?_
          rintro e Vc ⟨rfl, hba⟩
          refine hK.out _ _ (bl_step hS hba) (fun hS => ?_)
          clear hK K
          try simp only [Act.put, List.setIfInBounds_toArray, List.set_cons_zero, List.set_cons_succ]
          refine wpAnyH_takeD (i := 3) (v := ?_) rfl (by kernel_rfl) (by kernel_rfl) (by kernel_rfl) (fun _ _ _ h => h) (Or.inl ⟨by kernel_rfl, ?_⟩) hS ?_
          rotate_left 1
          · intro w hS
            go_simp
            all_goals with_reducible rfl
          try simp only [Act.put, List.setIfInBounds_toArray, List.set_cons_zero, List.set_cons_succ]
          refine wpAnyH_done (by kernel_rfl) ?_ _
          have HK17 := Lib.hid (HK16.out.below hS)
          have HB17 := Lib.hid (HB16.out.below hS HB16.out.lt)
          clear hS HPGS heq HK16 HB16 hba
          go_wp2
          go_roundw
          case rel => exact ⟨k + 1, by go_num, by omega, _, _, Lib.hid ⟨HK17.out, HB17.out⟩⟩
          case measure => simp [intOf]; omega
      have hki : ¬ (k : Int) < (l2.length : Int) := by omega
      clear hkl
      go_wp2_with (fail)
      refine (k3DropA HK.out.1).mono ?_
      rintro e W21 ⟨⟨u1, rfl⟩, hK1, hk1⟩
      have HK1 := Lib.hid hK1
      have HB1 := Lib.hid (blk_keep HK.out.2 hk1)
      clear hK1 hk1 HK
      go_wp2_with (fail)
      refine (k3DropB HK1.out).mono ?_
      rintro e W22 ⟨⟨u2, rfl⟩, hK2, hk2⟩
      have HK2 := Lib.hid hK2
      have HB2 := Lib.hid (blk_keep HB1.out hk2)
      clear hK2 hk2 HK1 HB1
      go_wp2_with (fail)
      have HPGS := Lib.hid (fun W' (hb : Below W22.heap.size W22 W') => k3bC (HK2.out.below hb))
      have HFRE := Lib.hid (fun W' (hb : Below W22.heap.size W22 W') => k3bFree (HK2.out.below hb))
      have heq := HP.out.eq
      go_wp2_with (fail)
      refine wp_region_held_drew (S := fun w' => Below W22.heap.size W22 w') (by kernel_rfl) ((Below.refl W22.heap.size W22).drew) (fun hS => ?_)
      refine wpAnyH_takeD (i := 0) (v := ?_) rfl (by kernel_rfl) (by kernel_rfl) (by kernel_rfl) (fun _ _ _ h => h) (Or.inl ⟨by kernel_rfl, ?_⟩) hS ?_
      rotate_left 1
      · intro w hS
        go_simp
        all_goals with_reducible rfl
      try simp only [Act.put, List.setIfInBounds_toArray, List.set_cons_zero, List.set_cons_succ]
      refine wpAnyH_takeD (i := 2) (v := .agg vl.toArray) rfl (by kernel_rfl) (by kernel_rfl) (by kernel_rfl) (fun _ _ _ h => h) (yieldsIf_load_mid (by kernel_rfl) 41 _ rfl bw 0 rfl vl _ (fun w' hb => rangeAt_pg HB2.out hb) Try.underlying41 rfl (size_pg HP.out)) hS ?_
      try simp only [Act.put, List.setIfInBounds_toArray, List.set_cons_zero, List.set_cons_succ]
      refine wpAnyH_ready (rs := [1]) (by kernel_rfl) (by simp) ?_
      refine AllReadyH.consD rfl (fun K hK => ?_) AllReadyH.nil
      go_simp
      refine (HPGS.out _ hS).mono ?_
      rintro e Va ⟨rfl, hba⟩
      refine hK.out _ _ (bl_step hS hba) (fun hS => ?_)
      clear hK K
      try simp only [Act.put, List.setIfInBounds_toArray, List.set_cons_zero, List.set_cons_succ]
      refine wpAnyH_takeD (i := 3) (v := ?_) rfl (by kernel_rfl) (by kernel_rfl) (by kernel_rfl) (fun _ _ _ h => h) (Or.inl ⟨by kernel_rfl, ?_⟩) hS ?_
      rotate_left 1
      · intro w hS
        go_simp
        all_goals with_reducible rfl
      try simp only [Act.put, List.setIfInBounds_toArray, List.set_cons_zero, List.set_cons_succ]
      refine wpAnyH_takeD (i := 4) (v := ?_) rfl (by kernel_rfl) (by kernel_rfl) (by kernel_rfl) (fun _ _ _ h => h) (Or.inl ⟨by kernel_rfl, ?_⟩) hS ?_
      rotate_left 1
      · intro w hS
        go_simp
        all_goals with_reducible rfl
      try simp only [Act.put, List.setIfInBounds_toArray, List.set_cons_zero, List.set_cons_succ]
      refine wpAnyH_takeD (i := 5) (v := ?_) rfl (by kernel_rfl) (by kernel_rfl) (by kernel_rfl) (fun _ _ _ h => h) (Or.inl ⟨by kernel_rfl, ?_⟩) hS ?_
      rotate_left 1
      · intro w hS
        go_simp
        all_goals with_reducible rfl
      try simp only [Act.put, List.setIfInBounds_toArray, List.set_cons_zero, List.set_cons_succ]
      refine wpAnyH_takeD (i := 7) (v := ?_) rfl (by kernel_rfl) (by kernel_rfl) (by kernel_rfl) (fun _ _ _ h => h) (Or.inl ⟨by kernel_rfl, ?_⟩) hS ?_
      rotate_left 1
      · intro w hS
        go_simp
        all_goals with_reducible rfl
      try simp only [Act.put, List.setIfInBounds_toArray, List.set_cons_zero, List.set_cons_succ]
      refine wpAnyH_ready (rs := [6]) (by kernel_rfl) (by simp) ?_
      refine AllReadyH.consD rfl (fun K hK => ?_) AllReadyH.nil
      go_simp
      refine (HFRE.out _ hS).mono ?_
      rintro e Vb ⟨rfl, hbb⟩
      refine hK.out _ _ (bl_step hS hbb) (fun hS => ?_)
      clear hK K
      try simp only [Act.put, List.setIfInBounds_toArray, List.set_cons_zero, List.set_cons_succ]
      refine wpAnyH_takeD (i := 8) (v := ?_) rfl (by kernel_rfl) (by kernel_rfl) (by kernel_rfl) (fun _ _ _ h => h) (Or.inl ⟨by kernel_rfl, ?_⟩) hS ?_
      rotate_left 1
      · intro w hS
        go_simp
        all_goals with_reducible rfl
      try simp only [Act.put, List.setIfInBounds_toArray, List.set_cons_zero, List.set_cons_succ]
      refine wpAnyH_takeD (i := 9) (v := ?_) rfl (by kernel_rfl) (by kernel_rfl) (by kernel_rfl) (fun _ _ _ h => h) (Or.inl ⟨by kernel_rfl, ?_⟩) hS ?_
      rotate_left 1
      · intro w hS
        go_simp
        all_goals with_reducible rfl
      try simp only [Act.put, List.setIfInBounds_toArray, List.set_cons_zero, List.set_cons_succ]
      refine wpAnyH_done (by kernel_rfl) ?_ _
      have HK3 := Lib.hid (HK2.out.below hS)
      clear hS HPGS HFRE heq HK2 HB2 hba hbb
      go_wp2_with (fail)
      refine (k3DropC HK3.out).mono ?_
      rintro e W23 ⟨⟨u3, rfl⟩, nn, hK4⟩
      have HK4 := Lib.hid hK4
      clear hK4 HK3
      go_wp2_with (fail)
      refine (k3cFree HK4.out).mono ?_
      rintro e W24 ⟨rfl, hb24⟩
      have HK5 := Lib.hid (HK4.out.below hb24)
      clear hb24 HK4
      go_wp2_with (fail)
      refine (k3cLen HK5.out).mono ?_
      rintro e _ ⟨rfl, rfl⟩
      go_wp2_with (fail)
      refine (k3cList HK5.out).mono ?_
      rintro e W25 ⟨A9, c9, rfl, hb25⟩
      have HK6 := Lib.hid (HK5.out.below hb25)
      clear hb25 HK5
      go_wp2
      go_ret
      obtain ⟨_, _, _, _, _, _, hlo⟩ := HK6.out.ms
      exact ⟨rfl, hlo⟩
end Go.Proofs.Ytolejpbdbjkndaa

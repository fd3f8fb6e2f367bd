/-
  The law's walk over package pages beside its reference: are both alike? No condition.
-/
import Derived.Deep.RegionHeld3
import Derived.Deep.DrawnRows
import Derived.Test.YtgdimjcpdndklaaRef5
namespace Go.Proofs.Ytgdimjcpdndklaa
open Go.RowKit
set_option linter.unusedVariables false
set_option linter.unusedSimpArgs false
attribute [local go_sem ↓] Go.wp_at_zero Go.wp_at_succ

theorem own_part {w : World} {bt : Nat} {q : Nat → Option Nat} {m : M} (h : Tab w bt q m) : ∀ k, Own bt q k → ∃ t cs, Blk w k t cs ∧ t ≠ 52 ∧ t ≠ 42 := by
  intro k hk
  rcases hk with rfl | ⟨i, hi, hq⟩
  · exact ⟨_, _, h.top, by decide, by decide⟩
  · exact ⟨_, _, h.part i k hi hq, by decide, by decide⟩

theorem bl_step {w6 W W1 : World} (h : Below w6.heap.size w6 W) (h1 : Below W.heap.size W W1) : Below w6.heap.size w6 W1 := h.trans (h1.mono h.size)
set_option maxRecDepth 100000 in
set_option maxHeartbeats 8000000 in
theorem alike_any {w : World} {base rt bt : Nat} {q : Nat → Option Nat} {m : M} (hT : Tab w bt q m) (hR : RT w base rt (list m)) (p n : Int) (hlo : -9223372036854775808 ≤ n) (hhi : n ≤ 9223372036854775807) :
    Calls Try.prog 28 #[.pointer (some ⟨bt, 0, none⟩), .pointer (some ⟨rt, 0, none⟩), .int .i64 p, .int .i64 n] w fun e w' => e = .returned (.bool true) ∧ Below w.heap.size w w' := by
  have hll := list_len m
  have hdl : (filt E.d (list m)).length ≤ 64 := Nat.le_trans (filt_len _ _) hll
  obtain ⟨A, c, _, hrtlt, hblk, hMA⟩ := hR.open_
  have hbt := hT.top.lt
  have HG := Lib.hid (fun W (hW : Below w.heap.size w W) => get_any (hT.below hW (Nat.le_refl _)) p)
  have HRG := Lib.hid (fun W (hW : Below w.heap.size w W) => refGet_any (hR.below hW) p)
  have HH := Lib.hid (fun W (hW : Below w.heap.size w W) => hole_any (hT.below hW (Nat.le_refl _)) n hlo hhi)
  have HRH := Lib.hid (fun W (hW : Below w.heap.size w W) => refHole_any (hR.below hW) n hhi)
  have HL := Lib.hid (fun W (hW : Below w.heap.size w W) => list_any (hT.below hW (Nat.le_refl _)))
  have HD := Lib.hid (fun W (hW : Below w.heap.size w W) => dirty_any (hT.below hW (Nat.le_refl _)))
  have HRD := Lib.hid (fun W (hW : Below w.heap.size w W) => refDirty_any hll (hR.below hW))
  have HN := Lib.hid (fun W (hW : Below w.heap.size w W) => len_any (hT.below hW (Nat.le_refl _)))
  have HP := Lib.hid (fun W (hW : Below w.heap.size w W) => parts_any (hT.below hW (Nat.le_refl _)))
  have HRP := Lib.hid (fun W (hW : Below w.heap.size w W) => refParts_any (hR.below hW))
  have HMA := Lib.hid (fun W (hW : Below w.heap.size w W) => hMA.below hW)
  have HRT := Lib.hid (fun W (hW : Below w.heap.size w W) => (rt_cells (hblk.below hW hrtlt)).1)
  obtain ⟨y, b, hyb⟩ : ∃ (y : E) (b : Bool), gotV (look m p) = .tuple #[y.val, .bool b] := ⟨_, _, rfl⟩
  obtain ⟨ha, hb, hh⟩ : ∃ ha hb, hole m n = (ha, hb) := ⟨_, _, rfl⟩
  rw [hyb] at HG HRG
  rw [hh] at HH HRH
  have hlen := hll
  generalize list m = l at *
  generalize filt E.d l = ds at *
  generalize cntM m 8 = cn at *
  obtain ⟨f, y1, y2, y3, y4⟩ := y
  have HEQ := fun W => eqEntry ⟨f, y1, y2, y3, y4⟩ ⟨f, y1, y2, y3, y4⟩ 9998 W
  simp only [E.arr, decide_true] at HEQ
  simp only [E.val, E.arr] at HG HRG
  clear hyb hh hT hR hMA hblk
  go_enter Try.func28, Try.ntmps28
  go_wp2_with fail
  refine (HG.out _ (Below.refl _ _)).mono ?_
  rintro e w1 ⟨rfl, hb1⟩
  have s1 := hb1.size
  have hX1 := Blk.new w1 29 #[.int .i64 f, .bool y1, .bool y2, .bool y3, .bool y4]
  have hB1 := hb1.alloc s1 (.cells #[.int .i64 f, .bool y1, .bool y2, .bool y3, .bool y4] 29)
  have hs1 : (w1.alloc (.cells #[.int .i64 f, .bool y1, .bool y2, .bool y3, .bool y4] 29)).heap.size = w1.heap.size + 1 := World.size_alloc ..
  go_wp2_with fail
  refine (HRG.out _ hB1).mono ?_
  rintro e w2 ⟨rfl, hb2⟩
  have hX2 := (hX1.below hb2 (by simp))
  have hB2 := hB1.trans (hb2.mono (by omega))
  have s2 := hb2.size
  rw [hs1] at s2
  generalize w1.heap.size = x1 at *
  clear hb2 hs1 hX1 hB1 hb1 HG HRG
  have hX3 := hX2.alloc (.cells #[.int .i64 f, .bool y1, .bool y2, .bool y3, .bool y4] 29)
  have hY3 := Blk.new w2 29 #[.int .i64 f, .bool y1, .bool y2, .bool y3, .bool y4]
  have hB3 := hB2.alloc (by omega) (.cells #[.int .i64 f, .bool y1, .bool y2, .bool y3, .bool y4] 29)
  have hs3 : (w2.alloc (.cells #[.int .i64 f, .bool y1, .bool y2, .bool y3, .bool y4] 29)).heap.size = w2.heap.size + 1 := World.size_alloc ..
  go_wp2_with fail
  refine (HH.out _ hB3).mono ?_
  rintro e w3 ⟨rfl, hb3⟩
  have hX4 := hX3.below hb3 (by omega)
  have hY4 := hY3.below hb3 (by omega)
  have hB4 := hB3.trans (hb3.mono (by omega))
  have s3 := hb3.size
  rw [hs3] at s3
  generalize w2.heap.size = x2 at *
  clear hb3 hs3 hX3 hY3 hB3 hB2 hX2 HH
  go_wp2_with fail
  refine (HRH.out _ hB4).mono ?_
  rintro e w4 ⟨rfl, hb4⟩
  have hX5 := hX4.below hb4 (by omega)
  have hY5 := hY4.below hb4 (by omega)
  have hB5 := hB4.trans (hb4.mono (by omega))
  have s4 := hb4.size
  clear hb4 hX4 hY4 hB4 HRH
  go_wp2_with fail
  refine (HL.out _ hB5).mono ?_
  rintro e w5 ⟨v, rfl, hown, _, hb5⟩
  obtain ⟨Al, cl, rfl, hAl⟩ := mapsAt_own hown
  have hX6 := hX5.below hb5 (by omega)
  have hY6 := hY5.below hb5 (by omega)
  have hB6 := hB5.trans (hb5.mono (by omega))
  have s5 := hb5.size
  clear hb5 hX5 hY5 hB5 HL hown
  go_wp2_with fail
  refine (HD.out _ hB6).mono ?_
  rintro e w6 ⟨v, rfl, hown, _, hb6⟩
  obtain ⟨Ad, cd, rfl, hAd⟩ := ints_own hown
  have hX7 := hX6.below hb6 (by omega)
  have hY7 := hY6.below hb6 (by omega)
  have hB7 := hB6.trans (hb6.mono (by omega))
  have hAl7 := hAl.below hb6
  have s6 := hb6.size
  clear hb6 hX6 hY6 hB6 HD hown hAl
  have HAL := Lib.hid (fun W (hW : Below w6.heap.size w6 W) => hAl7.below hW)
  have HAD := Lib.hid (fun W (hW : Below w6.heap.size w6 W) => hAd.below hW)
  have HBW := Lib.hid (fun W (hW : Below w6.heap.size w6 W) => hB7.trans (hW.mono (by omega)))
  have HXY := Lib.hid (fun W (hW : Below w6.heap.size w6 W) => And.intro (ecells (hX7.below hW hX7.lt)) (ecells (hY7.below hW hY7.lt)))
  clear hAl7 hAd hB7 hX7 hY7
  have HD1 : decide (l = l) = true := decide_eq_true rfl
  have HD2 : decide (ds = ds) = true := decide_eq_true rfl
  have HS := Lib.hid (fun W (hW : Below w6.heap.size w6 W) => (same_any Al A cl c l l (HAL.out W hW) (HMA.out W (HBW.out W hW)) (by omega) (by omega)).mono fun e w' h => show e = .returned (.bool true) ∧ Below w6.heap.size w6 w' from ⟨by rw [h.1, HD1], bl_step hW h.2⟩)
  have HRD' := Lib.hid (fun W (hW : Below w6.heap.size w6 W) => (HRD.out W (HBW.out W hW)).mono fun e w' h => show ∃ A' c', e = .returned (.slice A' ds.length c') ∧ IntsAt w' A' ds ∧ Below w6.heap.size w6 w' from by
    obtain ⟨A', c', h1, h2, h3⟩ := h
    exact ⟨A', c', h1, h2, bl_step hW h3⟩)
  have HN' := Lib.hid (fun W (hW : Below w6.heap.size w6 W) => (HN.out W (HBW.out W hW)).mono fun e w' h => show e = .returned (.int .i64 l.length) ∧ Below w6.heap.size w6 w' from ⟨h.1, bl_step hW h.2⟩)
  have HP' := Lib.hid (fun W (hW : Below w6.heap.size w6 W) => (HP.out W (HBW.out W hW)))
  have HRP' := Lib.hid (fun W (hW : Below w6.heap.size w6 W) => (HRP.out W (HBW.out W hW)).mono fun e w' h => show e = .returned (.int .i64 cn) ∧ Below w6.heap.size w6 w' from ⟨h.1, bl_step hW h.2⟩)
  have HSI := Lib.hid (fun W (A' : Option Addr) (c' : Nat) (hI : IntsAt W A' ds) (hW : Below w6.heap.size w6 W) => (sameI_any Ad A' cd c' ds ds (HAD.out W hW) hI (by omega) (by omega)).mono fun e w' h => show e = .returned (.bool true) ∧ Below w6.heap.size w6 w' from ⟨by rw [h.1, HD2], bl_step hW h.2⟩)
  have HRT' := Lib.hid (fun W (hW : Below w6.heap.size w6 W) => HRT.out W (HBW.out W hW))
  clear HD1 HD2 HAD
  have hBR := Below.refl w6.heap.size w6
  clear HRD HN HP HRP HRT HAL HMA
  go_wp2_with fail
  go_region_held3 (fun W => W.cell? ⟨x1, 0, none⟩ = some (.int .i64 f) ∧ W.cell? ⟨x1, 1, none⟩ = some (.bool y1) ∧ W.cell? ⟨x1, 2, none⟩ = some (.bool y2) ∧ W.cell? ⟨x1, 3, none⟩ = some (.bool y3) ∧ W.cell? ⟨x1, 4, none⟩ = some (.bool y4) ∧
      W.cell? ⟨x2, 0, none⟩ = some (.int .i64 f) ∧ W.cell? ⟨x2, 1, none⟩ = some (.bool y1) ∧ W.cell? ⟨x2, 2, none⟩ = some (.bool y2) ∧ W.cell? ⟨x2, 3, none⟩ = some (.bool y3) ∧ W.cell? ⟨x2, 4, none⟩ = some (.bool y4) ∧ W.cell? ⟨rt, 0, none⟩ = some (.slice A l.length c))
    (first | exact (have h : Below w6.heap.size w6 _ := (by repeat (first | assumption | refine Below.drew ?_ | refine belowN ?_ _)); ⟨(HXY.out _ h).1.1, (HXY.out _ h).1.2.1, (HXY.out _ h).1.2.2.1, (HXY.out _ h).1.2.2.2.1, (HXY.out _ h).1.2.2.2.2.1, (HXY.out _ h).2.1, (HXY.out _ h).2.2.1, (HXY.out _ h).2.2.2.1, (HXY.out _ h).2.2.2.2.1, (HXY.out _ h).2.2.2.2.2.1, HRT'.out _ h⟩))
    (first
      | (go_at_call 18; refine (HS.out _ ?_).mono ?_; (focus (repeat (first | assumption | refine Below.drew ?_ | refine belowN ?_ _))); rintro e W1 ⟨rfl, hW1⟩)
      | (go_at_call 37; refine (HRD'.out _ ?_).mono ?_; (focus (repeat (first | assumption | refine Below.drew ?_ | refine belowN ?_ _))); rintro e W1 ⟨Aq, cq, rfl, hIq, hW1⟩)
      | (go_at_call 39; refine (HSI.out _ _ _ ?_ ?_).mono ?_; (focus assumption); (focus (repeat (first | assumption | refine Below.drew ?_ | refine belowN ?_ _))); rintro e W1 ⟨rfl, hW1⟩)
      | (go_at_call 15; refine (HP'.out _ ?_).mono ?_; (focus (repeat (first | assumption | refine Below.drew ?_ | refine belowN ?_ _))); rintro e W1 ⟨rfl, rfl⟩)
      | (go_at_call 21; refine (HN'.out _ ?_).mono ?_; (focus (repeat (first | assumption | refine Below.drew ?_ | refine belowN ?_ _))); rintro e W1 ⟨rfl, hW1⟩)
      | (go_at_call 40; refine (HRP'.out _ ?_).mono ?_; (focus (repeat (first | assumption | refine Below.drew ?_ | refine belowN ?_ _))); rintro e W1 ⟨rfl, hW1⟩))
  go_wp2
  go_ret
  exact ⟨by first | rfl | simp, HBW.out _ (by repeat (first | assumption | refine Below.drew ?_ | refine belowN ?_ _))⟩
end Go.Proofs.Ytgdimjcpdndklaa

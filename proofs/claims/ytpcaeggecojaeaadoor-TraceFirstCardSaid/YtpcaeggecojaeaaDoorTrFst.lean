/-
  The law TraceFirst, walked. Condition: the tables lie as the program's text, and the library's, lay them.
-/
import Derived.Test.YtpcaeggecojaeaaDoorTrD10
namespace Go.Proofs.YtpcaeggecojaeaaDoor
open Go.RowKit
set_option linter.unusedVariables false
set_option linter.unusedSimpArgs false

theorem first_symm (a b : List S) : first b a = first a b := by
  rcases first_is a b with ⟨hr, hab⟩ | ⟨k, hr, hp, hn⟩
  · subst hab; rfl
  · rw [hr]
    exact (isFirst_here (fun j hj => (hp j hj).symm) (Ne.symm hn)).symm
theorem run_neq_seen (x y : S) (w : World) : (Op.equalIn 10000 27 (.agg x.cells.toArray) (.agg y.cells.toArray)).run Tryd.prog w = .ok (decide (x = y)) w := eqSeen x y w

set_option maxRecDepth 100000 in
set_option maxHeartbeats 8000000 in
theorem firstLaw_any {w : World} (hG : Ground w) (A B : Option Addr) (ca cb : Nat) (xs ys : List S) (hx : SeenAt w A xs) (hy : SeenAt w B ys) (hxl : xs.length ≤ maxLen) (hyl : ys.length ≤ maxLen) :
    Calls Tryd.prog 3 #[.slice A xs.length ca, .slice B ys.length cb] w fun e w' => e = .returned (.bool true) ∧ Below w.heap.size w w' := by
  unfold maxLen at hxl hyl
  have HAL := Lib.hid (alive_any hG)
  clear hG
  by_cases h1 : 200 < xs.length
  · have h1' : (200 : Int) < (xs.length : Int) := by omega
    clear hx hy
    go_enter Tryd.func3, Tryd.ntmps3
    go_wp2_with fail
    refine HAL.out.mono ?_
    rintro e w1 ⟨rfl, hb1⟩
    have HB1 := Lib.hid hb1
    clear hb1
    go_wp2
    go_ret
    exact ⟨rfl, HB1.out⟩
  · by_cases h2 : 200 < ys.length
    · have h1' : ¬ (200 : Int) < (xs.length : Int) := by omega
      have h2' : (200 : Int) < (ys.length : Int) := by omega
      clear hx hy
      go_enter Tryd.func3, Tryd.ntmps3
      go_wp2_with fail
      refine HAL.out.mono ?_
      rintro e w1 ⟨rfl, hb1⟩
      have HB1 := Lib.hid hb1
      clear hb1
      go_wp2
      go_ret
      exact ⟨rfl, HB1.out⟩
    · have h1' : ¬ (200 : Int) < (xs.length : Int) := by omega
      have h2' : ¬ (200 : Int) < (ys.length : Int) := by omega
      have HF1 := fun W (hW : Below w.heap.size w W) => first_any A B ca cb xs ys (hx.below hW) (hy.below hW) (by omega) (by omega)
      have HF2 := fun W (hW : Below w.heap.size w W) => first_any B A cb ca ys xs (hy.below hW) (hx.below hW) (by omega) (by omega)
      rw [first_symm] at HF2
      have hI := first_is xs ys
      generalize first xs ys = n at *
      have HHF1 := Lib.hid HF1
      have HHF2 := Lib.hid HF2
      have HX := Lib.hid hx
      have HY := Lib.hid hy
      have hcase : ∃ m : Nat, m ≤ xs.length ∧ m ≤ ys.length ∧ (∀ j, j < m → xs[j]? = ys[j]?) ∧ ((n = -1 ∧ xs.length = ys.length ∧ m = xs.length) ∨ (n = m ∧ ((m < xs.length ∧ m < ys.length ∧ xs[m]? ≠ ys[m]?) ∨ (m = xs.length ∧ m < ys.length) ∨ (m < xs.length ∧ m = ys.length)))) := by
        rcases hI with ⟨h, hab⟩ | ⟨k, h, hp, hne⟩
        · subst hab
          exact ⟨xs.length, Nat.le_refl _, Nat.le_refl _, fun _ _ => rfl, .inl ⟨h, rfl, rfl⟩⟩
        · have hk1 : k ≤ xs.length := by
            rcases Nat.lt_or_ge xs.length k with h | h
            · have h3 := hp xs.length h
              rw [List.getElem?_eq_none (Nat.le_refl _)] at h3
              have h4 : ys.length ≤ xs.length := by
                rcases Nat.lt_or_ge xs.length ys.length with h5 | h5
                · rw [List.getElem?_eq_getElem h5] at h3; cases h3
                · exact h5
              exact absurd (by rw [List.getElem?_eq_none (by omega), List.getElem?_eq_none (by omega)]) hne
            · exact h
          have hk2 : k ≤ ys.length := by
            rcases Nat.lt_or_ge ys.length k with h | h
            · have h3 := hp ys.length h
              rw [List.getElem?_eq_none (Nat.le_refl ys.length)] at h3
              have h4 : xs.length ≤ ys.length := by
                rcases Nat.lt_or_ge ys.length xs.length with h5 | h5
                · rw [List.getElem?_eq_getElem h5] at h3; cases h3
                · exact h5
              exact absurd (by rw [List.getElem?_eq_none (by omega), List.getElem?_eq_none (by omega)]) hne
            · exact h
          refine ⟨k, hk1, hk2, hp, .inr ⟨h, ?_⟩⟩
          rcases Nat.lt_or_ge k xs.length with h5 | h5 <;> rcases Nat.lt_or_ge k ys.length with h6 | h6
          · exact .inl ⟨h5, h6, hne⟩
          · exact .inr (.inr ⟨h5, by omega⟩)
          · exact .inr (.inl ⟨by omega, h6⟩)
          · exact absurd (by rw [List.getElem?_eq_none h5, List.getElem?_eq_none h6]) hne
      clear hx hy HF1 HF2 hI
      obtain ⟨m, hm1, hm2, hpre, hend⟩ := hcase
      have HPRE := Lib.hid hpre
      have HLOOP := Lib.hid (fun W (hW : Below w.heap.size w W) (j : Nat) (hj : j < m) => show ∃ (x : S) (b off b' off' : Nat), A = some ⟨b, off, none⟩ ∧ B = some ⟨b', off', none⟩ ∧ b < W.heap.size ∧ b' < W.heap.size ∧
          (W.cell? ⟨b, off + j * 4, none⟩ = some (.int .i64 x.p) ∧ W.cell? ⟨b, off + j * 4 + 1, none⟩ = some (.int .i64 x.k) ∧ W.cell? ⟨b, off + j * 4 + 2, none⟩ = some (.int .i64 x.c) ∧ W.cell? ⟨b, off + j * 4 + 3, none⟩ = some (.int .u32 x.v)) ∧
          (W.cell? ⟨b', off' + j * 4, none⟩ = some (.int .i64 x.p) ∧ W.cell? ⟨b', off' + j * 4 + 1, none⟩ = some (.int .i64 x.k) ∧ W.cell? ⟨b', off' + j * 4 + 2, none⟩ = some (.int .i64 x.c) ∧ W.cell? ⟨b', off' + j * 4 + 3, none⟩ = some (.int .u32 x.v)) from by
        have ha : j < xs.length := by omega
        have hxe : xs[j]? = some xs[j] := List.getElem?_eq_getElem ha
        have hye : ys[j]? = some xs[j] := by rw [← hpre j hj]; exact hxe
        obtain ⟨b, off, hA, hbl, c0, c1, c2, c3⟩ := seen_at (HX.out.below hW) hxe
        obtain ⟨b', off', hB, hbl', d0, d1, d2, d3⟩ := seen_at (HY.out.below hW) hye
        exact ⟨xs[j], b, off, b', off', hA, hB, hbl, hbl', ⟨c0, c1, c2, c3⟩, ⟨d0, d1, d2, d3⟩⟩)
      clear hpre
      rcases hend with ⟨rfl, hl, hmx⟩ | ⟨rfl, hend⟩
      case' inl =>
        have hmin : ¬ min (xs.length : Int) (ys.length : Int) < -1 := by omega
        have hlb : ((xs.length : Int) != (ys.length : Int)) = false := by simp [hl]
        have HM := Lib.hid hmx
        have HL := Lib.hid hl
        clear hl hmx
        go_enter Tryd.func3, Tryd.ntmps3
        go_wp2_with fail
        refine HAL.out.mono ?_
        rintro e w1 ⟨rfl, hb1⟩
        go_wp2_with fail
        refine (HHF1.out _ hb1).mono ?_
        rintro e w2 ⟨rfl, hb2⟩
        have hB2 := hb1.trans (hb2.mono hb1.size)
        clear hb1 hb2
        go_wp2_with fail
        refine (HHF2.out _ hB2).mono ?_
        rintro e w3 ⟨rfl, hb3⟩
        have hB3 := hB2.trans (hb3.mono hB2.size)
        clear hB2 hb3
        go_wp2_with fail
        rw [show (xs.length : Int) = ((m : Nat) : Int) by rw [HM.out]]
      case' inr =>
        have hmin : ¬ min (xs.length : Int) (ys.length : Int) < (m : Int) := by omega
        have hm0 : ¬ (m : Int) < 0 := by omega
        have hm00 : ¬ (m : Int) < -1 := by omega
        go_enter Tryd.func3, Tryd.ntmps3
        go_wp2_with fail
        refine HAL.out.mono ?_
        rintro e w1 ⟨rfl, hb1⟩
        go_wp2_with fail
        refine (HHF1.out _ hb1).mono ?_
        rintro e w2 ⟨rfl, hb2⟩
        have hB2 := hb1.trans (hb2.mono hb1.size)
        clear hb1 hb2
        go_wp2_with fail
        refine (HHF2.out _ hB2).mono ?_
        rintro e w3 ⟨rfl, hb3⟩
        have hB3 := hB2.trans (hb3.mono hB2.size)
        clear hB2 hb3
        go_wp2_with fail
      all_goals
        go_loopw [8] (fun i wr => ∃ j : Nat, i = .int .i64 (j : Int) ∧ j ≤ m ∧ Below w.heap.size w wr) (fun i _ => m - (intOf i).toNat)
        case atStart => exact ⟨0, rfl, Nat.zero_le _, hB3⟩
      case round =>
        obtain ⟨j, rfl, hj, hB⟩ := hrel
        clear hB3
        by_cases hjm : j < m
        · obtain ⟨x, b, off, b', off', rfl, rfl, hbl, hbl', ⟨c0, c1, c2, c3⟩, ⟨d0, d1, d2, d3⟩⟩ := HLOOP.out wr hB j hjm
          have hjb : (j : Int) < (m : Int) := by omega
          have hja : (j : Int) < (xs.length : Int) := by omega
          have hjy : (j : Int) < (ys.length : Int) := by omega
          have HE := fun w => eqSeen x x w
          have hd : decide (x = x) = true := decide_eq_true rfl
          rw [hd] at HE
          obtain ⟨p, q, r, s⟩ := x
          simp only [S.cells] at HE c0 c1 c2 c3 d0 d1 d2 d3
          have HBB := Lib.hid hB
          clear hd HLOOP HX HY hB
          go_wp2_with (go_quiet (fail))
          go_roundw
          case rel => exact ⟨j + 1, by go_num, by omega, belowN HBB.out _⟩
          case measure => simp [intOf]; omega
        · have hjb : j = m := by omega
          subst hjb
          clear HLOOP
          rcases hend with ⟨h5, h6, hne⟩ | ⟨h5, h6⟩ | ⟨h5, h6⟩
          · have hxe : xs[j]? = some xs[j] := List.getElem?_eq_getElem h5
            have hye : ys[j]? = some ys[j] := List.getElem?_eq_getElem h6
            rw [hxe, hye] at hne
            obtain ⟨b, off, rfl, hbl, c0, c1, c2, c3⟩ := seen_at (HX.out.below hB) hxe
            obtain ⟨b', off', rfl, hbl', d0, d1, d2, d3⟩ := seen_at (HY.out.below hB) hye
            generalize xs[j] = x at *
            generalize ys[j] = y at *
            have hxy : ¬ x = y := fun h => hne (by rw [h])
            have HE := fun w => eqSeen x y w
            have hd : decide (x = y) = false := decide_eq_false hxy
            rw [hd] at HE
            obtain ⟨p, q, r, s⟩ := x
            obtain ⟨p', q', r', s'⟩ := y
            simp only [S.cells] at HE c0 c1 c2 c3 d0 d1 d2 d3
            have e1 : ((j : Int) == (xs.length : Int)) = false := beq_eq_false_iff_ne.2 (by omega)
            have e2 : ((j : Int) == (ys.length : Int)) = false := beq_eq_false_iff_ne.2 (by omega)
            have e3 : decide ((j : Int) < (xs.length : Int)) = true := decide_eq_true (by omega)
            have e4 : decide ((j : Int) < (ys.length : Int)) = true := decide_eq_true (by omega)
            have e5 : decide ((j : Int) < 0) = false := decide_eq_false (by omega)
            have e6 : (j : Int) < (xs.length : Int) := by omega
            have e7 : (j : Int) < (ys.length : Int) := by omega
            have HBB := Lib.hid hB
            clear hd HX HY hB hxy hne hxe hye
            go_wp2_with (go_quiet (fail))
            go_ret
            exact ⟨by first | rfl | simp, belowN HBB.out _⟩
          · have e1 : ((j : Int) == (xs.length : Int)) = true := beq_iff_eq.2 (by omega)
            have e2 : ((j : Int) == (ys.length : Int)) = false := beq_eq_false_iff_ne.2 (by omega)
            have e5 : decide ((j : Int) < 0) = false := decide_eq_false (by omega)
            have HBB := Lib.hid hB
            have H5 := Lib.hid h5
            clear HX HY hB h5
            go_wp2_with (go_quiet (fail))
            go_ret
            exact ⟨by first | rfl | simp, belowN HBB.out _⟩
          · have e1 : ((j : Int) == (xs.length : Int)) = false := beq_eq_false_iff_ne.2 (by omega)
            have e2 : ((j : Int) == (ys.length : Int)) = true := beq_iff_eq.2 (by omega)
            have e5 : decide ((j : Int) < 0) = false := decide_eq_false (by omega)
            have HBB := Lib.hid hB
            have H6 := Lib.hid h6
            clear HX HY hB h6
            go_wp2_with (go_quiet (fail))
            go_ret
            exact ⟨by first | rfl | simp, belowN HBB.out _⟩
      case round =>
        obtain ⟨j, rfl, hj, hB⟩ := hrel
        clear hB3
        by_cases hjm : j < m
        · obtain ⟨x, b, off, b', off', rfl, rfl, hbl, hbl', ⟨c0, c1, c2, c3⟩, ⟨d0, d1, d2, d3⟩⟩ := HLOOP.out wr hB j hjm
          have hjb : (j : Int) < (m : Int) := by omega
          have hja : (j : Int) < (xs.length : Int) := by omega
          have hjy : (j : Int) < (ys.length : Int) := by omega
          have HE := fun w => eqSeen x x w
          have hd : decide (x = x) = true := decide_eq_true rfl
          rw [hd] at HE
          obtain ⟨p, q, r, s⟩ := x
          simp only [S.cells] at HE c0 c1 c2 c3 d0 d1 d2 d3
          have HBB := Lib.hid hB
          clear hd HLOOP HX HY hB
          go_wp2_with (go_quiet (fail))
          go_roundw
          case rel => exact ⟨j + 1, by go_num, by omega, belowN HBB.out _⟩
          case measure => simp [intOf]; omega
        · have hjb : j = m := by omega
          subst hjb
          clear HLOOP
          have HBB := Lib.hid hB
          clear hB HX HY
          go_wp2_with (go_quiet (fail))
          go_ret
          exact ⟨by first | rfl | simp, belowN HBB.out _⟩
end Go.Proofs.YtpcaeggecojaeaaDoor

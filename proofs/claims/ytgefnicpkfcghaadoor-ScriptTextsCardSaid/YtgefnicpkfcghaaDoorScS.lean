/-
  The chapter's first examples hold; two scripts compared. Condition: the tables lie as the program's text, and the library's, lay them.
-/
import Derived.Test.YtgefnicpkfcghaaDoorScB
namespace Go.Proofs.YtgefnicpkfcghaaDoor
open Go.RowKit
set_option linter.unusedVariables false
set_option linter.unusedSimpArgs false

/-- The line, reckoned. -/
def lineF (x : O) : List UInt8 := glue (kindW x.k :: (partsL x.k).map fun b => if b = 119 then x.w.data.toList else itoaF (getO x b))
theorem lineF_eq {x : O} (hr : RangeO x) : lineF x = lineO x := by
  unfold lineF lineO lineWO
  congr 2
  apply List.map_congr_left
  intro b _
  unfold wordO
  split
  · rfl
  · exact itoaF_eq (get_range hr b).1 (get_range hr b).2
instance (x : O) : Decidable (RangeO x) := by unfold RangeO; infer_instance

set_option maxRecDepth 100000 in
set_option maxHeartbeats 4000000 in
theorem says_any {w : World} (hG : Ground w) (k co nn p sg mk : Int) (nm : ByteArray) (hr : RangeO ⟨k, co, nn, p, sg, mk, nm⟩) (hm : MayO ⟨k, co, nn, p, sg, mk, nm⟩) (s : ByteArray) (hs : s.data.toList = lineO ⟨k, co, nn, p, sg, mk, nm⟩) (hsz : s.size ≤ 1000000) :
    Calls Tryd.prog 38 #[.agg #[.int .i64 k, .int .i64 co, .int .i64 nn, .int .i64 p, .int .i64 sg, .int .u32 mk, .string nm], .string s] w fun e w' => e = .returned (.bool true) ∧ Below w.heap.size w w' := by
  have hb0 := (Below.refl w.heap.size w).alloc (Nat.le_refl _) (.cells #[.int .i64 k, .int .i64 co, .int .i64 nn, .int .i64 p, .int .i64 sg, .int .u32 mk, .string nm] 24)
  have HL := Lib.hid (fun W (hW : Below w.heap.size w W) => show Calls Tryd.prog 10 #[.agg #[.int .i64 k, .int .i64 co, .int .i64 nn, .int .i64 p, .int .i64 sg, .int .u32 mk, .string nm]] W fun e w' => e = .returned (.tuple #[.string s, .int .i64 0]) ∧ Below W.heap.size W w' from by
    have h := line_yes (hG.below hW) _ hr hm
    rw [← hs] at h
    exact h)
  have HR := Lib.hid (fun W (hW : Below w.heap.size w W) => show Calls Tryd.prog 12 #[.string s] W fun e w' => e = .returned (.tuple #[.agg #[.int .i64 k, .int .i64 co, .int .i64 nn, .int .i64 p, .int .i64 sg, .int .u32 mk, .string nm], .int .i64 0]) ∧ Below W.heap.size W w' from by
    have h := read_any (hG.below hW) s hsz
    rw [hs, read_lineO hm hr] at h
    exact h)
  have hx := Blk.new w 24 #[.int .i64 k, .int .i64 co, .int .i64 nn, .int .i64 p, .int .i64 sg, .int .u32 mk, .string nm]
  have HE := fun w => eqO ⟨k, co, nn, p, sg, mk, nm⟩ ⟨k, co, nn, p, sg, mk, nm⟩ w
  have hd : decide ((⟨k, co, nn, p, sg, mk, nm⟩ : O) = ⟨k, co, nn, p, sg, mk, nm⟩) = true := decide_eq_true rfl
  simp only [hd, O.cells] at HE
  have hq := seq_true (rfl : s = s)
  clear hm hs hd hG hr
  go_enter Tryd.func38, Tryd.ntmps38
  go_wp2_with fail
  refine (HL.out _ hb0).mono ?_
  rintro e w1 ⟨rfl, hb1⟩
  have hx1 := hx.below hb1 hx.lt
  have hB1 := hb0.trans (hb1.mono hb0.size)
  clear hx hb0 hb1
  go_wp2_with fail
  refine (HR.out _ hB1).mono ?_
  rintro e w2 ⟨rfl, hb2⟩
  have hx2 := hx1.below hb2 hx1.lt
  have HB2 := Lib.hid (hB1.trans (hb2.mono hB1.size))
  clear hx1 hb2 hB1
  have hxl := hx2.lt
  have hcx := ocells hx2
  go_wp2
  go_ret
  exact ⟨by first | rfl | simp, HB2.out.alloc HB2.out.size _⟩

theorem line_one : lineO ⟨6, 0, 0, 3, 0, 0, ⟨#[97, 98, 49]⟩⟩ = [99, 104, 101, 99, 107, 112, 111, 105, 110, 116, 32, 51, 32, 97, 98, 49] := by rw [← lineF_eq (by decide)]; decide
theorem line_two : lineO ⟨9, 0, 0, 2, 0, 5, ⟨#[]⟩⟩ = [109, 105, 103, 114, 97, 116, 101, 32, 50, 32, 53] := by rw [← lineF_eq (by decide)]; decide
theorem alive_any {w : World} (hG : Ground w) : Calls Tryd.prog 17 #[] w fun e w' => e = .returned (.bool true) ∧ Below w.heap.size w w' := by
  have H1 := Lib.hid (says_any hG 6 0 0 3 0 0 ⟨#[97, 98, 49]⟩ (by decide) (by decide) ⟨#[99, 104, 101, 99, 107, 112, 111, 105, 110, 116, 32, 51, 32, 97, 98, 49]⟩ line_one.symm (by decide))
  have H2 := Lib.hid (fun W (hW : Below w.heap.size w W) => says_any (hG.below hW) 9 0 0 2 0 5 ⟨#[]⟩ (by decide) (by decide) ⟨#[109, 105, 103, 114, 97, 116, 101, 32, 50, 32, 53]⟩ line_two.symm (by decide))
  clear hG
  go_enter Tryd.func17, Tryd.ntmps17
  go_wp2_with fail
  refine H1.out.mono ?_
  rintro e w1 ⟨rfl, hb1⟩
  have HB1 := Lib.hid hb1
  clear hb1
  go_wp2_with fail
  refine (H2.out _ HB1.out).mono ?_
  rintro e w2 ⟨rfl, hb2⟩
  have HB2 := Lib.hid (HB1.out.trans (hb2.mono HB1.out.size))
  clear hb2
  go_wp2
  go_ret
  exact ⟨rfl, HB2.out⟩

set_option maxRecDepth 100000 in
set_option maxHeartbeats 4000000 in
theorem same_any {w : World} (A B : Option Addr) (ca cb : Nat) (xs ys : List O) (hx : OpsAt w A xs) (hy : OpsAt w B ys) (hxl : xs.length ≤ 1000000) (hyl : ys.length ≤ 1000000) :
    Calls Tryd.prog 20 #[.slice A xs.length ca, .slice B ys.length cb] w fun e w' => e = .returned (.bool (decide (xs = ys))) ∧ Below w.heap.size w w' := by
  by_cases hn : xs.length = ys.length
  case neg =>
    have hd : decide (xs = ys) = false := decide_eq_false (fun h => hn (by rw [h]))
    rw [hd]
    have hni : ¬ (xs.length : Int) = (ys.length : Int) := by omega
    clear hd hn hx hy
    go_enter Tryd.func20, Tryd.ntmps20
    go_wp2
    go_ret
    exact ⟨rfl, Below.refl _ _⟩
  rw [← hn]
  have HN := Lib.hid hn
  have HX := Lib.hid hx
  have HY := Lib.hid hy
  clear hn hx hy
  obtain ⟨r, hr⟩ : ∃ r, r = decide (xs = ys) := ⟨_, rfl⟩
  rw [← hr]
  have HR := Lib.hid hr
  clear hr
  go_enter Tryd.func20, Tryd.ntmps20
  go_wp2
  go_loopw [5] (fun i wr => ∃ k : Nat, i = .int .i64 (k : Int) ∧ k ≤ xs.length ∧ (∀ j, j < k → xs[j]? = ys[j]?) ∧ Below w.heap.size w wr) (fun i _ => xs.length - (intOf i).toNat)
  case atStart => exact ⟨0, rfl, Nat.zero_le _, fun j hj => by omega, Below.refl _ _⟩
  case round =>
    obtain ⟨k, rfl, hk, hpre, hB⟩ := hrel
    have HP := Lib.hid hpre
    clear hpre
    by_cases hkl : k < xs.length
    · have hka : (k : Int) < (xs.length : Int) := by omega
      have hky : k < ys.length := by have := HN.out; omega
      have hxe : xs[k]? = some xs[k] := List.getElem?_eq_getElem hkl
      have hye : ys[k]? = some ys[k] := List.getElem?_eq_getElem hky
      obtain ⟨b, off, rfl, hbl, c0, c1, c2, c3, c4, c5, c6⟩ := op_at (HX.out.below hB) hxe
      obtain ⟨b', off', rfl, hbl', d0, d1, d2, d3, d4, d5, d6⟩ := op_at (HY.out.below hB) hye
      generalize xs[k] = x at *
      generalize ys[k] = y at *
      have HE := fun w => eqO x y w
      by_cases hxy : x = y
      · rw [decide_eq_true hxy] at HE
        have HK := Lib.hid (show xs[k]? = ys[k]? from by rw [hxe, hye, hxy])
        obtain ⟨x0, x1, x2, x3, x4, x5, x6⟩ := x
        obtain ⟨y0, y1, y2, y3, y4, y5, y6⟩ := y
        simp only [O.cells] at HE c0 c1 c2 c3 c4 c5 c6 d0 d1 d2 d3 d4 d5 d6
        clear hxe hye hxy hky
        go_wp2_with (go_quiet (fail))
        go_roundw
        case rel => exact ⟨k + 1, by go_num, by omega, fun j hj => by
          by_cases h : j < k
          · exact HP.out j h
          · obtain rfl : j = k := by omega
            exact HK.out, by first | exact hB | exact belowN hB _⟩
        case measure => simp [intOf]; omega
      · rw [decide_eq_false hxy] at HE
        have hrf : r = false := by
          rw [HR.out]
          refine decide_eq_false (fun h => hxy ?_)
          rw [h, hye] at hxe
          injection hxe with hxe
          exact hxe.symm
        subst hrf
        obtain ⟨x0, x1, x2, x3, x4, x5, x6⟩ := x
        obtain ⟨y0, y1, y2, y3, y4, y5, y6⟩ := y
        simp only [O.cells] at HE c0 c1 c2 c3 c4 c5 c6 d0 d1 d2 d3 d4 d5 d6
        clear hxe hye hxy hky
        go_wp2_with (go_quiet (fail))
        go_ret
        exact ⟨rfl, by first | exact hB | exact belowN hB _⟩
    · have hkk : k = xs.length := by omega
      have hrt : r = true := by
        rw [HR.out]
        refine decide_eq_true ?_
        apply List.ext_getElem?
        intro j
        by_cases h : j < xs.length
        · exact HP.out j (by omega)
        · rw [List.getElem?_eq_none (by omega), List.getElem?_eq_none (by have := HN.out; omega)]
      subst hrt
      have hka : ¬ (k : Int) < (xs.length : Int) := by omega
      clear hkk
      go_wp2
      go_ret
      exact ⟨rfl, hB⟩
end Go.Proofs.YtgefnicpkfcghaaDoor

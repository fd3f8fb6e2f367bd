/-
  Walks over the reference of package boot: Pages, Bytes. No condition.
-/
import Derived.Test.YtpikgebfeleajaaBoot1
namespace Go.Proofs.Ytpikgebfeleajaa
open Go.RowKit
set_option linter.unusedVariables false
set_option linter.unusedSimpArgs false

def pagesN (may : Bool) (len : Nat) : Nat := if may then (len + 15) / 16 else 0
set_option maxHeartbeats 1000000 in
theorem refPages_any {w : World} (c f p q : Int) (A : Option Addr) (len cap : Nat) (hl : len ≤ 1000000) : Calls Try.prog 6 #[bootV c f p q A len cap] w
    fun e w' => e = .returned (.int .i64 (pagesN (mayB c f p q len) len : Nat)) ∧ Below w.heap.size w w' := by
  have HM := Lib.hid (fun W => may_any (w := W) c f p q A len cap (by omega))
  have hb0 := (Below.refl w.heap.size w).alloc (Nat.le_refl _) (.cells #[.int .i64 c, .int .i64 f, .int .i64 p, .int .i64 q, .slice A len cap] 24)
  have HX0 := Lib.hid (Blk.new w 24 #[.int .i64 c, .int .i64 f, .int .i64 p, .int .i64 q, .slice A len cap])
  have HB0 := Lib.hid hb0
  unfold bootV at HM ⊢
  clear hb0
  cases hm : mayB c f p q len with
  | true =>
    rw [hm] at HM
    have hv : (pagesN true len : Nat) = (len + 15) / 16 := rfl
    rw [hv]
    clear hm hv
    go_enter Try.func6, Try.ntmps6
    go_wp2_with (go_at_call 9; refine (HM.out _).mono ?_; rintro e w1 ⟨rfl, hb1⟩; have hx1 := HX0.out.below hb1 HX0.out.lt; have g := hx1.cell 4; have glt := hx1.lt; simp only [List.getElem?_toArray, List.getElem?_cons_zero, List.getElem?_cons_succ] at g; have HB1 := Lib.hid (HB0.out.trans (hb1.mono (by rw [World.size_alloc]; omega))); clear hx1)
    go_ret
    exact ⟨by first | rfl | (congr 2; omega), HB1.out⟩
  | false =>
    rw [hm] at HM
    clear hm
    go_enter Try.func6, Try.ntmps6
    go_wp2_with (go_at_call 9; refine (HM.out _).mono ?_; rintro e w1 ⟨rfl, hb1⟩; have HB1 := Lib.hid (HB0.out.trans (hb1.mono (by rw [World.size_alloc]; omega))))
    go_ret
    exact ⟨rfl, HB1.out⟩

/-! ## a page's bytes -/
def pageL (bs : List Int) (k : Nat) : List Int := (List.range 64).map fun j => bs.getD (64 * k + j) 0
theorem pageL_len (bs : List Int) (k : Nat) : (pageL bs k).length = 64 := by simp [pageL]
theorem pageL_at (bs : List Int) (k : Nat) {j : Nat} (hj : j < 64) : (pageL bs k)[j]? = some (bs.getD (64 * k + j) 0) := by
  unfold pageL; rw [List.getElem?_map, List.getElem?_range hj]; rfl
theorem pageL_take (bs : List Int) (k : Nat) {j : Nat} (hj : j < 64) : (pageL bs k).take (j + 1) = (pageL bs k).take j ++ [bs.getD (64 * k + j) 0] := by
  rw [List.take_add_one, pageL_at bs k hj]; rfl
def pageOf (may : Bool) (ws : List Int) (page : Int) : List Int := if 0 ≤ page ∧ page < (pagesN may ws.length : Nat) then pageL (bytesL ws) page.toNat else []
set_option maxHeartbeats 4000000 in
theorem refPage_any {w : World} (c f p q : Int) (A : Option Addr) (cap : Nat) (ws : List Int) (hl : ws.length ≤ 600) (hA : WordsAt w A ws) (hw : Words ws) (page : Int) : Calls Try.prog 7 #[bootV c f p q A ws.length cap, .int .i64 page] w
    fun e w' => ∃ v, e = .returned v ∧ OwnB w' w.heap.size v (pageOf (mayB c f p q ws.length) ws page) ∧ Below w.heap.size w w' := by
  obtain ⟨i0, hi, hz0, hz1, hz2⟩ := info_parts infoB
  have HP := Lib.hid (fun W => refPages_any (w := W) c f p q A ws.length cap (by omega))
  have hb0 := (Below.refl w.heap.size w).alloc (Nat.le_refl _) (.cells #[.int .i64 c, .int .i64 f, .int .i64 p, .int .i64 q, .slice A ws.length cap] 24)
  have HX0 := Lib.hid (Blk.new w 24 #[.int .i64 c, .int .i64 f, .int .i64 p, .int .i64 q, .slice A ws.length cap])
  have HB0 := Lib.hid hb0
  have HALL := Lib.hid (fun W (hW : Below w.heap.size w W) => refAll_any (w := W) A cap ws (by omega) (hA.below hW) hw)
  unfold bootV at HP ⊢
  have hn : pagesN (mayB c f p q ws.length) ws.length ≤ 40 := by unfold pagesN; split <;> omega
  unfold pageOf
  generalize pagesN (mayB c f p q ws.length) ws.length = n at *
  generalize hbs : bytesL ws = bs at *
  have hbl : bs.length ≤ 2400 := by rw [← hbs, bytesL_len]; omega
  clear hb0 hA hbs
  by_cases hr : 0 ≤ page ∧ page < (n : Int)
  · rw [if_pos hr]
    obtain ⟨k, rfl⟩ := Int.eq_ofNat_of_zero_le hr.1
    rw [Int.toNat_natCast]
    have hkn : k < n := by omega
    have hkb : (k : Int) < (n : Int) := by omega
    clear hr
    go_enter Try.func7, Try.ntmps7
    go_wp2_with fail
    refine (HP.out _).mono ?_
    rintro e w1 ⟨rfl, hb1⟩
    have hx1 := HX0.out.below hb1 HX0.out.lt
    have g := hx1.cell 4
    have glt := hx1.lt
    simp only [List.getElem?_toArray, List.getElem?_cons_zero, List.getElem?_cons_succ] at g
    have HB1 := Lib.hid (HB0.out.trans (hb1.mono (by rw [World.size_alloc]; omega)))
    clear hx1 hb1
    go_wp2_with fail
    refine (HALL.out _ HB1.out).mono ?_
    rintro e w2 ⟨v, rfl, hown, hb2⟩
    obtain ⟨Ab, cb, rfl, hAb, _⟩ := ownB_at hown
    have hs1 := HB1.out.size
    have HB2 := Lib.hid (HB1.out.trans (hb2.mono hs1))
    have HAB := Lib.hid hAb
    have hs2 := HB2.out.size
    clear hown hb2 hAb g glt HP HALL HX0 HB0
    go_wp2
    go_loopw [7, 8] (fun v i wr => ∃ j : Nat, i = .int .i64 ((64 * k + j : Nat) : Int) ∧ j ≤ 64 ∧ OwnB wr w2.heap.size v ((pageL bs k).take j) ∧ Below w2.heap.size w2 wr) (fun _ i _ => 64 * k + 64 - (intOf i).toNat)
    case atStart => exact ⟨0, by first | rfl | simp, Nat.zero_le _, World.ownsRow_nil _ _ _ _, Below.refl _ _⟩
    case round =>
      obtain ⟨j, rfl, hj, hown, hB⟩ := hrel
      have hsz := hB.size
      by_cases hj64 : j < 64
      · have hjb : ((64 * k + j : Nat) : Int) < 64 * (k : Int) + 64 := by omega
        have hnx := pageL_take bs k hj64
        have hlen : ((pageL bs k).take j).length ≤ 64 := by rw [List.length_take]; omega
        generalize (pageL bs k).take j = sel at *
        have hown0 := hown
        have HO := Lib.hid hown
        by_cases hin : 64 * k + j < bs.length
        · have hinb : ((64 * k + j : Nat) : Int) < (bs.length : Int) := by omega
          have hxe : bs[64 * k + j]? = some bs[64 * k + j] := List.getElem?_eq_getElem hin
          have hgd : bs.getD (64 * k + j) 0 = bs[64 * k + j] := by rw [List.getD_eq_getElem?_getD, hxe]; rfl
          rw [hgd] at hnx
          obtain ⟨b, off, rfl, hbl2, c0⟩ := byte_at (HAB.out.below hB) hxe
          generalize bs[64 * k + j] = x at *
          have HN := Lib.hid hnx
          clear hnx hxe hgd hown
          generalize hi0 : 64 * k + j = i at *
          have HI0 := Lib.hid hi0
          clear hi0
          go_wp2_with (at_builtin; refine wpList_append_own _ rfl _ _ 25 rfl w2.heap.size 5 i0 _ 1 1 Try.underlying25 hi hz0 hz1 hz2 rfl (by decide) _ _ _ rfl (hown0.alloc _) ⟨wr.heap.size, 0, none⟩ 1 1 (([x] : List Int).flatMap bC) rfl rfl (cells_new _ _ _) (by simp [bC, Value.oneCell']) (by unfold maxLen; omega) (by omega) (by simp; omega) ?_; intro v' w3 hown' hgrow _)
          go_roundw
          case rel => exact ⟨j + 1, by rw [← HI0.out]; go_num, by omega, by rw [HN.out]; exact ownB_snoc hown' rfl, below_grown (hB.alloc hsz _) hgrow (own_block HO.out) (by simp; omega)⟩
          case measure => have := HI0.out; simp [intOf]; omega
        · have hinb : ¬ ((64 * k + j : Nat) : Int) < (bs.length : Int) := by omega
          have hgd : bs.getD (64 * k + j) 0 = 0 := by rw [List.getD_eq_getElem?_getD, List.getElem?_eq_none (by omega)]; rfl
          rw [hgd] at hnx
          have HN := Lib.hid hnx
          clear hnx hgd hown
          generalize hi0 : 64 * k + j = i at *
          have HI0 := Lib.hid hi0
          clear hi0
          go_wp2_with (at_builtin; refine wpList_append_own _ rfl _ _ 25 rfl w2.heap.size 5 i0 _ 1 1 Try.underlying25 hi hz0 hz1 hz2 rfl (by decide) _ _ _ rfl (hown0.alloc _) ⟨wr.heap.size, 0, none⟩ 1 1 (([0] : List Int).flatMap bC) rfl rfl (cells_new _ _ _) (by simp [bC, Value.oneCell']) (by unfold maxLen; omega) (by omega) (by simp; omega) ?_; intro v' w3 hown' hgrow _)
          go_roundw
          case rel => exact ⟨j + 1, by rw [← HI0.out]; go_num, by omega, by rw [HN.out]; exact ownB_snoc hown' rfl, below_grown (hB.alloc hsz _) hgrow (own_block HO.out) (by simp; omega)⟩
          case measure => have := HI0.out; simp [intOf]; omega
      · have hj64' : j = 64 := by omega
        subst hj64'
        rw [List.take_of_length_le (by rw [pageL_len]; omega)] at hown
        have HO := Lib.hid hown
        have hjb : ¬ ((64 * k + 64 : Nat) : Int) < 64 * (k : Int) + 64 := by omega
        clear hown
        generalize hi0 : 64 * k + 64 = i at *
        clear hi0
        go_wp2
        go_ret
        obtain ⟨v, hv⟩ : ∃ v, v = pageL bs k := ⟨_, rfl⟩
        refine ⟨_, rfl, ?_, HB2.out.trans (hB.mono hs2)⟩
        have := HO.out
        refine ⟨this.1, ?_⟩
        rcases this.2 with h0 | ⟨g, cap, cur, h1, h2, h3⟩
        · exact .inl h0
        · exact .inr ⟨g, cap, cur, h1, by omega, h3⟩
  · rw [if_neg hr]
    clear HALL
    by_cases hp0 : page < 0
    · clear hr
      go_enter Try.func7, Try.ntmps7
      go_wp2_with (go_at_call 6; refine (HP.out _).mono ?_; rintro e w1 ⟨rfl, hb1⟩; have HB1 := Lib.hid (HB0.out.trans (hb1.mono (by rw [World.size_alloc]; omega))))
      go_ret
      exact ⟨_, rfl, World.ownsRow_nil _ _ _ _, HB1.out⟩
    · have hp1 : (n : Int) ≤ page := by omega
      clear hr
      go_enter Try.func7, Try.ntmps7
      go_wp2_with (go_at_call 6; refine (HP.out _).mono ?_; rintro e w1 ⟨rfl, hb1⟩; have HB1 := Lib.hid (HB0.out.trans (hb1.mono (by rw [World.size_alloc]; omega))))
      go_ret
      exact ⟨_, rfl, World.ownsRow_nil _ _ _ _, HB1.out⟩
end Go.Proofs.Ytpikgebfeleajaa

/-
  The law PagesHole answers true for every input: Hole tells the least page from which on as many have none, if there is one. No condition.
-/
import Derived.Test.YtgdimjcpdndklaaLaw2
import Derived.Test.YtgdimjcpdndklaaPlainHole
import Derived.Test.YtgdimjcpdndklaaOpen
namespace Go.Proofs.Ytgdimjcpdndklaa.lawPagesHole
open Go.ChangeShapes Go.WideShapes Go.ChangeAt Go.RowKit
set_option linter.unusedVariables false

/-- From p on, up to k, none has. -/
def Free (m : M) (p k : Nat) (b : Bool) : Prop := b = true ↔ ∀ j, p ≤ j → j < k → m j = none
/-- How far one has looked: nothing found up to p; or found just ahead of p. -/
def Seek (m : M) (n : Nat) (want : Int) (has : Bool) (p : Nat) : Prop :=
  (has = false ∧ want = 0 ∧ ∀ p', p' < p → ¬ Win m n p') ∨ (has = true ∧ 1 ≤ n ∧ ∃ a, p = a + 1 ∧ want = (a : Int) ∧ Win m n a ∧ ∀ p', p' < a → ¬ Win m n p')

set_option maxRecDepth 100000 in
set_option maxHeartbeats 4000000 in
theorem walk {w : World} (A : Option Addr) (c : Nat) (l : List O) (hO : OpsAt w A l) (hl : l.length ≤ maxLen) (n : Nat) (hn : n < 256) :
    Calls Try.prog 3 #[.slice A l.length c, .int .u8 n] w fun e w' => e = .returned (.bool true) ∧ Below w.heap.size w w' := by
  unfold maxLen at hl
  by_cases hl150 : 150 < l.length
  · clear hO
    go_enter Try.func3, Try.ntmps3
    go_wp2_with (go_at_call 10; refine alive_fn.mono ?_; rintro e w1 ⟨rfl, hb1⟩)
    go_ret
    exact ⟨rfl, hb1⟩
  · have hle : l.length ≤ 150 := by omega
    clear hl150
    go_enter Try.func3, Try.ntmps3
    go_wp2_with fail
    refine alive_fn.mono ?_
    rintro e w1 ⟨rfl, hb1⟩
    have hO1 := hO.below hb1
    go_wp2_with fail
    refine (grown_any A c l hle hO1).mono ?_
    rintro e w2 ⟨rfl, hT2, hb2⟩
    generalize runM (fun _ => none) l = m at *
    generalize hbt : w1.heap.size = bt at *
    clear hO hO1
    go_wp2_with fail
    rw [show ((n : Int) % 70) = ((n % 70 : Nat) : Int) from by omega]
    have hk70 : n % 70 < 70 := by omega
    generalize n % 70 = k at *
    refine (hole_new hT2 (k : Int) (by omega) (by omega)).mono ?_
    rintro e w3 ⟨rfl, hb3⟩
    obtain ⟨ha, hb, hh⟩ : ∃ ha hb, hole m (k : Int) = (ha, hb) := ⟨_, _, rfl⟩
    rw [hh]
    have HH := Lib.hid hh
    have hT3 := hT2.below hb3
    have hs1 := hb1.size
    have hs2 := hb2.size
    have hB3 : Below w.heap.size w w3 := (hb1.trans (hb2.mono (by omega))).trans (hb3.mono (by omega))
    clear hh hb1 hb2 hb3 hT2 hs2 hs1 hbt
    go_wp2_with fail
    go_loopw [10, 11, 12] (fun sw sh sp wr => ∃ (p : Nat) (has : Bool) (want : Int), p ≤ 65 ∧ sp = .int .i64 p ∧ sh = .bool has ∧ sw = .int .i64 want ∧ Seek m k want has p ∧ TabNew wr bt bt m ∧ Below w.heap.size w wr) (fun _ sh sp _ => 2 * (65 - (intOf sp).toNat) + 1)
    case atStart => exact ⟨0, false, 0, by omega, rfl, rfl, rfl, .inl ⟨rfl, rfl, fun p' h => by omega⟩, hT3, hB3⟩
    case round =>
      obtain ⟨p, has, want, hp, rfl, rfl, rfl, hS, hT, hB⟩ := hrel
      clear hT3 hB3
      rcases hS with ⟨rfl, rfl, hno⟩ | ⟨rfl, hk1, a, rfl, rfl, hwin, hno⟩
      · by_cases hin : 1 ≤ k ∧ p + k ≤ 64
        · obtain ⟨hk1, hpk⟩ := hin
          obtain ⟨wo, hwo⟩ : ∃ wo : World, wo = wr := ⟨_, rfl⟩
          subst hwo
          have HNO := Lib.hid hno
          clear hno
          go_wp2_with fail
          go_loopw [13, 14] (fun sf sj wr => ∃ (j : Nat) (fr : Bool), p ≤ j ∧ j ≤ p + k ∧ sj = .int .i64 j ∧ sf = .bool fr ∧ Free m p j fr ∧ TabNew wr bt bt m ∧ Below w.heap.size w wr) (fun _ sj _ => p + k - (intOf sj).toNat)
          case atStart => exact ⟨p, true, by omega, by omega, rfl, rfl, ⟨fun _ j a b => by omega, fun _ => rfl⟩, hT, hB⟩
          case round =>
            obtain ⟨j, fr, hj1, hj2, rfl, rfl, hF, hT, hB⟩ := hrel
            by_cases hgo : fr = true ∧ j < p + k
            · obtain ⟨rfl, hlt⟩ := hgo
              have hg := get_new hT (j : Int)
              rw [look_in m (by omega)] at hg
              have hsz := hB.size
              cases hm : m j with
              | none =>
                rw [hm] at hg
                simp only [gotV, Option.getD_none, Option.isSome_none, E.val, E.zero, E.arr] at hg
                have hF2 : Free m p (j + 1) true := ⟨fun _ i a b => by
                  by_cases hij : i = j
                  · rw [hij]; exact hm
                  · exact hF.1 rfl i a (by omega), fun _ => rfl⟩
                have HG := Lib.hid hg
                clear hg hm hF
                go_wp2_with (go_at_call 13; refine HG.out.mono ?_; rintro e w4 ⟨rfl, hb4⟩)
                go_roundw
                case rel =>
                  have hb5 := hb4.alloc hb4.size (.cells E.zero.arr 29)
                  exact ⟨j + 1, true, by omega, by omega, by go_num, rfl, hF2, hT.below hb5, hB.trans (hb5.mono hsz)⟩
                case measure => simp [intOf]; omega
              | some x =>
                rw [hm] at hg
                obtain ⟨f, c1, c2, c3, c4⟩ := x
                simp only [gotV, Option.getD_some, Option.isSome_some, E.val, E.arr] at hg
                have hF2 : Free m p (j + 1) false := ⟨fun h => (by cases h), fun h => (by have := h j hj1 (by omega); rw [hm] at this; cases this)⟩
                have HG := Lib.hid hg
                clear hg hm hF
                go_wp2_with (go_at_call 13; refine HG.out.mono ?_; rintro e w4 ⟨rfl, hb4⟩)
                go_roundw
                case rel =>
                  have hb5 := hb4.alloc hb4.size (.cells #[.int .i64 f, .bool c1, .bool c2, .bool c3, .bool c4] 29)
                  exact ⟨j + 1, false, by omega, by omega, by go_num, rfl, hF2, hT.below hb5, hB.trans (hb5.mono hsz)⟩
                case measure => simp [intOf]; omega
            · cases fr with
              | true =>
                have hjk : p + k ≤ j := by
                  rcases Nat.lt_or_ge j (p + k) with h | h
                  · exact absurd ⟨rfl, h⟩ hgo
                  · exact h
                have hS : Seek m k (p : Int) true (p + 1) := .inr ⟨rfl, hk1, p, rfl, rfl, ⟨hpk, fun i a b => hF.1 rfl i a (by omega)⟩, HNO.out⟩
                clear hgo hF
                go_wp2_with fail
                go_roundw
                case rel => exact ⟨p + 1, true, p, by omega, by go_num, rfl, rfl, hS, hT, hB⟩
                case measure => simp [intOf]; omega
              | false =>
                have hS : Seek m k 0 false (p + 1) := .inl ⟨rfl, rfl, fun p' hp' hw => by
                  by_cases hpp : p' = p
                  · subst hpp
                    have := hF.2 (fun i a b => hw.2 i a (by omega))
                    cases this
                  · exact HNO.out p' (by omega) hw⟩
                clear hgo hF
                by_cases hjk : j < p + k
                all_goals
                  go_wp2_with fail
                  go_roundw
                  case rel => exact ⟨p + 1, false, 0, by omega, by go_num, rfl, rfl, hS, hT, hB⟩
                  case measure => simp [intOf]; omega
        · have hval : hole m (k : Int) = (0, false) := by
            rcases Nat.eq_zero_or_pos k with h0 | h0
            · subst h0; unfold hole; rw [if_pos (by omega)]
            · exact hole_none m k h0 (fun p' hw => hno p' (by have := hw.1; omega) hw)
          have hpair := HH.out.symm.trans hval
          injection hpair with e1 e2
          subst e1 e2
          clear hval hno HH
          by_cases hk0 : k = 0
          · subst hk0
            clear hin
            go_wp2_with fail
            go_ret
            exact ⟨rfl, hB⟩
          · have hk1 : 1 ≤ k := by omega
            have hpk : 64 < p + k := by omega
            clear hin hk0
            go_wp2_with fail
            go_ret
            exact ⟨rfl, hB⟩
      · have hval := hole_found m k a hk1 hwin hno
        have hpair := HH.out.symm.trans hval
        injection hpair with e1 e2
        subst e1 e2
        clear hval hno HH hwin
        by_cases hpk : a + 1 + k ≤ 64
        all_goals
          go_wp2_with fail
          go_ret
          exact ⟨rfl, hB⟩

theorem own : ownKnob Try.prog.godebug = none := by kernel_rfl
theorem laidOut : laidOutB Try.prog = true := by kernel_rfl

set_option maxRecDepth 100000 in
theorem lifted (os : Os) (started : os.Started) (H : Type) (enc : TypeId × Value → H) :
    ReturnsInHanded {} Try.checked os 3 .any (Rows.pagesHoleSpec.pre6 enc Try.prog Try.f3 Rows.pagesHoleRow.domain false) (Rows.pagesHoleSpec.post enc Try.prog Try.f3 false true false false) := by
  refine returnsInHanded_of_change (C := Try.checked) own started (by kernel_rfl) Try.func3
    (ChangeSpec.witness6 (enc := enc) (C := Try.checked) false ⟨#[], #[.slice none 0 0, .int .u8 0], []⟩ 8 (by kernel_rfl) (by kernel_rfl) (by kernel_rfl) (by kernel_rfl)) ?_
  intro W base args ds gs before hval0 hW hcnd _
  have hval : ∀ (j : Nat) t v, Try.f3.params[j]? = some t → args[j]? = some v → Value.okWide Try.prog W .any base t v := hval0
  have hW' := hW
  obtain ⟨p, q, hA0, hV, rfl, hfz, hnd⟩ := hW
  have hA : DataW.TrodAll enc Try.prog W 0 (fun _ => true) true Try.f3.params.toList args.toList ds p := hA0
  rw [Try.params3] at hA hval
  obtain ⟨v0, v1, d0, d1, p0, p1, rfl, rfl, rfl, h0, h1⟩ := trodAll_two hA
  obtain ⟨A, c, l, rfl, hO, hl⟩ := open_ops (hval 0 22 v0 rfl rfl) h0
  obtain ⟨n, rfl, e1, e2, wn⟩ := open_int Try.underlying5 (hval 1 5 v1 rfl rfl) h1
  have hn : 0 ≤ n ∧ n ≤ 255 := by simpa [Lit.wf, IntKind.min, IntKind.max, IntKind.signed, IntKind.bits] using wn
  obtain ⟨k, rfl⟩ := Int.eq_ofNat_of_zero_le hn.1
  refine (walk A c l hO hl k (by omega)).mono fun e W' ⟨he, hb⟩ => ?_
  subst he
  exact ⟨_, rfl, law_post (tb := 4) laidOut (by kernel_rfl) rfl rfl Try.underlying4 hW' (fun _ => rfl) hb⟩

theorem holds : Rows.PagesHoleSaid :=
  OpenClaim.holds_of_wide 3 Try.f3 rfl rfl rfl rfl rfl rfl rfl ⟨rfl, rfl, rfl, rfl, rfl⟩ rfl rfl rfl rfl rfl (by kernel_rfl) Try.func3 (by kernel_rfl)
    (of_decide_eq_true (by kernel_rfl)) (by unfold Func.isWrapper; first | (rw [if_pos (by decide +kernel)]; kernel_rfl) | (rw [if_neg (by decide +kernel)]; exact ⟨rfl, rfl⟩))
    (fun os started H enc _ => lifted os started H enc)
end Go.Proofs.Ytgdimjcpdndklaa.lawPagesHole

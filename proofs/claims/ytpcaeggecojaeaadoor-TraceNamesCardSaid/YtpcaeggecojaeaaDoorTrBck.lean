/-
  The law TraceBack, walked. Condition: the tables lie as the program's text, and the library's, lay them.
-/
import Derived.Test.YtpcaeggecojaeaaDoorTrBkP
import Derived.Test.YtpcaeggecojaeaaDoorTrJoi
namespace Go.Proofs.YtpcaeggecojaeaaDoor
open Go.RowKit
set_option linter.unusedVariables false
set_option linter.unusedSimpArgs false

theorem parse_any {w : World} (hG : Ground w) (s : ByteArray) (hs : s.size ≤ 1000000) : Calls Tryd.prog 20 #[.string s] w (ParseOut w (toL s)) := callsIn_wide.1 (parse_in 6 (by omega) hG s hs)

set_option maxRecDepth 100000 in
set_option maxHeartbeats 16000000 in
theorem backLaw_any {w : World} (hG : Ground w) (A : Option Addr) (ca : Nat) (xs : List S) (s : ByteArray) (hx : SeenAt w A xs) (hxl : xs.length ≤ maxLen) (hv : Vals xs) (hsl : s.size ≤ maxLen) :
    Calls Tryd.prog 6 #[.slice A xs.length ca, .string s] w fun e w' => e = .returned (.bool true) ∧ Below w.heap.size w w' := by
  unfold maxLen at hxl hsl
  have HAL := Lib.hid (alive_any hG)
  by_cases hbig : 200 < xs.length ∨ 6000 < s.size
  · clear hx hv hG
    have hc : (200 : Int) < (xs.length : Int) ∨ (¬ (200 : Int) < (xs.length : Int) ∧ (6000 : Int) < (s.size : Int)) := by omega
    clear hbig
    rcases hc with h1 | ⟨h1, h2⟩
    all_goals
      go_enter Tryd.func6, Tryd.ntmps6
      go_wp2_with fail
      refine HAL.out.mono ?_
      rintro e w1 ⟨rfl, hb1⟩
      have HB1 := Lib.hid hb1
      clear hb1
      go_wp2
      go_ret
      exact ⟨rfl, HB1.out⟩
  have h1 : ¬ (200 : Int) < (xs.length : Int) := by omega
  have h2 : ¬ (6000 : Int) < (s.size : Int) := by omega
  have hs6 : s.size ≤ 6000 := by omega
  have hx2 : xs.length ≤ 200 := by omega
  clear hbig
  have HX := Lib.hid hx
  have HG := Lib.hid hG
  have HV := Lib.hid hv
  clear hx hG hv
  go_enter Tryd.func6, Tryd.ntmps6
  go_wp2_with fail
  refine HAL.out.mono ?_
  rintro e W1 ⟨rfl, hb1⟩
  have HB1 := Lib.hid hb1
  clear hb1 HAL
  obtain ⟨sx, hsx⟩ : ∃ sx : ByteArray, sx = ⟨((textL xs).getD []).toArray⟩ := ⟨_, rfl⟩
  obtain ⟨ex, hex⟩ : ∃ ex, ex = errN (textL xs) := ⟨_, rfl⟩
  have HTX := Lib.hid (show Calls Tryd.prog 18 #[.slice A xs.length ca] W1 fun e w' => e = .returned (.tuple #[.string sx, .int .i64 ex]) ∧ Below W1.heap.size W1 w' from by
    rw [hsx, hex]
    exact text_any (HG.out.below HB1.out) A ca xs (by omega) (HX.out.below HB1.out) HV.out)
  have HSX := Lib.hid hsx
  have HEX := Lib.hid hex
  clear hsx hex
  go_wp2_with fail
  refine HTX.out.mono ?_
  rintro e W2 ⟨rfl, hb2⟩
  have HB2 := Lib.hid (bl_step HB1.out HB1.out.size hb2)
  clear hb2 HB1 HTX
  -- behind the first part
  have HTAIL := Lib.hid (show ∀ W3, Below w.heap.size w W3 → Calls Tryd.prog 20 #[.string s] W3 (fun e w' => (∃ n, e = .returned (.tuple #[.slice none 0 0, .int .i64 n, .int .i64 210]) ∧ Below w.heap.size w w') ∨
      (∃ E ce acc, e = .returned (.tuple #[.slice E acc.length ce, .int .i64 0, .int .i64 0]) ∧ SeenAt w' E acc ∧ textL acc = some (toL s) ∧ Vals acc ∧ acc.length ≤ 10000 ∧ Below w.heap.size w w')) from fun W3 hW3 =>
    (parse_any (HG.out.below hW3) s (by omega)).mono fun e w' h => by
      rcases h with ⟨v, acc, rfl, ho, hm, hl, hb⟩ | ⟨k, rfl, _, _, _, hb⟩
      · obtain ⟨E, ce, rfl, hE, _⟩ := ownS_at ho
        obtain ⟨t1, t2, t3⟩ := text_back hm hl
        exact .inr ⟨E, ce, acc, rfl, hE, t1, t2, t3, bl_step hW3 hW3.size hb⟩
      · exact .inl ⟨_, rfl, bl_step hW3 hW3.size hb⟩)
  by_cases hf : Fine xs
  · have hty : textL xs = some (linesL xs) := text_yes hf
    have he0 : ex = 0 := by rw [HEX.out, hty]; rfl
    have hsl : toL sx = linesL xs := by rw [HSX.out, hty]; rfl
    have hsz : sx.size ≤ 1000000 := by
      have e1 : sx.size = (toL sx).length := by unfold toL; rw [Array.length_toList]; rfl
      have e2 := lines_len xs hf.2 HV.out
      rw [hsl] at e1
      omega
    subst he0
    have HP1 := Lib.hid (show Calls Tryd.prog 20 #[.string sx] W2 (fun e w' => ∃ E ce, e = .returned (.tuple #[.slice E xs.length ce, .int .i64 0, .int .i64 0]) ∧ SeenAt w' E xs ∧ Below W2.heap.size W2 w') from
      (parse_any (HG.out.below HB2.out) sx hsz).mono fun e w' h => by
        rw [hsl] at h
        have hbt := back_text hf.2 HV.out
        have hll := lns_lines xs
        rcases h with ⟨v, acc, rfl, ho, hm, hl, hb⟩ | ⟨k, rfl, hk, _, ⟨x, hx, hbad⟩, hb⟩
        · obtain ⟨E, ce, rfl, hE, _⟩ := ownS_at ho
          have := some_inj (hm.symm.trans hbt)
          subst this
          exact ⟨E, ce, rfl, hE, hb⟩
        · exfalso
          have hkl := (List.getElem?_eq_some_iff.1 hx).1
          rw [hll, List.length_map] at hkl
          rcases hbad with h | h
          · have h3 : ((lns (linesL xs)).map lineS)[k]? = some none := by rw [List.getElem?_map, hx, ← h]; rfl
            rw [hbt, List.getElem?_map, List.getElem?_eq_getElem hkl] at h3
            cases h3
          · omega)
    clear hty hsl hf
    go_wp2_with fail
    refine HP1.out.mono ?_
    rintro e W3 ⟨E, ce, rfl, hE, hb3⟩
    have HB3 := Lib.hid (bl_step HB2.out HB2.out.size hb3)
    have HF := Lib.hid (show Calls Tryd.prog 22 #[.slice E xs.length ce, .slice A xs.length ca] W3 fun e w' => e = .returned (.int .i64 (-1)) ∧ Below W3.heap.size W3 w' from by
      have h := refFirst_any E A ce ca xs xs hE (HX.out.below HB3.out) (by omega) (by omega)
      rw [first_self] at h
      exact h)
    clear hE hb3 HP1
    go_wp2_with fail
    refine HF.out.mono ?_
    rintro e W4 ⟨rfl, hb4⟩
    have HB4 := Lib.hid (bl_step HB3.out HB3.out.size hb4)
    clear hb4 HF HB3 HB2
    go_wp2_with fail
    refine (HTAIL.out _ HB4.out).mono ?_
    rintro e W5 (⟨nn, rfl, hb5⟩ | ⟨E5, c5, acc, rfl, hE5, ht5, hv5, hl5, hb5⟩)
    · have HB5 := Lib.hid hb5
      clear hb5
      go_wp2
      go_ret
      exact ⟨rfl, HB5.out⟩
    · have HB5 := Lib.hid hb5
      have HT5 := Lib.hid (show Calls Tryd.prog 18 #[.slice E5 acc.length c5] W5 fun e w' => e = .returned (.tuple #[.string s, .int .i64 0]) ∧ Below W5.heap.size W5 w' from by
        have h := text_any (HG.out.below hb5) E5 c5 acc (by omega) hE5 hv5
        rw [ht5] at h
        exact h)
      have hq := seq_true (rfl : s = s)
      clear hb5 hE5 ht5 hv5
      go_wp2_with fail
      refine HT5.out.mono ?_
      rintro e W6 ⟨rfl, hb6⟩
      have HB6 := Lib.hid (bl_step HB5.out HB5.out.size hb6)
      clear hb6
      go_wp2
      go_ret
      exact ⟨by first | rfl | simp, HB6.out⟩
  · have he0 : ex = 210 := by rw [HEX.out, text_no hf]; rfl
    subst he0
    clear hf
    go_wp2_with fail
    refine (HTAIL.out _ HB2.out).mono ?_
    rintro e W5 (⟨nn, rfl, hb5⟩ | ⟨E5, c5, acc, rfl, hE5, ht5, hv5, hl5, hb5⟩)
    · have HB5 := Lib.hid hb5
      clear hb5
      go_wp2
      go_ret
      exact ⟨rfl, HB5.out⟩
    · have HB5 := Lib.hid hb5
      have HT5 := Lib.hid (show Calls Tryd.prog 18 #[.slice E5 acc.length c5] W5 fun e w' => e = .returned (.tuple #[.string s, .int .i64 0]) ∧ Below W5.heap.size W5 w' from by
        have h := text_any (HG.out.below hb5) E5 c5 acc (by omega) hE5 hv5
        rw [ht5] at h
        exact h)
      have hq := seq_true (rfl : s = s)
      clear hb5 hE5 ht5 hv5
      go_wp2_with fail
      refine HT5.out.mono ?_
      rintro e W6 ⟨rfl, hb6⟩
      have HB6 := Lib.hid (bl_step HB5.out HB5.out.size hb6)
      clear hb6
      go_wp2
      go_ret
      exact ⟨by first | rfl | simp, HB6.out⟩
end Go.Proofs.YtpcaeggecojaeaaDoor

/-
  The law ScriptBack, walked. Condition: the tables lie as the program's text, and the library's, lay them.
-/
import Derived.Test.YtgefnicpkfcghaaDoorScS
namespace Go.Proofs.YtgefnicpkfcghaaDoor
open Go.RowKit
set_option linter.unusedVariables false
set_option linter.unusedSimpArgs false

theorem parse_any {w : World} (hG : Ground w) (s : ByteArray) (hs : s.size ≤ 1000000) : Calls Tryd.prog 19 #[.string s] w (ParseOut w (toL s)) := callsIn_wide.1 (parse_in 6 (by omega) hG s hs)

theorem text_yes {xs : List O} (h : Fine xs) : textL xs = some (linesL xs) := if_pos h
theorem text_no {xs : List O} (h : ¬ Fine xs) : textL xs = none := if_neg h

set_option maxRecDepth 100000 in
set_option maxHeartbeats 16000000 in
theorem backLaw_any {w : World} (hG : Ground w) (A : Option Addr) (ca : Nat) (xs : List O) (s : ByteArray) (hx : OpsAt w A xs) (hxl : xs.length ≤ maxLen) (hv : Vals xs) (hsl : s.size ≤ maxLen) :
    Calls Tryd.prog 4 #[.slice A xs.length ca, .string s] w fun e w' => e = .returned (.bool true) ∧ Below w.heap.size w w' := by
  unfold maxLen at hxl hsl
  have HAL := Lib.hid (alive_any hG)
  by_cases hbig : 200 < xs.length ∨ 6000 < s.size
  · clear hx hv hG
    have hc : (200 : Int) < (xs.length : Int) ∨ (¬ (200 : Int) < (xs.length : Int) ∧ (6000 : Int) < (s.size : Int)) := by omega
    clear hbig
    rcases hc with h1 | ⟨h1, h2⟩
    all_goals
      go_enter Tryd.func4, Tryd.ntmps4
      go_wp2_with fail
      refine HAL.out.mono ?_
      rintro e w1 ⟨rfl, hb1⟩
      have HB1 := Lib.hid hb1
      clear hb1
      go_wp2
      go_ret
      exact ⟨rfl, HB1.out⟩
  have h1 : ¬ (200 : Int) < (xs.length : Int) := by omega
  have h2 : ¬ (6000 : Int) < (s.size : Int) := by omega
  have hs6 : s.size ≤ 6000 := by omega
  have hx2 : xs.length ≤ 200 := by omega
  clear hbig
  have HX := Lib.hid hx
  have HG := Lib.hid hG
  have HV := Lib.hid hv
  clear hx hG hv
  go_enter Tryd.func4, Tryd.ntmps4
  go_wp2_with fail
  refine HAL.out.mono ?_
  rintro e W1 ⟨rfl, hb1⟩
  have HB1 := Lib.hid hb1
  clear hb1 HAL
  go_wp2_with fail
  go_loopw [37] (fun i wr => ∃ k : Nat, i = .int .i64 (k : Int) ∧ k ≤ xs.length ∧ Below w.heap.size w wr) (fun i _ => xs.length - (intOf i).toNat)
  case atStart => exact ⟨0, rfl, Nat.zero_le _, HB1.out⟩
  case round =>
    obtain ⟨k, rfl, hk, hB⟩ := hrel
    by_cases hkl : k < xs.length
    case pos =>
      have hka : (k : Int) < (xs.length : Int) := by omega
      have hxe : xs[k]? = some xs[k] := List.getElem?_eq_getElem hkl
      have hmem : xs[k] ∈ xs := List.getElem_mem hkl
      have hxv := HV.out _ hmem
      obtain ⟨b, off, rfl, hbl, c0, c1, c2, c3, c4, c5, c6⟩ := op_at (HX.out.below hB) hxe
      generalize xs[k] = x at *
      obtain ⟨k_, co, nn, p, sg, mk, nm⟩ := x
      simp only at c0 c1 c2 c3 c4 c5 c6
      by_cases hm : MayO ⟨k_, co, nn, p, sg, mk, nm⟩
      · obtain ⟨sl, hsl_⟩ : ∃ sl : ByteArray, sl = ⟨(lineO ⟨k_, co, nn, p, sg, mk, nm⟩).toArray⟩ := ⟨_, rfl⟩
        have HL := Lib.hid (show Calls Tryd.prog 10 #[.agg #[.int .i64 k_, .int .i64 co, .int .i64 nn, .int .i64 p, .int .i64 sg, .int .u32 mk, .string nm]] wr fun e w' => e = .returned (.tuple #[.string sl, .int .i64 0]) ∧ Below wr.heap.size wr w' from by
          rw [hsl_]
          exact line_yes (HG.out.below hB) _ hxv hm)
        have HRD := Lib.hid (fun W (hW : Below w.heap.size w W) => show Calls Tryd.prog 12 #[.string sl] W fun e w' => e = .returned (.tuple #[.agg #[.int .i64 k_, .int .i64 co, .int .i64 nn, .int .i64 p, .int .i64 sg, .int .u32 mk, .string nm], .int .i64 0]) ∧ Below W.heap.size W w' from by
          have hsz : sl.size ≤ 1000000 := by
            have := lineO_len hm hxv
            rw [hsl_]
            show (lineO _).toArray.size ≤ _
            rw [List.size_toArray]
            omega
          have h := read_any (HG.out.below hW) sl hsz
          have e : sl.data.toList = lineO ⟨k_, co, nn, p, sg, mk, nm⟩ := by rw [hsl_]
          rw [e, read_lineO hm hxv] at h
          exact h)
        have HXE := Lib.hid hxe
        have HE := fun w => eqO ⟨k_, co, nn, p, sg, mk, nm⟩ ⟨k_, co, nn, p, sg, mk, nm⟩ w
        have hd : decide ((⟨k_, co, nn, p, sg, mk, nm⟩ : O) = ⟨k_, co, nn, p, sg, mk, nm⟩) = true := decide_eq_true rfl
        simp only [hd, O.cells] at HE
        clear hm hsl_ hxe hmem hxv hd
        go_wp2_with fail
        refine HL.out.mono ?_
        rintro e W2 ⟨rfl, hb2⟩
        have HB2 := Lib.hid (bl_step hB hB.size hb2)
        clear hb2 c0 c1 c2 c3 c4 c5 c6
        go_wp2_with fail
        refine (HRD.out _ HB2.out).mono ?_
        rintro e W3 ⟨rfl, hb3⟩
        have HB3 := Lib.hid (bl_step HB2.out HB2.out.size hb3)
        clear hb3
        have hx9 := Blk.new W3 24 #[.int .i64 k_, .int .i64 co, .int .i64 nn, .int .i64 p, .int .i64 sg, .int .u32 mk, .string nm]
        have hB4 := bl_new HB3.out (.cells #[.int .i64 k_, .int .i64 co, .int .i64 nn, .int .i64 p, .int .i64 sg, .int .u32 mk, .string nm] 24)
        obtain ⟨hbl4, c0, c1, c2, c3, c4, c5, c6⟩ := op_here (HX.out.below hB4) HXE.out
        simp only at c0 c1 c2 c3 c4 c5 c6
        obtain ⟨d0, d1, d2, d3, d4, d5, d6⟩ := ocells hx9
        have HB4 := Lib.hid hB4
        clear hx9 hB4
        go_wp2_with (go_quiet (fail))
        go_roundw
        case rel => exact ⟨k + 1, by go_num, by omega, by first | exact HB4.out | exact belowN HB4.out _⟩
        case measure => simp [intOf]; omega
      · have HL := Lib.hid (line_no (HG.out.below hB) k_ co nn p sg mk nm hxv hm)
        clear hm hxe hmem hxv
        go_wp2_with fail
        refine HL.out.mono ?_
        rintro e W2 ⟨rfl, hb2⟩
        have HB2 := Lib.hid (bl_step hB hB.size hb2)
        clear hb2
        go_wp2
        go_roundw
        case rel => exact ⟨k + 1, by go_num, by omega, HB2.out⟩
        case measure => simp [intOf]; omega
    have hkn : ¬ (k : Int) < (xs.length : Int) := by omega
    clear HB1
    have HB1 := Lib.hid hB
    clear hkl hB hk
    obtain ⟨sx, hsx⟩ : ∃ sx : ByteArray, sx = ⟨((textL xs).getD []).toArray⟩ := ⟨_, rfl⟩
    obtain ⟨ex, hex⟩ : ∃ ex, ex = errO (textL xs) := ⟨_, rfl⟩
    have HTX := Lib.hid (show Calls Tryd.prog 18 #[.slice A xs.length ca] wr fun e w' => e = .returned (.tuple #[.string sx, .int .i64 ex]) ∧ Below wr.heap.size wr w' from by
      rw [hsx, hex]
      exact text_any (HG.out.below HB1.out) A ca xs (by omega) (HX.out.below HB1.out) HV.out)
    have HSX := Lib.hid hsx
    have HEX := Lib.hid hex
    clear hsx hex
    go_wp2_with fail
    refine HTX.out.mono ?_
    rintro e W2 ⟨rfl, hb2⟩
    have HB2 := Lib.hid (bl_step HB1.out HB1.out.size hb2)
    clear hb2 HB1 HTX
    -- behind the first part
    have HTAIL := Lib.hid (show ∀ W3, Below w.heap.size w W3 → Calls Tryd.prog 19 #[.string s] W3 (fun e w' => (∃ n, e = .returned (.tuple #[.slice none 0 0, .int .i64 n, .int .i64 200]) ∧ Below w.heap.size w w') ∨
        (∃ E ce acc, e = .returned (.tuple #[.slice E acc.length ce, .int .i64 0, .int .i64 0]) ∧ OpsAt w' E acc ∧ textL acc = some (toL s) ∧ Vals acc ∧ acc.length ≤ 10000 ∧ Below w.heap.size w w')) from fun W3 hW3 =>
      (parse_any (HG.out.below hW3) s (by omega)).mono fun e w' h => by
        rcases h with ⟨v, acc, rfl, ho, hm, hl, hb⟩ | ⟨k, rfl, _, _, _, hb⟩
        · obtain ⟨E, ce, rfl, hE, _⟩ := ownO_at ho
          obtain ⟨t1, t2, t3⟩ := text_back hm hl
          exact .inr ⟨E, ce, acc, rfl, hE, t1, t2, t3, bl_step hW3 hW3.size hb⟩
        · exact .inl ⟨_, rfl, bl_step hW3 hW3.size hb⟩)
    by_cases hf : Fine xs
    · have hty : textL xs = some (linesL xs) := text_yes hf
      have he0 : ex = 0 := by rw [HEX.out, hty]; rfl
      have hsl : toL sx = linesL xs := by rw [HSX.out, hty]; rfl
      have hsz : sx.size ≤ 1000000 := by
        have e1 : sx.size = (toL sx).length := by unfold toL; rw [Array.length_toList]; rfl
        have e2 := lines_len xs hf.2 HV.out
        rw [hsl] at e1
        omega
      subst he0
      have HP1 := Lib.hid (show Calls Tryd.prog 19 #[.string sx] W2 (fun e w' => ∃ E ce, e = .returned (.tuple #[.slice E xs.length ce, .int .i64 0, .int .i64 0]) ∧ OpsAt w' E xs ∧ Below W2.heap.size W2 w') from
        (parse_any (HG.out.below HB2.out) sx hsz).mono fun e w' h => by
          rw [hsl] at h
          have hbt := back_text hf.2 HV.out
          have hll := lns_lines xs hf.2
          rcases h with ⟨v, acc, rfl, ho, hm, hl, hb⟩ | ⟨k, rfl, hk, _, ⟨x, hx, hbad⟩, hb⟩
          · obtain ⟨E, ce, rfl, hE, _⟩ := ownO_at ho
            have := some_inj (hm.symm.trans hbt)
            subst this
            exact ⟨E, ce, rfl, hE, hb⟩
          · exfalso
            have hkl := (List.getElem?_eq_some_iff.1 hx).1
            rw [hll, List.length_map] at hkl
            rcases hbad with h | h
            · have h3 : ((lns (linesL xs)).map lineS)[k]? = some none := by rw [List.getElem?_map, hx, ← h]; rfl
              rw [hbt, List.getElem?_map, List.getElem?_eq_getElem hkl] at h3
              cases h3
            · omega)
      clear hty hsl hf
      go_wp2_with fail
      refine HP1.out.mono ?_
      rintro e W3 ⟨E, ce, rfl, hE, hb3⟩
      have HB3 := Lib.hid (bl_step HB2.out HB2.out.size hb3)
      have HF := Lib.hid (show Calls Tryd.prog 20 #[.slice E xs.length ce, .slice A xs.length ca] W3 fun e w' => e = .returned (.bool true) ∧ Below W3.heap.size W3 w' from by
        have h := same_any E A ce ca xs xs hE (HX.out.below HB3.out) (by omega) (by omega)
        rw [decide_eq_true rfl] at h
        exact h)
      clear hE hb3 HP1
      go_wp2_with fail
      refine HF.out.mono ?_
      rintro e W4 ⟨rfl, hb4⟩
      have HB4 := Lib.hid (bl_step HB3.out HB3.out.size hb4)
      clear hb4 HF HB3 HB2
      go_wp2_with fail
      refine (HTAIL.out _ HB4.out).mono ?_
      rintro e W5 (⟨nn, rfl, hb5⟩ | ⟨E5, c5, acc, rfl, hE5, ht5, hv5, hl5, hb5⟩)
      · have HB5 := Lib.hid hb5
        clear hb5
        go_wp2
        go_ret
        exact ⟨rfl, HB5.out⟩
      · have HB5 := Lib.hid hb5
        have HT5 := Lib.hid (show Calls Tryd.prog 18 #[.slice E5 acc.length c5] W5 fun e w' => e = .returned (.tuple #[.string s, .int .i64 0]) ∧ Below W5.heap.size W5 w' from by
          have h := text_any (HG.out.below hb5) E5 c5 acc (by omega) hE5 hv5
          rw [ht5] at h
          exact h)
        have hq := seq_true (rfl : s = s)
        clear hb5 hE5 ht5 hv5
        go_wp2_with fail
        refine HT5.out.mono ?_
        rintro e W6 ⟨rfl, hb6⟩
        have HB6 := Lib.hid (bl_step HB5.out HB5.out.size hb6)
        clear hb6
        go_wp2
        go_ret
        exact ⟨by first | rfl | simp, HB6.out⟩
    · have he0 : ex = 200 := by rw [HEX.out, text_no hf]; rfl
      subst he0
      clear hf
      go_wp2_with fail
      refine (HTAIL.out _ HB2.out).mono ?_
      rintro e W5 (⟨nn, rfl, hb5⟩ | ⟨E5, c5, acc, rfl, hE5, ht5, hv5, hl5, hb5⟩)
      · have HB5 := Lib.hid hb5
        clear hb5
        go_wp2
        go_ret
        exact ⟨rfl, HB5.out⟩
      · have HB5 := Lib.hid hb5
        have HT5 := Lib.hid (show Calls Tryd.prog 18 #[.slice E5 acc.length c5] W5 fun e w' => e = .returned (.tuple #[.string s, .int .i64 0]) ∧ Below W5.heap.size W5 w' from by
          have h := text_any (HG.out.below hb5) E5 c5 acc (by omega) hE5 hv5
          rw [ht5] at h
          exact h)
        have hq := seq_true (rfl : s = s)
        clear hb5 hE5 ht5 hv5
        go_wp2_with fail
        refine HT5.out.mono ?_
        rintro e W6 ⟨rfl, hb6⟩
        have HB6 := Lib.hid (bl_step HB5.out HB5.out.size hb6)
        clear hb6
        go_wp2
        go_ret
        exact ⟨by first | rfl | simp, HB6.out⟩

end Go.Proofs.YtgefnicpkfcghaaDoor

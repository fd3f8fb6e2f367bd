/-
  The document's boot of a text. No condition but the text's length.
-/
import Derived.Test.YtpikgebfeleajaaGreatDoorRbN
import Derived.Test.YtpikgebfeleajaaGreatDoorBoX
import Derived.Test.YtpikgebfeleajaaGreatDoorRi2
import Derived.Test.YtpikgebfeleajaaGreatDoorRiD
namespace Go.Proofs.YtpikgebfeleajaaGreatDoor
open Go.RowKit
set_option linter.unusedVariables false
set_option linter.unusedSimpArgs false
attribute [local go_sem] Oper.semAt_some

theorem hd_seg {l : List UInt8} {n : Nat} (h : ∀ c ∈ l.take n, c ≠ 10) (hc : l[n]? = some 10) : hdL l = l.take n ∧ tlL l = l.drop (n + 1) ∧ okL l = true := by
  obtain ⟨hn, hx⟩ := List.getElem?_eq_some_iff.1 hc
  have e : l = l.take n ++ 10 :: l.drop (n + 1) := by
    rw [← hx, List.getElem_cons_drop, List.take_append_drop]
  have h1 := cut_line (a := l.take n) (l.drop (n + 1)) h
  rw [← e] at h1
  exact h1
theorem ok_none {l : List UInt8} (h : ∀ c ∈ l, c ≠ 10) : okL l = false := by
  cases h1 : okL l with
  | false => rfl
  | true =>
    have h2 := cut_back h1
    exact absurd rfl (h 10 (by rw [h2]; simp))
/-- No line ends from a on, up to b. -/
def NoE (sl : List UInt8) (a b : Nat) : Prop := ∀ j, a ≤ j → j < b → sl[j]? ≠ some 10
theorem noE_take {sl : List UInt8} {a b : Nat} (h : NoE sl a b) : ∀ c ∈ (sl.drop a).take (b - a), c ≠ 10 := by
  rintro c hc rfl
  obtain ⟨j, hj⟩ := List.mem_iff_getElem?.1 hc
  rw [List.getElem?_take] at hj
  split at hj
  · rw [List.getElem?_drop] at hj
    exact h (a + j) (by omega) (by omega) hj
  · cases hj
theorem noE_drop {sl : List UInt8} {a : Nat} (h : NoE sl a sl.length) : ∀ c ∈ sl.drop a, c ≠ 10 := by
  have h1 := noE_take h
  rwa [List.take_of_length_le (by rw [List.length_drop]; omega)] at h1
theorem numR_zero {k : Nat} {s : List UInt8} : (numR k s = 0 ∧ ¬ NumOk k s) ∨ (numR k s ≠ 0 ∧ NumOk k s ∧ numR k s = numV k s ∧ 1 ≤ numR k s ∧ numR k s ≤ 256) := by
  unfold numR
  by_cases h : NumOk k s
  · rw [if_pos h]
    have h1 := h.2.2.2
    have h2 := (mB_le k).2
    exact .inr ⟨by omega, h, rfl, by omega, by omega⟩
  · rw [if_neg h]
    exact .inl ⟨rfl, h⟩
def xV (a b c d : Int) (k : Nat) : Array Value := #[.int .i64 (if 0 < k then a else 0), .int .i64 (if 1 < k then b else 0), .int .i64 (if 2 < k then c else 0), .int .i64 (if 3 < k then d else 0), .slice none 0 0]
theorem xV_at (a b c d : Int) {k : Nat} (hk : k < 4) : (xV a b c d k)[k]? = some (.int .i64 0) := by
  rcases lt4 hk with rfl | rfl | rfl | rfl <;> rfl
theorem xV_set (a b c d : Int) {k : Nat} (hk : k < 4) : (xV a b c d k).setIfInBounds k (.int .i64 ([a, b, c, d].getD k 0)) = xV a b c d (k + 1) := by
  rcases lt4 hk with rfl | rfl | rfl | rfl <;> rfl
theorem xV_no (a b c d : Int) (k : Nat) (i : Nat) (x : Int) : (xV a b c d k)[i]? ≠ some (Value.int .u32 x) := by
  unfold xV
  rcases Nat.lt_or_ge i 5 with h | h
  · rcases (show i = 0 ∨ i = 1 ∨ i = 2 ∨ i = 3 ∨ i = 4 by omega) with rfl | rfl | rfl | rfl | rfl <;> simp
  · rw [Array.getElem?_eq_none (by simpa using h)]
    simp
structure PR (w : World) (a b c d : Int) (k : Nat) (W : World) : Prop where
  r : Blk W w.heap.size 24 #[.int .i64 0, .int .i64 0, .int .i64 0, .int .i64 0, .slice none 0 0]
  l : Blk W (w.heap.size + 1) 24 (xV a b c d k)
  b : Below w.heap.size w W
theorem PR.below {w W W' : World} {a b c d : Int} {k : Nat} (h : PR w a b c d k W) (hb : Below W.heap.size W W') : PR w a b c d k W' := ⟨h.r.below hb h.r.lt, h.l.below hb h.l.lt, bl_step h.b hb⟩
theorem PR.put {w W : World} {a b c d : Int} {k : Nat} (h : PR w a b c d k W) (hk : k < 4) {v : Int} (hv : v = [a, b, c, d].getD k 0) : PR w a b c d (k + 1) (W.setCell ⟨w.heap.size + 1, k, none⟩ (.int .i64 v)) :=
  ⟨h.r.far (by dsimp only; omega) _, by rw [← xV_set _ _ _ _ hk, ← hv]; exact h.l.set_ k _, h.b.setCell (by dsimp only; omega) _⟩
theorem refAsmB {w : World} (s : ByteArray) (hs : s.size ≤ 1000000) : Calls Tryz.prog 30 #[.string s] w fun e w' => ∃ A c, e = .returned (.tuple #[.slice A (I.asmP s.data.toList).1.length c, .int .i64 (I.asmP s.data.toList).2.1, .int .i64 (I.asmP s.data.toList).2.2]) ∧ I.WordsAt w' A (I.asmP s.data.toList).1 ∧ (I.asmP s.data.toList).1.length ≤ c ∧ Below w.heap.size w w' := by
  refine (I.refAsm_any I.mayC s hs).mono fun e w' h => ?_
  obtain ⟨v, h1, h2, h3⟩ := h
  rw [I.asm_same] at h1 h2
  obtain ⟨A, c, rfl, h4, h5⟩ := I.words_own h2
  exact ⟨A, c, h1, h4, h5, h3⟩
/-- One line more: what is between a and k, and its number. -/
theorem ln_facts {sl : List UInt8} {a k n : Nat} (hb : behL n sl = sl.drop a) (hN : NoE sl a k) (hak : a ≤ k) (hc : sl[k]? = some 10) : hdL (behL n sl) = (sl.take k).drop a ∧ behL (n + 1) sl = sl.drop (k + 1) ∧ okL (behL n sl) = true := by
  have h1 := hd_seg (l := sl.drop a) (n := k - a) (noE_take hN) (by rw [List.getElem?_drop, show a + (k - a) = k by omega]; exact hc)
  rw [hb]
  refine ⟨by rw [h1.1, List.drop_take], ?_, h1.2.2⟩
  show tlL (behL n sl) = _
  rw [hb, h1.2.1, List.drop_drop]
  congr 1
  omega

set_option maxRecDepth 100000 in
set_option maxHeartbeats 16000000 in
theorem refParse_any {w : World} (s : ByteArray) (hs : s.size ≤ 1000000) : Calls Tryz.prog 9 #[.string s] w (RetB (parseB s.data.toList) w) := by
  obtain ⟨post, hpost⟩ : ∃ post : Ending → World → Prop, RetB (parseB s.data.toList) w = post := ⟨_, rfl⟩
  rw [hpost]
  have HPOST := Lib.hid hpost
  clear hpost
  have hsl : s.data.toList.length = s.size := Array.length_toList
  obtain ⟨sl, hsd⟩ : ∃ sl, s.data.toList = sl := ⟨_, rfl⟩
  rw [hsd] at HPOST hsl
  have HAT := Lib.hid (fun (k : Nat) (hk : k < s.size) => show sl[k]? = some s[k] from by
    have h0 : s.data.toList.length = s.size := Array.length_toList
    rw [← hsd, List.getElem?_eq_getElem (by omega), Array.getElem_toList]; rfl)
  have HEX := Lib.hid (fun (a k : Nat) => show (s.extract a k).data.toList = (sl.take k).drop a from by rw [I.ext_seg, hsd])
  have HEE := Lib.hid (fun (a : Nat) => show (s.extract a s.size).data.toList = sl.drop a from by
    rw [I.ext_seg, hsd, ← hsl, List.take_length])
  have HEZ := Lib.hid (fun (a k : Nat) => show (s.extract a k).size ≤ 1000000 from by rw [ByteArray.size_extract]; omega)
  have HNUM := Lib.hid (fun (k : Nat) (hk : k < 4) (t : ByteArray) (ht : t.size ≤ 1000000) W => show Calls Tryz.prog 29 #[.string t, .string (wS k), .int .i64 (mB' k)] W fun e w' => e = .returned (.int .i64 (numR k t.data.toList)) ∧ Below W.heap.size W w' from refNumber_any (w := W) hk t ht)
  have HASM := Lib.hid (fun (t : ByteArray) (ht : t.size ≤ 1000000) W => refAsmB (w := W) t ht)
  have HAL := Lib.hid (fun (t : ByteArray) (ht : t.size ≤ 1000000) => show 0 ≤ (I.asmP t.data.toList).2.1 ∧ (I.asmP t.data.toList).2.1 ≤ 1000000 from by
    have h := asm_line t.data.toList
    have e : t.data.toList.length = t.size := Array.length_toList
    omega)
  have hb0 : Below w.heap.size w ((w.alloc (.cells #[.int .i64 0, .int .i64 0, .int .i64 0, .int .i64 0, .slice none 0 0] 24)).alloc (.cells #[.int .i64 0, .int .i64 0, .int .i64 0, .int .i64 0, .slice none 0 0] 24)) := ((Below.refl w.heap.size w).alloc (Nat.le_refl _) _).alloc (by simp) _
  have hl0 := Blk.new (w.alloc (.cells #[.int .i64 0, .int .i64 0, .int .i64 0, .int .i64 0, .slice none 0 0] 24)) 24 #[.int .i64 0, .int .i64 0, .int .i64 0, .int .i64 0, .slice none 0 0]
  rw [World.size_alloc] at hl0
  have HP0 : Hid (PR w (valB 0 sl) (valB 1 sl) (valB 2 sl) (valB 3 sl) 0 ((w.alloc (.cells #[.int .i64 0, .int .i64 0, .int .i64 0, .int .i64 0, .slice none 0 0] 24)).alloc (.cells #[.int .i64 0, .int .i64 0, .int .i64 0, .int .i64 0, .slice none 0 0] 24))) := ⟨(Blk.new _ _ _).alloc _, hl0, hb0⟩
  have HSL := Lib.hid hsl
  clear hb0 hl0 hsd hsl
  go_enter Tryz.func9, Tryz.ntmps9
  go_wp2_with fail
  go_loopw [6, 7, 8] (fun u v i wr => ∃ (n a k : Nat), u = .int .i64 (n : Int) ∧ v = .int .i64 (a : Int) ∧ i = .int .i64 (k : Int) ∧ n ≤ 4 ∧ a ≤ k ∧ k ≤ s.size ∧ Hid (∀ j, j < n → StepOk j (behL j sl)) ∧ Hid (behL n sl = sl.drop a) ∧ Hid (NoE sl a k) ∧ Hid (PR w (valB 0 sl) (valB 1 sl) (valB 2 sl) (valB 3 sl) n wr)) (fun _ _ i _ => s.size - (intOf i).toNat)
  case atStart => exact ⟨0, 0, 0, rfl, rfl, rfl, by omega, by omega, by omega, fun j hj => absurd hj (Nat.not_lt_zero j), rfl, fun j h1 h2 => absurd h2 (Nat.not_lt_zero j), HP0⟩
  case round =>
    obtain ⟨n, a, k, rfl, rfl, rfl, hn, hak, hk, HOK, HBE, HNO, HP⟩ := hrel
    clear HP0
    by_cases hn4 : n < 4
    · have hnb : (n : Int) < 4 := by omega
      by_cases hks : k < s.size
      · have hka : (k : Int) < (s.size : Int) := by omega
        have hk0 : (0 : Int) ≤ (k : Int) := by omega
        have HC := Lib.hid (HAT.out k hks)
        by_cases hc : s[k] = 10
        · have hb : ((s[k].toNat : Int) != 10) = false := by rw [hc]; rfl
          have hLF := ln_facts HBE.out HNO.out hak (by rw [HC.out, hc])
          rw [← HEX.out a k] at hLF
          have HLF := Lib.hid hLF
          have HTZ := Lib.hid (HEZ.out a k)
          have ha0 : (0 : Int) ≤ (a : Int) := by omega
          have hak2 : (a : Int) ≤ (k : Int) := by omega
          have hks2 : (k : Int) ≤ (s.size : Int) := by omega
          clear hLF
          rcases lt4 hn4 with rfl | rfl | rfl | rfl
          · have HN := Lib.hid (show ∀ W, Calls Tryz.prog 29 #[.string (s.extract a k), .string ⟨#[99, 111, 114, 101, 115]⟩, .int .i64 8] W fun e w' => e = .returned (.int .i64 (numR 0 (s.extract a k).data.toList)) ∧ Below W.heap.size W w' from HNUM.out 0 (by omega) (s.extract a k) HTZ.out)
            obtain ⟨v, hv⟩ : ∃ v, numR 0 (s.extract a k).data.toList = v := ⟨_, rfl⟩
            have hz := numR_zero (k := 0) (s := (s.extract a k).data.toList)
            rw [hv] at HN hz
            have HZ := Lib.hid hz
            clear hz hv HNUM HASM HAL HEX HEE HEZ HAT HTZ
            have llt := HP.out.l.lt
            go_wp2_with fail
            refine (HN.out _).mono ?_
            rintro e W1 ⟨rfl, hb1⟩
            have HP1 := Lib.hid (HP.out.below hb1)
            clear hb1 HP HN llt
            have lf := HP1.out.l.frozen 0
            have llt := HP1.out.l.lt
            have l0 := (HP1.out.l.cell 0).trans (xV_at (valB 0 sl) (valB 1 sl) (valB 2 sl) (valB 3 sl) (k := 0) (by omega))
            go_upto_region 23 with (fail)
            rcases HZ.out with ⟨rfl, hno⟩ | ⟨hv0, hok, hvv, hv1, hv2⟩
            · have HBAD := Lib.hid (parse_bad (bad_at hn4 HOK.out (fun h => hno (HLF.out.1 ▸ h.2))))
              have hR := HP1.out.r.far (p := ⟨w.heap.size + 1, 0, none⟩) (by dsimp only; omega) (.int .i64 0)
              have hB := HP1.out.b.setCell (p := ⟨w.heap.size + 1, 0, none⟩) (by dsimp only; omega) (.int .i64 0)
              have HR := Lib.hid hR
              have HB := Lib.hid hB
              clear hno lf llt l0 hR hB HP1
              generalize W1.setCell ⟨w.heap.size + 1, 0, none⟩ (.int .i64 0) = W2 at *
              have f0 := HR.out.frozen 0
              have f1 := HR.out.frozen 1
              have f2 := HR.out.frozen 2
              have f3 := HR.out.frozen 3
              have f4 := HR.out.frozen 4
              obtain ⟨r0, r1, r2, r3, r4, rlt⟩ := rcells' HR.out
              go_wp2
              rw [← HPOST.out, HBAD.out]
              exact bodyPost_ret (I.results_row_tmp2 Tryz.results9 _ rfl (set5_blk HR.out _ _ _ _ _) Tryz.underlying24 rfl (by kernel_rfl)) rfl ⟨none, 0, rfl, words_nil _ _, Nat.le_refl _, set5_below HB.out (Nat.le_refl _) _ _ _ _ _⟩
            · have hst : StepOk 0 (behL 0 sl) := ⟨HLF.out.2.2, HLF.out.1 ▸ hok⟩
              have HST := Lib.hid hst
              have hval : v = [valB 0 sl, valB 1 sl, valB 2 sl, valB 3 sl].getD 0 0 := by
                show v = valB 0 sl
                unfold valB
                rw [hvv, HLF.out.1]
              have HP2 := Lib.hid (HP1.out.put (by omega) hval)
              clear hst hok hvv hval lf llt l0 HP1
              generalize W1.setCell ⟨w.heap.size + 1, 0, none⟩ (.int .i64 v) = W2 at *
              go_wp2
              go_roundw
              case rel => exact ⟨1, k + 1, k + 1, by go_num, by go_num, by go_num, by omega, by omega, by omega, fun j hj => by
                  rcases Nat.lt_or_ge j 0 with h | h
                  · exact HOK.out j h
                  · have : j = 0 := by omega
                    subst this
                    exact HST.out,
                HLF.out.2.1, fun j h1 h2 => absurd h2 (by omega), HP2⟩
              case measure => simp [intOf]; omega
          · have HN := Lib.hid (show ∀ W, Calls Tryz.prog 29 #[.string (s.extract a k), .string ⟨#[102, 114, 97, 109, 101, 115]⟩, .int .i64 256] W fun e w' => e = .returned (.int .i64 (numR 1 (s.extract a k).data.toList)) ∧ Below W.heap.size W w' from HNUM.out 1 (by omega) (s.extract a k) HTZ.out)
            obtain ⟨v, hv⟩ : ∃ v, numR 1 (s.extract a k).data.toList = v := ⟨_, rfl⟩
            have hz := numR_zero (k := 1) (s := (s.extract a k).data.toList)
            rw [hv] at HN hz
            have HZ := Lib.hid hz
            clear hz hv HNUM HASM HAL HEX HEE HEZ HAT HTZ
            have llt := HP.out.l.lt
            go_wp2_with fail
            refine (HN.out _).mono ?_
            rintro e W1 ⟨rfl, hb1⟩
            have HP1 := Lib.hid (HP.out.below hb1)
            clear hb1 HP HN llt
            have lf := HP1.out.l.frozen 1
            have llt := HP1.out.l.lt
            have l0 := (HP1.out.l.cell 1).trans (xV_at (valB 0 sl) (valB 1 sl) (valB 2 sl) (valB 3 sl) (k := 1) (by omega))
            go_upto_region 23 with (fail)
            rcases HZ.out with ⟨rfl, hno⟩ | ⟨hv0, hok, hvv, hv1, hv2⟩
            · have HBAD := Lib.hid (parse_bad (bad_at hn4 HOK.out (fun h => hno (HLF.out.1 ▸ h.2))))
              have hR := HP1.out.r.far (p := ⟨w.heap.size + 1, 1, none⟩) (by dsimp only; omega) (.int .i64 0)
              have hB := HP1.out.b.setCell (p := ⟨w.heap.size + 1, 1, none⟩) (by dsimp only; omega) (.int .i64 0)
              have HR := Lib.hid hR
              have HB := Lib.hid hB
              clear hno lf llt l0 hR hB HP1
              generalize W1.setCell ⟨w.heap.size + 1, 1, none⟩ (.int .i64 0) = W2 at *
              have f0 := HR.out.frozen 0
              have f1 := HR.out.frozen 1
              have f2 := HR.out.frozen 2
              have f3 := HR.out.frozen 3
              have f4 := HR.out.frozen 4
              obtain ⟨r0, r1, r2, r3, r4, rlt⟩ := rcells' HR.out
              go_wp2
              rw [← HPOST.out, HBAD.out]
              exact bodyPost_ret (I.results_row_tmp2 Tryz.results9 _ rfl (set5_blk HR.out _ _ _ _ _) Tryz.underlying24 rfl (by kernel_rfl)) rfl ⟨none, 0, rfl, words_nil _ _, Nat.le_refl _, set5_below HB.out (Nat.le_refl _) _ _ _ _ _⟩
            · have hst : StepOk 1 (behL 1 sl) := ⟨HLF.out.2.2, HLF.out.1 ▸ hok⟩
              have HST := Lib.hid hst
              have hval : v = [valB 0 sl, valB 1 sl, valB 2 sl, valB 3 sl].getD 1 0 := by
                show v = valB 1 sl
                unfold valB
                rw [hvv, HLF.out.1]
              have HP2 := Lib.hid (HP1.out.put (by omega) hval)
              clear hst hok hvv hval lf llt l0 HP1
              generalize W1.setCell ⟨w.heap.size + 1, 1, none⟩ (.int .i64 v) = W2 at *
              go_wp2
              go_roundw
              case rel => exact ⟨2, k + 1, k + 1, by go_num, by go_num, by go_num, by omega, by omega, by omega, fun j hj => by
                  rcases Nat.lt_or_ge j 1 with h | h
                  · exact HOK.out j h
                  · have : j = 1 := by omega
                    subst this
                    exact HST.out,
                HLF.out.2.1, fun j h1 h2 => absurd h2 (by omega), HP2⟩
              case measure => simp [intOf]; omega
          · have HN := Lib.hid (show ∀ W, Calls Tryz.prog 29 #[.string (s.extract a k), .string ⟨#[112, 114, 111, 99, 115]⟩, .int .i64 32] W fun e w' => e = .returned (.int .i64 (numR 2 (s.extract a k).data.toList)) ∧ Below W.heap.size W w' from HNUM.out 2 (by omega) (s.extract a k) HTZ.out)
            obtain ⟨v, hv⟩ : ∃ v, numR 2 (s.extract a k).data.toList = v := ⟨_, rfl⟩
            have hz := numR_zero (k := 2) (s := (s.extract a k).data.toList)
            rw [hv] at HN hz
            have HZ := Lib.hid hz
            clear hz hv HNUM HASM HAL HEX HEE HEZ HAT HTZ
            have llt := HP.out.l.lt
            go_wp2_with fail
            refine (HN.out _).mono ?_
            rintro e W1 ⟨rfl, hb1⟩
            have HP1 := Lib.hid (HP.out.below hb1)
            clear hb1 HP HN llt
            have lf := HP1.out.l.frozen 2
            have llt := HP1.out.l.lt
            have l0 := (HP1.out.l.cell 2).trans (xV_at (valB 0 sl) (valB 1 sl) (valB 2 sl) (valB 3 sl) (k := 2) (by omega))
            go_upto_region 23 with (fail)
            rcases HZ.out with ⟨rfl, hno⟩ | ⟨hv0, hok, hvv, hv1, hv2⟩
            · have HBAD := Lib.hid (parse_bad (bad_at hn4 HOK.out (fun h => hno (HLF.out.1 ▸ h.2))))
              have hR := HP1.out.r.far (p := ⟨w.heap.size + 1, 2, none⟩) (by dsimp only; omega) (.int .i64 0)
              have hB := HP1.out.b.setCell (p := ⟨w.heap.size + 1, 2, none⟩) (by dsimp only; omega) (.int .i64 0)
              have HR := Lib.hid hR
              have HB := Lib.hid hB
              clear hno lf llt l0 hR hB HP1
              generalize W1.setCell ⟨w.heap.size + 1, 2, none⟩ (.int .i64 0) = W2 at *
              have f0 := HR.out.frozen 0
              have f1 := HR.out.frozen 1
              have f2 := HR.out.frozen 2
              have f3 := HR.out.frozen 3
              have f4 := HR.out.frozen 4
              obtain ⟨r0, r1, r2, r3, r4, rlt⟩ := rcells' HR.out
              go_wp2
              rw [← HPOST.out, HBAD.out]
              exact bodyPost_ret (I.results_row_tmp2 Tryz.results9 _ rfl (set5_blk HR.out _ _ _ _ _) Tryz.underlying24 rfl (by kernel_rfl)) rfl ⟨none, 0, rfl, words_nil _ _, Nat.le_refl _, set5_below HB.out (Nat.le_refl _) _ _ _ _ _⟩
            · have hst : StepOk 2 (behL 2 sl) := ⟨HLF.out.2.2, HLF.out.1 ▸ hok⟩
              have HST := Lib.hid hst
              have hval : v = [valB 0 sl, valB 1 sl, valB 2 sl, valB 3 sl].getD 2 0 := by
                show v = valB 2 sl
                unfold valB
                rw [hvv, HLF.out.1]
              have HP2 := Lib.hid (HP1.out.put (by omega) hval)
              clear hst hok hvv hval lf llt l0 HP1
              generalize W1.setCell ⟨w.heap.size + 1, 2, none⟩ (.int .i64 v) = W2 at *
              go_wp2
              go_roundw
              case rel => exact ⟨3, k + 1, k + 1, by go_num, by go_num, by go_num, by omega, by omega, by omega, fun j hj => by
                  rcases Nat.lt_or_ge j 2 with h | h
                  · exact HOK.out j h
                  · have : j = 2 := by omega
                    subst this
                    exact HST.out,
                HLF.out.2.1, fun j h1 h2 => absurd h2 (by omega), HP2⟩
              case measure => simp [intOf]; omega
          · have HN := Lib.hid (show ∀ W, Calls Tryz.prog 29 #[.string (s.extract a k), .string ⟨#[112, 105, 112, 101]⟩, .int .i64 64] W fun e w' => e = .returned (.int .i64 (numR 3 (s.extract a k).data.toList)) ∧ Below W.heap.size W w' from HNUM.out 3 (by omega) (s.extract a k) HTZ.out)
            obtain ⟨v, hv⟩ : ∃ v, numR 3 (s.extract a k).data.toList = v := ⟨_, rfl⟩
            have hz := numR_zero (k := 3) (s := (s.extract a k).data.toList)
            rw [hv] at HN hz
            have HZ := Lib.hid hz
            clear hz hv HNUM HASM HAL HEX HEE HEZ HAT HTZ
            have llt := HP.out.l.lt
            go_wp2_with fail
            refine (HN.out _).mono ?_
            rintro e W1 ⟨rfl, hb1⟩
            have HP1 := Lib.hid (HP.out.below hb1)
            clear hb1 HP HN llt
            have lf := HP1.out.l.frozen 3
            have llt := HP1.out.l.lt
            have l0 := (HP1.out.l.cell 3).trans (xV_at (valB 0 sl) (valB 1 sl) (valB 2 sl) (valB 3 sl) (k := 3) (by omega))
            go_upto_region 23 with (fail)
            rcases HZ.out with ⟨rfl, hno⟩ | ⟨hv0, hok, hvv, hv1, hv2⟩
            · have HBAD := Lib.hid (parse_bad (bad_at hn4 HOK.out (fun h => hno (HLF.out.1 ▸ h.2))))
              have hR := HP1.out.r.far (p := ⟨w.heap.size + 1, 3, none⟩) (by dsimp only; omega) (.int .i64 0)
              have hB := HP1.out.b.setCell (p := ⟨w.heap.size + 1, 3, none⟩) (by dsimp only; omega) (.int .i64 0)
              have HR := Lib.hid hR
              have HB := Lib.hid hB
              clear hno lf llt l0 hR hB HP1
              generalize W1.setCell ⟨w.heap.size + 1, 3, none⟩ (.int .i64 0) = W2 at *
              have f0 := HR.out.frozen 0
              have f1 := HR.out.frozen 1
              have f2 := HR.out.frozen 2
              have f3 := HR.out.frozen 3
              have f4 := HR.out.frozen 4
              obtain ⟨r0, r1, r2, r3, r4, rlt⟩ := rcells' HR.out
              go_wp2
              rw [← HPOST.out, HBAD.out]
              exact bodyPost_ret (I.results_row_tmp2 Tryz.results9 _ rfl (set5_blk HR.out _ _ _ _ _) Tryz.underlying24 rfl (by kernel_rfl)) rfl ⟨none, 0, rfl, words_nil _ _, Nat.le_refl _, set5_below HB.out (Nat.le_refl _) _ _ _ _ _⟩
            · have hst : StepOk 3 (behL 3 sl) := ⟨HLF.out.2.2, HLF.out.1 ▸ hok⟩
              have HST := Lib.hid hst
              have hval : v = [valB 0 sl, valB 1 sl, valB 2 sl, valB 3 sl].getD 3 0 := by
                show v = valB 3 sl
                unfold valB
                rw [hvv, HLF.out.1]
              have HP2 := Lib.hid (HP1.out.put (by omega) hval)
              clear hst hok hvv hval lf llt l0 HP1
              generalize W1.setCell ⟨w.heap.size + 1, 3, none⟩ (.int .i64 v) = W2 at *
              go_wp2
              go_roundw
              case rel => exact ⟨4, k + 1, k + 1, by go_num, by go_num, by go_num, by omega, by omega, by omega, fun j hj => by
                  rcases Nat.lt_or_ge j 3 with h | h
                  · exact HOK.out j h
                  · have : j = 3 := by omega
                    subst this
                    exact HST.out,
                HLF.out.2.1, fun j h1 h2 => absurd h2 (by omega), HP2⟩
              case measure => simp [intOf]; omega
        · have hb : ((s[k].toNat : Int) != 10) = true := by
            rw [bne_iff_ne]
            intro h
            exact hc (UInt8.toNat_inj.1 (by rw [show (10 : UInt8).toNat = 10 from rfl]; omega))
          have hno : NoE sl a (k + 1) := fun j h1 h2 => by
            rcases Nat.lt_or_ge j k with h | h
            · exact HNO.out j h1 h
            · have e : j = k := by omega
              subst e
              rw [HC.out]
              intro e
              exact hc (Option.some.inj e)
          have HN2 := Lib.hid hno
          clear hno HNUM HASM HAL HEX HEE HEZ HAT
          go_wp2
          go_roundw
          case rel => exact ⟨n, a, k + 1, rfl, rfl, by go_num, by omega, by omega, by omega, HOK, HBE, HN2, HP⟩
          case measure => simp [intOf]; omega
      · have hkk : k = s.size := by omega
        subst hkk
        have HBAD := Lib.hid (parse_bad (bad_at hn4 HOK.out (fun h => by
          have h1 := h.1
          rw [HBE.out, ok_none (noE_drop (by rw [HSL.out]; exact HNO.out))] at h1
          cases h1)))
        have hn1 : (n : Int) + 1 ≤ 9223372036854775807 := by omega
        have f0 := HP.out.r.frozen 0
        have f1 := HP.out.r.frozen 1
        have f2 := HP.out.r.frozen 2
        have f3 := HP.out.r.frozen 3
        have f4 := HP.out.r.frozen 4
        obtain ⟨r0, r1, r2, r3, r4, rlt⟩ := rcells' HP.out.r
        clear HNUM HASM HAL HEX HEE HEZ HAT
        go_wp2
        rw [← HPOST.out, HBAD.out]
        exact bodyPost_ret (I.results_row_tmp2 Tryz.results9 _ rfl (set5_blk HP.out.r _ _ _ _ _) Tryz.underlying24 rfl (by kernel_rfl)) rfl ⟨none, 0, rfl, words_nil _ _, Nat.le_refl _, set5_below HP.out.b (Nat.le_refl _) _ _ _ _ _⟩
    · have hn0 : n = 4 := by omega
      subst hn0
      have HGD := Lib.hid (parse_good (bad_not HOK.out))
      have HTZ := Lib.hid (HEZ.out a s.size)
      have hE := HEE.out a
      rw [← HBE.out] at hE
      have HA0 := Lib.hid (HASM.out (s.extract a s.size) HTZ.out)
      have hal := HAL.out (s.extract a s.size) HTZ.out
      rw [hE] at HA0 hal
      have ha0 : (0 : Int) ≤ (a : Int) := by omega
      have hak2 : (a : Int) ≤ (s.size : Int) := by omega
      obtain ⟨ws, hws⟩ : ∃ ws, (I.asmP (behL 4 sl)).1 = ws := ⟨_, rfl⟩
      obtain ⟨m, hm⟩ : ∃ m, (I.asmP (behL 4 sl)).2.1 = m := ⟨_, rfl⟩
      obtain ⟨er, her⟩ : ∃ er, (I.asmP (behL 4 sl)).2.2 = er := ⟨_, rfl⟩
      rw [hws, hm, her] at HA0 HGD
      rw [hm] at hal
      obtain ⟨hN0, hN1⟩ := hal
      clear hws hm her HNUM HASM HAL HEX HEE HEZ HAT hE
      have hcs : (k : Int) < (s.size : Int) ∨ ¬ (k : Int) < (s.size : Int) := by omega
      rcases hcs with hcs | hcs
      all_goals
        go_wp2_with fail
        refine (HA0.out _).mono ?_
        rintro e W1 ⟨A, cap, rfl, hA, hcap, hb1⟩
        have HP1 := Lib.hid (HP.out.below hb1)
        have HA1 := Lib.hid hA
        have HCAP := Lib.hid hcap
        clear hb1 HP hA hcap HA0
        have hR := HP1.out.r
        have f0 := hR.frozen 0
        have f1 := hR.frozen 1
        have f2 := hR.frozen 2
        have f3 := hR.frozen 3
        have f4 := hR.frozen 4
        obtain ⟨r0, r1, r2, r3, r4, rlt⟩ := rcells' hR
        by_cases he : er = 0
        · subst he
          by_cases hw : ws = []
          · subst hw
            have hgd := HGD.out
            rw [if_pos rfl, if_pos rfl] at hgd
            have HPB := Lib.hid hgd
            have hz : (([] : List Int).length : Int) = 0 := rfl
            clear hgd HGD
            go_wp2
            rw [← HPOST.out, HPB.out]
            exact bodyPost_ret (I.results_row_tmp2 Tryz.results9 _ rfl (set5_blk hR _ _ _ _ _) Tryz.underlying24 rfl (by kernel_rfl)) rfl ⟨none, 0, rfl, words_nil _ _, Nat.le_refl _, set5_below HP1.out.b (Nat.le_refl _) _ _ _ _ _⟩
          · have hgd := HGD.out
            rw [if_pos rfl, if_neg hw] at hgd
            have HPB := Lib.hid hgd
            have hz : ¬ (ws.length : Int) = 0 := by
              intro h
              exact hw (List.eq_nil_of_length_eq_zero (by omega))
            have hap1 := words_apart HA1.out hw hR zero_no
            have hap2 := words_apart HA1.out hw HP1.out.l (xV_no _ _ _ _ _)
            have HAP1 := Lib.hid hap1
            have hL0 : Blk W1 (w.heap.size + 1) 24 #[.int .i64 (valB 0 sl), .int .i64 (valB 1 sl), .int .i64 (valB 2 sl), .int .i64 (valB 3 sl), .slice none 0 0] := HP1.out.l
            obtain ⟨l0, l1, l2, l3, l4, llt⟩ := rcells' hL0
            have lf := hL0.frozen 4
            have hR2 := hR.far (p := ⟨w.heap.size + 1, 4, none⟩) (by dsimp only; omega) (.slice A ws.length cap)
            have hL2 : Blk (W1.setCell ⟨w.heap.size + 1, 4, none⟩ (.slice A ws.length cap)) (w.heap.size + 1) 24 #[.int .i64 (valB 0 sl), .int .i64 (valB 1 sl), .int .i64 (valB 2 sl), .int .i64 (valB 3 sl), .slice A ws.length cap] := by
              have h := hL0.set_ 4 (.slice A ws.length cap)
              simpa using h
            have hB2 := HP1.out.b.setCell (p := ⟨w.heap.size + 1, 4, none⟩) (by dsimp only; omega) (.slice A ws.length cap)
            have hA2 := rows_same' (W' := W1.setCell ⟨w.heap.size + 1, 4, none⟩ (.slice A ws.length cap)) HA1.out (fun b off e => Below.heap_setCell _ _ _ _ (hap2 b off e)) (by simp)
            have HR2 := Lib.hid hR2
            have HL2 := Lib.hid hL2
            have HB2 := Lib.hid hB2
            have HA2 := Lib.hid hA2
            clear hgd HGD hw hap1 hap2 hL0 hR2 hL2 hB2 hA2 hR HA1 HP1
            go_upto_region 35 with (fail)
            clear r0 r1 r2 r3 r4 rlt f0 f1 f2 f3 f4 l0 l1 l2 l3 l4 llt lf
            generalize W1.setCell ⟨w.heap.size + 1, 4, none⟩ (.slice A ws.length cap) = W2 at *
            have f0 := HR2.out.frozen 0
            have f1 := HR2.out.frozen 1
            have f2 := HR2.out.frozen 2
            have f3 := HR2.out.frozen 3
            have f4 := HR2.out.frozen 4
            obtain ⟨r0, r1, r2, r3, r4, rlt⟩ := rcells' HR2.out
            obtain ⟨l0, l1, l2, l3, l4, llt⟩ := rcells' HL2.out
            go_wp2
            rw [← HPOST.out, HPB.out]
            refine bodyPost_ret (I.results_row_tmp2 Tryz.results9 _ rfl (set5_blk HR2.out _ _ _ _ _) Tryz.underlying24 rfl (by kernel_rfl)) rfl ⟨A, cap, rfl, ?_, HCAP.out, set5_below HB2.out (Nat.le_refl _) _ _ _ _ _⟩
            exact rows_same' HA2.out (fun b off e => set5_heap _ _ _ (HAP1.out b off e) _ _ _ _ _) (by simp)
        · have hgd := HGD.out
          rw [if_neg he] at hgd
          have HPB := Lib.hid hgd
          have hs4 : 4 + m ≤ 9223372036854775807 := by omega
          have hs5 : -9223372036854775808 ≤ 4 + m := by omega
          clear hgd HGD
          go_wp2
          rw [← HPOST.out, HPB.out]
          exact bodyPost_ret (I.results_row_tmp2 Tryz.results9 _ rfl (set5_blk hR _ _ _ _ _) Tryz.underlying24 rfl (by kernel_rfl)) rfl ⟨none, 0, rfl, words_nil _ _, Nat.le_refl _, set5_below HP1.out.b (Nat.le_refl _) _ _ _ _ _⟩
end Go.Proofs.YtpikgebfeleajaaGreatDoor

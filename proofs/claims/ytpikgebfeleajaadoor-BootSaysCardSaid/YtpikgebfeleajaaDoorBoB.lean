/-
  The law BootBack, walked: a boot is read from its text as it was; what is read of a text is told by its own text. Condition: the tables lie as the program's text, and the library's, lay them.
-/
import Derived.Test.YtpikgebfeleajaaDoorBoL
namespace Go.Proofs.YtpikgebfeleajaaDoor
open Go.RowKit Go.Shelf
set_option linter.unusedVariables false
set_option linter.unusedSimpArgs false
attribute [local go_sem] Oper.semAt_some

theorem asm_er (s : List UInt8) : (I.asmP s).2.2 = 0 ∨ (I.asmP s).2.2 = 31 := by
  unfold I.asmP
  split
  · split <;> simp
  · simp
theorem mayB_of {c f p q : Int} {len : Nat} (h : InB c f p q) (h1 : 1 ≤ len) (h2 : len ≤ 512) : mayB c f p q len = true := by
  obtain ⟨hc, hf, hp, hq⟩ := h
  rw [mayB_iff]
  omega
theorem inB_of {c f p q : Int} {len : Nat} (h : mayB c f p q len = true) : InB c f p q ∧ 1 ≤ len ∧ len ≤ 512 := by
  have h1 := (mayB_iff c f p q len).1 h
  exact ⟨⟨by omega, by omega, by omega, by omega⟩, by omega, by omega⟩
/-- What a text says, at most: nothing, and where it goes wrong; or a boot that may be. -/
theorem parse_cases (s : List UInt8) : (∃ line, parseB s = ((0, 0, 0, 0, []), line, 190)) ∨ ∃ c f p q ws, parseB s = ((c, f, p, q, ws), 0, 0) ∧ InB c f p q ∧ WordsOk ws ∧ 1 ≤ ws.length := by
  cases hb : badB s with
  | some k => exact .inl ⟨_, parse_bad hb⟩
  | none =>
    rw [parse_good hb]
    by_cases he : (I.asmP (behL 4 s)).2.2 = 0
    · rw [if_pos he]
      by_cases hw : (I.asmP (behL 4 s)).1 = []
      · rw [if_pos hw]; exact .inl ⟨_, rfl⟩
      · rw [if_neg hw]
        exact .inr ⟨_, _, _, _, _, rfl, bad_in hb, asm_ok _, List.length_pos_iff.2 hw⟩
    · rw [if_neg he]; exact .inl ⟨_, rfl⟩
theorem text_len {c f p q : Int} {ws : List Int} (h : InB c f p q) (hr : ∀ w ∈ ws, I.RangeW w) (hl : ws.length ≤ 600) : (textB c f p q ws).length ≤ 900000 := by
  have h1 := I.list_len ws hr
  have h2 : (headT c f p q).length ≤ 160 := by
    have hrg : Rg4 c f p q := fun k hk => by
      obtain ⟨hc, hf, hp, hq⟩ := h
      rcases lt4 hk with rfl | rfl | rfl | rfl <;> (simp only [vB, List.getD_cons_zero, List.getD_cons_succ]; omega)
    rw [← pre_all]
    exact pre_len hrg 4 (Nat.le_refl _)
  unfold textB
  rw [List.length_append]
  omega

set_option maxRecDepth 100000 in
set_option maxHeartbeats 16000000 in
theorem bootBack_any {w : World} (hG : GB w) (c f p q : Int) (A : Option Addr) (ca : Nat) (ws : List Int) (hA : I.WordsAt w A ws) (hl : ws.length ≤ maxLen) (hr : ∀ x ∈ ws, I.RangeW x) (s : ByteArray) (hs : s.size ≤ maxLen) :
    Calls Tryd.prog 3 #[.agg #[.int .i64 c, .int .i64 f, .int .i64 p, .int .i64 q, .slice A ws.length ca], .string s] w fun e w' => e = .returned (.bool true) ∧ Below w.heap.size w w' := by
  have hb0 := (Below.refl w.heap.size w).alloc (Nat.le_refl _) (.cells #[.int .i64 c, .int .i64 f, .int .i64 p, .int .i64 q, .slice A ws.length ca] 24)
  have hx0 := Blk.new w 24 #[.int .i64 c, .int .i64 f, .int .i64 p, .int .i64 q, .slice A ws.length ca]
  have HAL := Lib.hid (alive_any (hG.below hb0))
  by_cases hbig : 600 < ws.length ∨ 8000 < s.size
  · have hcc : (600 : Int) < (ws.length : Int) ∨ (¬ (600 : Int) < (ws.length : Int) ∧ (8000 : Int) < (s.size : Int)) := by omega
    have HB0 := Lib.hid hb0
    have HX0 := Lib.hid hx0
    clear hA hr hG hbig hb0 hx0
    rcases hcc with h1 | ⟨h1, h2⟩
    all_goals
      go_enter Tryd.func3, Tryd.ntmps3
      go_wp2_with fail
      refine HAL.out.mono ?_
      rintro e W1 ⟨rfl, hb1⟩
      obtain ⟨x0, x1, x2, x3, x4, xlt⟩ := rcells' (HX0.out.below hb1 HX0.out.lt)
      have HB := Lib.hid (bl_step HB0.out hb1)
      clear hb1
      go_wp2
      go_ret
      exact ⟨rfl, HB.out⟩
  have g1 : ¬ (600 : Int) < (ws.length : Int) := by omega
  have g2 : ¬ (8000 : Int) < (s.size : Int) := by omega
  have hl6 : ws.length ≤ 600 := by omega
  have hHT := Lib.hid (fun W (hW : Below w.heap.size w W) => text_any (hG.below hW) c f p q A ca ws (hA.below hW) hr (by omega))
  have HWX := Lib.hid (fun W (hW : Below w.heap.size w W) => hA.below hW)
  have HSM := Lib.hid (fun W (c f p q : Int) (A B : Option Addr) (ca cb : Nat) (ws : List Int) (hA : I.WordsAt W A ws) (hB : I.WordsAt W B ws) (hl : ws.length ≤ 1000000) => sameB_any c f p q A B ca cb ws hA hB hl)
  have HB0 := Lib.hid hb0
  have HX0 := Lib.hid hx0
  unfold bootV at hHT HSM
  -- what the text says
  obtain ⟨c', f', p', q', ws', line, er, HPS, hcase⟩ : ∃ (c' f' p' q' : Int) (ws' : List Int) (line er : Int),
      Hid (∀ W, Below w.heap.size w W → Calls Tryd.prog 8 #[.string s] W fun e w' => ∃ A cap, e = .returned (.tuple #[.agg #[.int .i64 c', .int .i64 f', .int .i64 p', .int .i64 q', .slice A ws'.length cap], .int .i64 line, .int .i64 er]) ∧ I.WordsAt w' A ws' ∧ Below W.heap.size W w') ∧
      ((er = 190 ∧ ws' = []) ∨ (er = 0 ∧ InB c' f' p' q' ∧ WordsOk ws' ∧ 1 ≤ ws'.length)) := by
    rcases parse_cases s.data.toList with ⟨line, h⟩ | ⟨c', f', p', q', ws', h, h1, h2, h3⟩
    · exact ⟨_, _, _, _, _, line, 190, Lib.hid (fun W hW => parseOk_any (hG.below hW) s (by omega) h), .inl ⟨rfl, rfl⟩⟩
    · exact ⟨c', f', p', q', ws', 0, 0, Lib.hid (fun W hW => parseOk_any (hG.below hW) s (by omega) h), .inr ⟨rfl, h1, h2, h3⟩⟩
  -- a boot's text, read again
  have hBK : ∀ (c f p q : Int) (ws : List Int), InB c f p q → WordsOk ws → 1 ≤ ws.length → ∀ W, Below w.heap.size w W → Calls Tryd.prog 8 #[.string ⟨(textB c f p q ws).toArray⟩] W fun e w' => ∃ A cap, e = .returned (.tuple #[.agg #[.int .i64 c, .int .i64 f, .int .i64 p, .int .i64 q, .slice A ws.length cap], .int .i64 0, .int .i64 0]) ∧ I.WordsAt w' A ws ∧ Below W.heap.size W w' := fun c f p q ws h1 h2 h3 W hW => by
    refine parseOk_any (hG.below hW) _ ?_ (parse_text h1 h2.2 h3 h2.1)
    have := text_len h1 h2.2 (by have := h2.1; omega)
    show (textB c f p q ws).toArray.size ≤ _
    rw [List.size_toArray]
    omega
  have HTY := Lib.hid (fun W (hW : Below w.heap.size w W) A ca (hA : I.WordsAt W A ws') (h1 : InB c' f' p' q') (h2 : WordsOk ws') (h3 : 1 ≤ ws'.length) => show Calls Tryd.prog 7 #[.agg #[.int .i64 c', .int .i64 f', .int .i64 p', .int .i64 q', .slice A ws'.length ca]] W fun e w' => e = .returned (.tuple #[.string ⟨(textB c' f' p' q' ws').toArray⟩, .int .i64 0]) ∧ Below W.heap.size W w' from
    text_yes (hG.below hW) c' f' p' q' A ca ws' hA h2.2 (mayB_of h1 h3 h2.1))
  have HBK := Lib.hid hBK
  have HCS := Lib.hid hcase
  have hl7 : ws.length ≤ 1000000 := by omega
  cases hm : mayB c f p q ws.length
  · rw [hm] at hHT
    simp only [Bool.false_eq_true, if_false] at hHT
    have HT := Lib.hid hHT.out
    clear hHT hG hA hr hbig hb0 hx0 hBK hcase hm hs hl
    go_enter Tryd.func3, Tryd.ntmps3
    go_wp2_with fail
    refine HAL.out.mono ?_
    rintro e W1 ⟨rfl, hb1⟩
    have hx1 := HX0.out.below hb1 HX0.out.lt
    obtain ⟨x0, x1, x2, x3, x4, xlt⟩ := rcells' hx1
    have HB1 := Lib.hid (bl_step HB0.out hb1)
    clear hb1 hx1 HX0 HB0 HAL
    go_wp2_with fail
    refine (HT.out _ HB1.out).mono ?_
    rintro e W2 ⟨rfl, hb2⟩
    have HB2 := Lib.hid (bl_step HB1.out hb2)
    clear hb2 x0 x1 x2 x3 x4 xlt HB1
    go_wp2_with fail
    refine (HPS.out _ HB2.out).mono ?_
    rintro e W3 ⟨A3, c3, rfl, hA3, hb3⟩
    have hy3 := Blk.new W3 24 #[.int .i64 c', .int .i64 f', .int .i64 p', .int .i64 q', .slice A3 ws'.length c3]
    have HY3 := Lib.hid hy3
    have HW3 := Lib.hid (hA3.below ((Below.refl W3.heap.size W3).alloc (Nat.le_refl _) (.cells #[.int .i64 c', .int .i64 f', .int .i64 p', .int .i64 q', .slice A3 ws'.length c3] 24)))
    have HB3 := Lib.hid (bl_new (bl_step HB2.out hb3) (.cells #[.int .i64 c', .int .i64 f', .int .i64 p', .int .i64 q', .slice A3 ws'.length c3] 24))
    clear hA3 hb3 hy3
    obtain ⟨y0, y1, y2, y3, y4, ylt⟩ := rcells' HY3.out
    rcases HCS.out with ⟨rfl, rfl⟩ | ⟨rfl, h1, h2, h3⟩
    · clear HTY HBK HCS
      go_wp2
      go_ret
      exact ⟨by first | rfl | (simp; done), HB3.out⟩
    · have H1 := Lib.hid h1
      have H2 := Lib.hid h2
      have H3 := Lib.hid h3
      clear HCS h1 h2 h3
      go_wp2_with fail
      refine (HTY.out _ HB3.out A3 c3 HW3.out H1.out H2.out H3.out).mono ?_
      rintro e W4 ⟨rfl, hb4⟩
      have HY4 := Lib.hid (HY3.out.below hb4 HY3.out.lt)
      have HW4 := Lib.hid (HW3.out.below hb4)
      have HB4 := Lib.hid (bl_step HB3.out hb4)
      clear hb4 y0 y1 y2 y3 y4 ylt
      go_wp2_with fail
      refine (HBK.out _ _ _ _ _ H1.out H2.out H3.out _ HB4.out).mono ?_
      rintro e W5 ⟨A5, c5, rfl, hA5, hb5⟩
      have HY5 := Lib.hid ((HY4.out.below hb5 HY4.out.lt).alloc (.cells #[.int .i64 c', .int .i64 f', .int .i64 p', .int .i64 q', .slice A5 ws'.length c5] 24))
      have HZ5 := Lib.hid (Blk.new W5 24 #[.int .i64 c', .int .i64 f', .int .i64 p', .int .i64 q', .slice A5 ws'.length c5])
      have HWY := Lib.hid ((HW4.out.below hb5).below ((Below.refl W5.heap.size W5).alloc (Nat.le_refl _) (.cells #[.int .i64 c', .int .i64 f', .int .i64 p', .int .i64 q', .slice A5 ws'.length c5] 24)))
      have HWZ := Lib.hid (hA5.below ((Below.refl W5.heap.size W5).alloc (Nat.le_refl _) (.cells #[.int .i64 c', .int .i64 f', .int .i64 p', .int .i64 q', .slice A5 ws'.length c5] 24)))
      have HB5 := Lib.hid (bl_new (bl_step HB4.out hb5) (.cells #[.int .i64 c', .int .i64 f', .int .i64 p', .int .i64 q', .slice A5 ws'.length c5] 24))
      clear hb5 hA5
      obtain ⟨y0, y1, y2, y3, y4, ylt⟩ := rcells' HY5.out
      obtain ⟨z0, z1, z2, z3, z4, zlt⟩ := rcells' HZ5.out
      go_wp2_with fail
      refine (HSM.out _ c' f' p' q' A3 A5 c3 c5 ws' HWY.out HWZ.out (by have := H2.out.1; omega)).mono ?_
      rintro e W6 ⟨rfl, hb6⟩
      have HB6 := Lib.hid (bl_step HB5.out hb6)
      clear hb6 y0 y1 y2 y3 y4 ylt z0 z1 z2 z3 z4 zlt
      go_wp2
      go_ret
      exact ⟨by first | rfl | (simp; done), HB6.out⟩
  · have hi := inB_of hm
    rw [hm] at hHT
    simp only [if_true] at hHT
    have HT := Lib.hid hHT.out
    have HI := Lib.hid (⟨hi.1, ⟨hi.2.2, hr⟩, hi.2.1⟩ : InB c f p q ∧ WordsOk ws ∧ 1 ≤ ws.length)
    clear hHT hG hA hr hbig hb0 hx0 hBK hcase hm hs hl hi
    go_enter Tryd.func3, Tryd.ntmps3
    go_wp2_with fail
    refine HAL.out.mono ?_
    rintro e W1 ⟨rfl, hb1⟩
    have HX1 := Lib.hid (HX0.out.below hb1 HX0.out.lt)
    obtain ⟨x0, x1, x2, x3, x4, xlt⟩ := rcells' HX1.out
    have HB1 := Lib.hid (bl_step HB0.out hb1)
    clear hb1 HX0 HB0 HAL
    go_wp2_with fail
    refine (HT.out _ HB1.out).mono ?_
    rintro e W2 ⟨rfl, hb2⟩
    have HX2 := Lib.hid (HX1.out.below hb2 HX1.out.lt)
    have HB2 := Lib.hid (bl_step HB1.out hb2)
    clear hb2 x0 x1 x2 x3 x4 xlt HB1 HX1
    go_wp2_with fail
    refine (HBK.out _ _ _ _ _ HI.out.1 HI.out.2.1 HI.out.2.2 _ HB2.out).mono ?_
    rintro e W3 ⟨A2, c2, rfl, hA2, hb3⟩
    have HX3 := Lib.hid ((HX2.out.below hb3 HX2.out.lt).alloc (.cells #[.int .i64 c, .int .i64 f, .int .i64 p, .int .i64 q, .slice A2 ws.length c2] 24))
    have HV3 := Lib.hid (Blk.new W3 24 #[.int .i64 c, .int .i64 f, .int .i64 p, .int .i64 q, .slice A2 ws.length c2])
    have HWV := Lib.hid (hA2.below ((Below.refl W3.heap.size W3).alloc (Nat.le_refl _) (.cells #[.int .i64 c, .int .i64 f, .int .i64 p, .int .i64 q, .slice A2 ws.length c2] 24)))
    have HBV := Lib.hid (bl_new (bl_step HB2.out hb3) (.cells #[.int .i64 c, .int .i64 f, .int .i64 p, .int .i64 q, .slice A2 ws.length c2] 24))
    clear hb3 hA2 HX2 HB2
    obtain ⟨x0, x1, x2, x3, x4, xlt⟩ := rcells' HX3.out
    obtain ⟨v0, v1, v2, v3, v4, vlt⟩ := rcells' HV3.out
    go_wp2_with fail
    refine (HSM.out _ c f p q A A2 ca c2 ws (HWX.out _ HBV.out) HWV.out hl7).mono ?_
    rintro e Wf ⟨rfl, hb4⟩
    have HBF := Lib.hid (bl_step HBV.out hb4)
    clear hb4 x0 x1 x2 x3 x4 xlt v0 v1 v2 v3 v4 vlt HBV HX3 HV3 HWV
    go_wp2_with fail
    refine (HPS.out _ HBF.out).mono ?_
    rintro e W3 ⟨A3, c3, rfl, hA3, hb3⟩
    have hy3 := Blk.new W3 24 #[.int .i64 c', .int .i64 f', .int .i64 p', .int .i64 q', .slice A3 ws'.length c3]
    have HY3 := Lib.hid hy3
    have HW3 := Lib.hid (hA3.below ((Below.refl W3.heap.size W3).alloc (Nat.le_refl _) (.cells #[.int .i64 c', .int .i64 f', .int .i64 p', .int .i64 q', .slice A3 ws'.length c3] 24)))
    have HB3 := Lib.hid (bl_new (bl_step HBF.out hb3) (.cells #[.int .i64 c', .int .i64 f', .int .i64 p', .int .i64 q', .slice A3 ws'.length c3] 24))
    clear hA3 hb3 hy3
    obtain ⟨y0, y1, y2, y3, y4, ylt⟩ := rcells' HY3.out
    rcases HCS.out with ⟨rfl, rfl⟩ | ⟨rfl, h1, h2, h3⟩
    · clear HTY HBK HCS
      go_wp2
      go_ret
      exact ⟨by first | rfl | (simp; done), HB3.out⟩
    · have H1 := Lib.hid h1
      have H2 := Lib.hid h2
      have H3 := Lib.hid h3
      clear HCS h1 h2 h3
      go_wp2_with fail
      refine (HTY.out _ HB3.out A3 c3 HW3.out H1.out H2.out H3.out).mono ?_
      rintro e W4 ⟨rfl, hb4⟩
      have HY4 := Lib.hid (HY3.out.below hb4 HY3.out.lt)
      have HW4 := Lib.hid (HW3.out.below hb4)
      have HB4 := Lib.hid (bl_step HB3.out hb4)
      clear hb4 y0 y1 y2 y3 y4 ylt
      go_wp2_with fail
      refine (HBK.out _ _ _ _ _ H1.out H2.out H3.out _ HB4.out).mono ?_
      rintro e W5 ⟨A5, c5, rfl, hA5, hb5⟩
      have HY5 := Lib.hid ((HY4.out.below hb5 HY4.out.lt).alloc (.cells #[.int .i64 c', .int .i64 f', .int .i64 p', .int .i64 q', .slice A5 ws'.length c5] 24))
      have HZ5 := Lib.hid (Blk.new W5 24 #[.int .i64 c', .int .i64 f', .int .i64 p', .int .i64 q', .slice A5 ws'.length c5])
      have HWY := Lib.hid ((HW4.out.below hb5).below ((Below.refl W5.heap.size W5).alloc (Nat.le_refl _) (.cells #[.int .i64 c', .int .i64 f', .int .i64 p', .int .i64 q', .slice A5 ws'.length c5] 24)))
      have HWZ := Lib.hid (hA5.below ((Below.refl W5.heap.size W5).alloc (Nat.le_refl _) (.cells #[.int .i64 c', .int .i64 f', .int .i64 p', .int .i64 q', .slice A5 ws'.length c5] 24)))
      have HB5 := Lib.hid (bl_new (bl_step HB4.out hb5) (.cells #[.int .i64 c', .int .i64 f', .int .i64 p', .int .i64 q', .slice A5 ws'.length c5] 24))
      clear hb5 hA5
      obtain ⟨y0, y1, y2, y3, y4, ylt⟩ := rcells' HY5.out
      obtain ⟨z0, z1, z2, z3, z4, zlt⟩ := rcells' HZ5.out
      go_wp2_with fail
      refine (HSM.out _ c' f' p' q' A3 A5 c3 c5 ws' HWY.out HWZ.out (by have := H2.out.1; omega)).mono ?_
      rintro e W6 ⟨rfl, hb6⟩
      have HB6 := Lib.hid (bl_step HB5.out hb6)
      clear hb6 y0 y1 y2 y3 y4 ylt z0 z1 z2 z3 z4 zlt
      go_wp2
      go_ret
      exact ⟨by first | rfl | (simp; done), HB6.out⟩
end Go.Proofs.YtpikgebfeleajaaDoor

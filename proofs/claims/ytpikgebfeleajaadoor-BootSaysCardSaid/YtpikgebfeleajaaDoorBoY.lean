/-
  The law BootSays, walked: behind the four lines a program may be said in any way that Assemble takes. Condition: the tables lie as the program's text, and the library's, lay them.
-/
import Derived.Test.YtpikgebfeleajaaDoorBoV
namespace Go.Proofs.YtpikgebfeleajaaDoor
open Go.RowKit Go.Shelf
set_option linter.unusedVariables false
set_option linter.unusedSimpArgs false
attribute [local go_sem] Oper.semAt_some

theorem suffix_app (a b : List UInt8) : Lib.hasSuffix (a ++ b) b = true := by
  unfold Lib.hasSuffix
  rw [List.isSuffixOf_iff_suffix]
  exact List.suffix_append _ _
theorem ext_head (a b : ByteArray) : (a ++ b).extract 0 a.size = a := by
  refine I.bytes_eq ?_
  have h1 : a.size = a.data.toList.length := (Array.length_toList).symm
  rw [ByteArray.data_extract, Array.toList_extract, ByteArray.data_append, Array.toList_append, List.extract_eq_take_drop, List.drop_zero, Nat.sub_zero, h1, List.take_left]
theorem box_no (c f p q : Int) (A : Option Addr) (l k : Nat) (i : Nat) (x : Int) : (#[.int .i64 c, .int .i64 f, .int .i64 p, .int .i64 q, .slice A l k] : Array Value)[i]? ≠ some (Value.int .u32 x) := by
  rcases Nat.lt_or_ge i 5 with h | h
  · rcases (show i = 0 ∨ i = 1 ∨ i = 2 ∨ i = 3 ∨ i = 4 by omega) with rfl | rfl | rfl | rfl | rfl <;> simp
  · rw [Array.getElem?_eq_none (by simpa using h)]
    simp

set_option maxRecDepth 100000 in
set_option maxHeartbeats 4000000 in
theorem text_big {w : World} (hG : GB w) (c f p q : Int) (A : Option Addr) (len cap : Nat) (hl : len ≤ 9223372036854775807) (hm : mayB c f p q len = false) :
    Calls Tryd.prog 7 #[bootV c f p q A len cap] w fun e w' => e = .returned (.tuple #[.string ⟨#[]⟩, .int .i64 190]) ∧ Below w.heap.size w w' := by
  have HB0 := Lib.hid ((Below.refl w.heap.size w).alloc (Nat.le_refl _) (.cells #[.int .i64 c, .int .i64 f, .int .i64 p, .int .i64 q, .slice A len cap] 24))
  have HC := Lib.hid (fun W => check_any (w := W) c f p q A len cap (by omega))
  rw [hm] at HC
  simp only [Bool.false_eq_true, if_false] at HC
  unfold bootV at HC ⊢
  clear hG hm
  go_enter Tryd.func7, Tryd.ntmps7
  go_wp2_with fail
  refine (HC.out _).mono ?_
  rintro e W1 ⟨rfl, hb1⟩
  have HB1 := Lib.hid (bl_step HB0.out hb1)
  clear hb1
  go_wp2
  go_ret2
  exact ⟨rfl, HB1.out⟩

set_option maxRecDepth 100000 in
set_option maxHeartbeats 16000000 in
theorem bootSays_any {w : World} (hG : GB w) (c f p q : Int) (A : Option Addr) (ca : Nat) (ws : List Int) (hA : I.WordsAt w A ws) (hl : ws.length ≤ maxLen) (hr : ∀ x ∈ ws, I.RangeW x) (s : ByteArray) (hs : s.size ≤ maxLen) :
    Calls Tryd.prog 4 #[.agg #[.int .i64 c, .int .i64 f, .int .i64 p, .int .i64 q, .slice A ws.length ca], .string s] w fun e w' => e = .returned (.bool true) ∧ Below w.heap.size w w' := by
  have hb0 := (Below.refl w.heap.size w).alloc (Nat.le_refl _) (.cells #[.int .i64 c, .int .i64 f, .int .i64 p, .int .i64 q, .slice A ws.length ca] 24)
  have hx0 := Blk.new w 24 #[.int .i64 c, .int .i64 f, .int .i64 p, .int .i64 q, .slice A ws.length ca]
  have HAL := Lib.hid (alive_any (hG.below hb0))
  have HB0 := Lib.hid hb0
  have HX0 := Lib.hid hx0
  cases hm : mayB c f p q ws.length
  · have HT := Lib.hid (fun W (hW : Below w.heap.size w W) => show Calls Tryd.prog 7 #[.agg #[.int .i64 c, .int .i64 f, .int .i64 p, .int .i64 q, .slice A ws.length ca]] W fun e w' => e = .returned (.tuple #[.string ⟨#[]⟩, .int .i64 190]) ∧ Below W.heap.size W w' from by
      exact text_big (hG.below hW) c f p q A ws.length ca (by unfold maxLen at hl; omega) hm)
    clear hA hr hG hb0 hx0 hm
    go_enter Tryd.func4, Tryd.ntmps4
    go_wp2_with fail
    refine HAL.out.mono ?_
    rintro e W1 ⟨rfl, hb1⟩
    obtain ⟨x0, x1, x2, x3, x4, xlt⟩ := rcells' (HX0.out.below hb1 HX0.out.lt)
    have HB := Lib.hid (bl_step HB0.out hb1)
    clear hb1
    go_wp2_with fail
    refine (HT.out _ HB.out).mono ?_
    rintro e W2 ⟨rfl, hb2⟩
    have HB2 := Lib.hid (bl_step HB.out hb2)
    clear hb2 x0 x1 x2 x3 x4 xlt
    go_wp2
    go_ret
    exact ⟨rfl, HB2.out⟩
  have hi := inB_of hm
  have HT := Lib.hid (fun W (hW : Below w.heap.size w W) => text_yes (hG.below hW) c f p q A ca ws (hA.below hW) hr hm)
  unfold bootV at HT
  by_cases hbig : 4000 < s.size
  · have hbg : (4000 : Int) < (s.size : Int) := by omega
    clear hA hr hG hb0 hx0 hm hi
    generalize (⟨(textB c f p q ws).toArray⟩ : ByteArray) = T at *
    go_enter Tryd.func4, Tryd.ntmps4
    go_wp2_with fail
    refine HAL.out.mono ?_
    rintro e W1 ⟨rfl, hb1⟩
    obtain ⟨x0, x1, x2, x3, x4, xlt⟩ := rcells' (HX0.out.below hb1 HX0.out.lt)
    have HB := Lib.hid (bl_step HB0.out hb1)
    clear hb1
    go_wp2_with fail
    refine (HT.out _ HB.out).mono ?_
    rintro e W2 ⟨rfl, hb2⟩
    have HB2 := Lib.hid (bl_step HB.out hb2)
    clear hb2 x0 x1 x2 x3 x4 xlt
    go_wp2
    go_ret
    exact ⟨rfl, HB2.out⟩
  have hbg : ¬ (4000 : Int) < (s.size : Int) := by omega
  have hs4 : s.size ≤ 4000 := by omega
  obtain ⟨hS, hhS⟩ : ∃ hS : ByteArray, hS = ⟨(headT c f p q).toArray⟩ := ⟨_, rfl⟩
  obtain ⟨lt, hlt⟩ : ∃ lt : ByteArray, lt = ⟨(I.listP ws).toArray⟩ := ⟨_, rfl⟩
  have hTe : (⟨(textB c f p q ws).toArray⟩ : ByteArray) = hS ++ lt := by
    refine I.bytes_eq ?_
    rw [ByteArray.data_append, Array.toList_append, hhS, hlt]
    rfl
  have hTz : (hS ++ lt : ByteArray).size ≤ 900000 := by
    have h1 := text_len hi.1 hr (by omega)
    rw [← hTe]
    show (textB c f p q ws).toArray.size ≤ _
    rw [List.size_toArray]
    exact h1
  rw [hTe] at HT
  have HL := Lib.hid (fun W (hW : Below w.heap.size w W) => show Calls Tryd.prog 10 #[.slice A ws.length ca] W fun e w' => e = .returned (.string lt) ∧ Below W.heap.size W w' from by
    rw [hlt]
    exact I.list_any (hG.below hW).isa A ca ws (by omega) (hA.below hW) hr)
  have HSF := Lib.hid (fun W => show Calls Tryd.prog 11 #[.string (hS ++ lt), .string lt] W fun e w' => e = .returned (.bool true) ∧ w' = W from by
    have h := Tryd.strings_HasSuffix (hS ++ lt) lt W (by omega)
    rw [ByteArray.data_append, Array.toList_append, suffix_app] at h
    exact h)
  have hz : (hS ++ lt : ByteArray).size = hS.size + lt.size := ByteArray.size_append
  have hex := ext_head hS lt
  have hP := parse_head hi.1 s.data.toList
  have hcl : (hS ++ s : ByteArray).data.toList = headT c f p q ++ s.data.toList := by
    rw [ByteArray.data_append, Array.toList_append, hhS]
  have hcz : (hS ++ s : ByteArray).size = hS.size + s.size := ByteArray.size_append
  rw [← hcl] at hP
  have hasm := asm_ok s.data.toList
  have hall := asm_line s.data.toList
  have hae := asm_er s.data.toList
  obtain ⟨ws', hws⟩ : ∃ ws', (I.asmP s.data.toList).1 = ws' := ⟨_, rfl⟩
  obtain ⟨n, hn⟩ : ∃ n, (I.asmP s.data.toList).2.1 = n := ⟨_, rfl⟩
  obtain ⟨er, her⟩ : ∃ er, (I.asmP s.data.toList).2.2 = er := ⟨_, rfl⟩
  have HASM := Lib.hid (fun W (hW : Below w.heap.size w W) => I.asm_any (hG.below hW).isa s (by omega) (ws := ws') (n := n) (er := er) (by show I.asmP s.data.toList = _; rw [← hws, ← hn, ← her]))
  rw [hws] at hasm
  rw [hn] at hall
  rw [her] at hae
  rw [hws, hn, her] at hP
  have HPS := Lib.hid (fun W (hW : Below w.heap.size w W) c f p q ws line er (h : parseB (hS ++ s : ByteArray).data.toList = ((c, f, p, q, ws), line, er)) => parseOk_any (hG.below hW) (hS ++ s) (by omega) h)
  have HSM := Lib.hid (fun W (A B : Option Addr) (ca cb : Nat) (hA : I.WordsAt W A ws') (hB : I.WordsAt W B ws') => sameN_any (w := W) c f p q A B ca cb ws' hA hB (by have := hasm.1; omega))
  have hsub : ((hS ++ lt : ByteArray).size : Int) - (lt.size : Int) = (hS.size : Int) := by omega
  have hh0 : (0 : Int) ≤ (hS.size : Int) := by omega
  have hh1 : (hS.size : Int) ≤ ((hS ++ lt : ByteArray).size : Int) := by omega
  have hcat : hS.size + s.size ≤ 9223372036854775807 := by omega
  obtain ⟨T, hT⟩ : ∃ T : ByteArray, (hS ++ lt : ByteArray) = T := ⟨_, rfl⟩
  obtain ⟨U, hU⟩ : ∃ U : ByteArray, (hS ++ s : ByteArray) = U := ⟨_, rfl⟩
  have HP := Lib.hid hP
  have hsl : s.data.toList.length = s.size := Array.length_toList
  have hn1 : n ≤ 4000 := by have := hall.2; omega
  have hn0 := hall.1
  clear hP hcl hcz hall hws hn her hG hA hr hb0 hx0 hm hi hhS hlt hTe hbig hs hl hsl
  rw [hT] at HT hTz HSF hz hex hsub hh1
  rw [hU] at HPS HP
  go_enter Tryd.func4, Tryd.ntmps4
  go_wp2_with fail
  refine HAL.out.mono ?_
  rintro e W1 ⟨rfl, hb1⟩
  have HX1 := Lib.hid (HX0.out.below hb1 HX0.out.lt)
  obtain ⟨x0, x1, x2, x3, x4, xlt⟩ := rcells' HX1.out
  have HB1 := Lib.hid (bl_step HB0.out hb1)
  clear hb1 HX0 HB0 HAL
  go_wp2_with fail
  refine (HT.out _ HB1.out).mono ?_
  rintro e W2 ⟨rfl, hb2⟩
  have HX2 := Lib.hid (HX1.out.below hb2 HX1.out.lt)
  have HB2 := Lib.hid (bl_step HB1.out hb2)
  clear hb2 HX1 HB1 x0 x1 x2 x3 x4 xlt
  obtain ⟨x0, x1, x2, x3, x4, xlt⟩ := rcells' HX2.out
  go_wp2_with fail
  refine (HL.out _ HB2.out).mono ?_
  rintro e W3 ⟨rfl, hb3⟩
  have HX3 := Lib.hid (HX2.out.below hb3 HX2.out.lt)
  have HB3 := Lib.hid (bl_step HB2.out hb3)
  clear hb3 HX2 HB2 x0 x1 x2 x3 x4 xlt
  go_wp2_with fail
  refine (HSF.out _).mono ?_
  rintro e W4 ⟨rfl, rfl⟩
  go_wp2_with fail
  rcases hae with rfl | rfl
  · by_cases hw : ws' = []
    · subst hw
      have hp := HP.out
      rw [if_pos rfl, if_pos rfl] at hp
      have HPP := Lib.hid hp
      clear hp HSM
      refine (HPS.out _ HB3.out _ _ _ _ _ _ _ HPP.out).mono ?_
      rintro e W5 ⟨A5, c5, rfl, hA5, hb5⟩
      have HB5 := Lib.hid (bl_new (bl_step HB3.out hb5) (.cells #[.int .i64 0, .int .i64 0, .int .i64 0, .int .i64 0, .slice A5 ([] : List Int).length c5] 24))
      clear hb5 hA5
      go_wp2_with fail
      refine (HASM.out _ HB5.out).mono ?_
      rintro e W6 ⟨B, cb, rfl, hB, _, hb6⟩
      have HB6 := Lib.hid (bl_step HB5.out hb6)
      clear hb6 hB
      go_wp2
      go_ret
      exact ⟨by first | rfl | (simp; done), HB6.out⟩
    · have hp := HP.out
      rw [if_pos rfl, if_neg hw] at hp
      have HPP := Lib.hid hp
      have HWN := Lib.hid hw
      have hz0 : ¬ (ws'.length : Int) = 0 := by
        intro h
        exact hw (List.eq_nil_of_length_eq_zero (by omega))
      clear hp hw
      refine (HPS.out _ HB3.out _ _ _ _ _ _ _ HPP.out).mono ?_
      rintro e W5 ⟨A5, c5, rfl, hA5, hb5⟩
      have HX5 := Lib.hid ((HX3.out.below hb5 HX3.out.lt).alloc (.cells #[.int .i64 c, .int .i64 f, .int .i64 p, .int .i64 q, .slice A5 ws'.length c5] 24))
      have HY5 := Lib.hid (Blk.new W5 24 #[.int .i64 c, .int .i64 f, .int .i64 p, .int .i64 q, .slice A5 ws'.length c5])
      have HW5 := Lib.hid (hA5.below ((Below.refl W5.heap.size W5).alloc (Nat.le_refl _) (.cells #[.int .i64 c, .int .i64 f, .int .i64 p, .int .i64 q, .slice A5 ws'.length c5] 24)))
      have HB5 := Lib.hid (bl_new (bl_step HB3.out hb5) (.cells #[.int .i64 c, .int .i64 f, .int .i64 p, .int .i64 q, .slice A5 ws'.length c5] 24))
      have HYN := Lib.hid (show W5.heap.size ≠ w.heap.size from by
        have h1 := HX3.out.lt
        have h2 := hb5.size
        omega)
      clear hb5 hA5
      go_wp2_with fail
      refine (HASM.out _ HB5.out).mono ?_
      rintro e W6 ⟨B, cb, rfl, hB, _, hb6⟩
      have HX6 := Lib.hid (HX5.out.below hb6 HX5.out.lt)
      have HY6 := Lib.hid (HY5.out.below hb6 HY5.out.lt)
      have HA6 := Lib.hid (HW5.out.below hb6)
      have HBW := Lib.hid hB
      have HB6 := Lib.hid (bl_step HB5.out hb6)
      clear hb6 hB HX5 HY5 HW5 HB5
      have hX := HX6.out
      have f4 := hX.frozen 4
      obtain ⟨x0, x1, x2, x3, x4, xlt⟩ := rcells' hX
      have hYN := HYN.out
      obtain ⟨y0, y1, y2, y3, y4, ylt⟩ := rcells' HY6.out
      clear hX
      have HAB := Lib.hid (words_apart HBW.out HWN.out HX6.out (box_no c f p q A ws.length ca))
      have HAA := Lib.hid (words_apart HA6.out HWN.out HX6.out (box_no c f p q A ws.length ca))
      go_wp2_with fail
      refine (HSM.out _ B A5 cb c5 (rows_same' HBW.out (fun b off e => Below.heap_setCell _ _ _ _ (HAB.out b off e)) (by simp)) (rows_same' HA6.out (fun b off e => Below.heap_setCell _ _ _ _ (HAA.out b off e)) (by simp))).mono ?_
      rintro e W7 ⟨rfl, hb7⟩
      have HB7 := Lib.hid ((HB6.out.setCell (p := ⟨w.heap.size, 4, none⟩) (Nat.le_refl _) (.slice B ws'.length cb)).trans (hb7.mono (by rw [World.size_setCell]; exact HB6.out.size)))
      clear hb7
      go_wp2
      go_ret
      exact ⟨by first | rfl | (simp; done), HB7.out⟩
  · have hp := HP.out
    rw [if_neg (by decide), show 4 + n = n + 4 from by omega] at hp
    have HPP := Lib.hid hp
    clear hp HSM
    refine (HPS.out _ HB3.out _ _ _ _ _ _ _ HPP.out).mono ?_
    rintro e W5 ⟨A5, c5, rfl, hA5, hb5⟩
    have HB5 := Lib.hid (bl_new (bl_step HB3.out hb5) (.cells #[.int .i64 0, .int .i64 0, .int .i64 0, .int .i64 0, .slice A5 ([] : List Int).length c5] 24))
    clear hb5 hA5
    go_wp2_with fail
    refine (HASM.out _ HB5.out).mono ?_
    rintro e W6 ⟨B, cb, rfl, hB, _, hb6⟩
    have HB6 := Lib.hid (bl_step HB5.out hb6)
    clear hb6 hB
    go_wp2
    go_ret
    exact ⟨by first | rfl | (simp; done), HB6.out⟩
end Go.Proofs.YtpikgebfeleajaaDoor

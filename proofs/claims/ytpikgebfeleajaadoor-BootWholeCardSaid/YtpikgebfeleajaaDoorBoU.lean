/-
  The law BootWhole, walked: the pages' bytes are together the program's, and noughts behind. Condition: the tables lie as the program's text, and the library's, lay them.
-/
import Derived.Laws.BytesArg
import Derived.Test.YtpikgebfeleajaaDoorBoot7
import Derived.Test.YtpikgebfeleajaaDoorBoL
namespace Go.Proofs.YtpikgebfeleajaaDoor
open Go.RowKit Go.Shelf
set_option linter.unusedVariables false
set_option linter.unusedSimpArgs false
attribute [local go_sem] Oper.semAt_some

theorem inB_of {c f p q : Int} {len : Nat} (h : mayB c f p q len = true) : InB c f p q ∧ 1 ≤ len ∧ len ≤ 512 := by
  have h1 := (mayB_iff c f p q len).1 h
  exact ⟨⟨by omega, by omega, by omega, by omega⟩, by omega, by omega⟩
theorem conv_bytes {w : World} {A : Option Addr} {l : List Int} (h : BytesAt w A l) (c : Nat) : (convert 39 9 (.slice A l.length c)).run Tryd.prog w = .ok (.string (strOfNums l)) w := by
  cases l with
  | nil =>
    show (convert 39 9 (.slice A 0 c)).run Tryd.prog w = .ok (.string ByteArray.empty) w
    rw [run_convert_bytes_string w _ _ 5 _ 0 c Tryd.underlying39 Tryd.underlying5 Tryd.underlying9]
    cases A with
    | none => simp [Conv.bytesToString]
    | some a => rw [run_bytesToString w a 0 c [] (by rfl)]; rfl
  | cons x l =>
    obtain ⟨b, off, rfl, _, _⟩ := byte_at h (show (x :: l)[0]? = some x from rfl)
    refine run_convert_bytes_arg w _ 5 Tryd.underlying39 Tryd.underlying5 b off _ c (x :: l) rfl (fun i hi => ?_) _ Tryd.underlying9
    obtain ⟨b', off', hA, _, hc⟩ := byte_at h (List.getElem?_eq_getElem hi)
    injection hA with hA
    injection hA with e1 e2 _
    subst e1 e2
    rw [hc, List.getD_eq_getElem?_getD, List.getElem?_eq_getElem hi]; rfl
def flatP (bs : List Int) (k : Nat) : List Int := (List.range k).flatMap (pageL bs)
theorem flat_len (bs : List Int) : ∀ k, (flatP bs k).length = 64 * k
  | 0 => rfl
  | k + 1 => by
    have ih := flat_len bs k
    unfold flatP at *
    rw [List.range_succ, List.flatMap_append, List.length_append, ih]
    simp only [List.flatMap_cons, List.flatMap_nil, List.append_nil, pageL_len]
    omega
theorem flat_step (bs : List Int) (k : Nat) : flatP bs (k + 1) = flatP bs k ++ pageL bs k := by
  unfold flatP
  rw [List.range_succ, List.flatMap_append]
  simp
theorem flat_at (bs : List Int) : ∀ (k i : Nat), i < 64 * k → (flatP bs k)[i]? = some (bs.getD i 0)
  | 0, i, h => by omega
  | k + 1, i, h => by
    rw [flat_step]
    rcases Nat.lt_or_ge i (64 * k) with h1 | h1
    · rw [List.getElem?_append_left (by rw [flat_len]; exact h1)]
      exact flat_at bs k i h1
    · rw [List.getElem?_append_right (by rw [flat_len]; exact h1), flat_len, pageL_at bs k (by omega), show 64 * k + (i - 64 * k) = i from by omega]
theorem str_step (bs : List Int) (k : Nat) : strOfNums (flatP bs k) ++ strOfNums (pageL bs k) = strOfNums (flatP bs (k + 1)) := by
  refine I.bytes_eq ?_
  rw [ByteArray.data_append, Array.toList_append, strOfNums_data, strOfNums_data, strOfNums_data, flat_step, List.map_append]
theorem str_size (l : List Int) : (strOfNums l).size = l.length := by
  show (List.map _ l).toArray.size = _
  rw [List.size_toArray, List.length_map]
theorem flat_pre (bs : List Int) (k : Nat) (h : bs.length ≤ 64 * k) : (flatP bs k).take bs.length = bs := by
  apply List.ext_getElem?
  intro i
  rcases Nat.lt_or_ge i bs.length with h1 | h1
  · rw [List.getElem?_take_of_lt h1, flat_at bs k i (by omega), List.getD_eq_getElem?_getD, List.getElem?_eq_getElem h1]
    rfl
  · rw [List.getElem?_eq_none (by rw [List.length_take]; omega), List.getElem?_eq_none h1]
theorem str_pre (bs : List Int) (k : Nat) (h : bs.length ≤ 64 * k) : (strOfNums (flatP bs k)).extract 0 (strOfNums bs).size = strOfNums bs := by
  refine I.bytes_eq ?_
  rw [ByteArray.data_extract, Array.toList_extract, List.extract_eq_take_drop, List.drop_zero, Nat.sub_zero, str_size, strOfNums_data, strOfNums_data, ← List.map_take, flat_pre bs k h]
theorem str_zero (bs : List Int) (k i : Nat) (h : bs.length ≤ i) (hi : i < (strOfNums (flatP bs k)).size) : (((strOfNums (flatP bs k))[i]'hi).toNat : Int) = 0 := by
  have hs := str_size (flatP bs k)
  rw [flat_len] at hs
  have h1 : (strOfNums (flatP bs k)).data.toList[i]? = some ((strOfNums (flatP bs k))[i]'hi) := by
    rw [List.getElem?_eq_getElem (by rw [Array.length_toList]; exact hi), Array.getElem_toList]
    rfl
  rw [strOfNums_data, List.getElem?_map, flat_at bs k i (by omega), List.getD_eq_getElem?_getD, List.getElem?_eq_none h] at h1
  injection h1 with h1
  rw [← h1]
  rfl

set_option maxRecDepth 100000 in
set_option maxHeartbeats 16000000 in
theorem bootWhole_any {w : World} (hG : GB w) (c f p q : Int) (A : Option Addr) (ca : Nat) (ws : List Int) (hA : WordsAt w A ws) (hl : ws.length ≤ maxLen) (hw : Words ws) :
    Calls Tryd.prog 5 #[.agg #[.int .i64 c, .int .i64 f, .int .i64 p, .int .i64 q, .slice A ws.length ca]] w fun e w' => e = .returned (.bool true) ∧ Below w.heap.size w w' := by
  have hb0 := (Below.refl w.heap.size w).alloc (Nat.le_refl _) (.cells #[.int .i64 c, .int .i64 f, .int .i64 p, .int .i64 q, .slice A ws.length ca] 24)
  have hx0 := Blk.new w 24 #[.int .i64 c, .int .i64 f, .int .i64 p, .int .i64 q, .slice A ws.length ca]
  have HAL := Lib.hid (alive_any (hG.below hb0))
  have HB0 := Lib.hid hb0
  have HX0 := Lib.hid hx0
  have HC := Lib.hid (fun W => check_any (w := W) c f p q A ws.length ca (by unfold maxLen at hl; omega))
  unfold bootV at HC
  cases hm : mayB c f p q ws.length
  · rw [hm] at HC
    simp only [Bool.false_eq_true, if_false] at HC
    clear hA hw hG hb0 hx0 hm
    go_enter Tryd.func5, Tryd.ntmps5
    go_wp2_with fail
    refine HAL.out.mono ?_
    rintro e W1 ⟨rfl, hb1⟩
    obtain ⟨x0, x1, x2, x3, x4, xlt⟩ := rcells' (HX0.out.below hb1 HX0.out.lt)
    have HB := Lib.hid (bl_step HB0.out hb1)
    clear hb1
    go_wp2_with fail
    refine (HC.out _).mono ?_
    rintro e W2 ⟨rfl, hb2⟩
    have HB2 := Lib.hid (bl_step HB.out hb2)
    clear hb2 x0 x1 x2 x3 x4 xlt
    go_wp2
    go_ret
    exact ⟨rfl, HB2.out⟩
  rw [hm] at HC
  simp only [if_true] at HC
  have hi := inB_of hm
  obtain ⟨np, hnp⟩ : ∃ np : Nat, np = (ws.length + 15) / 16 := ⟨_, rfl⟩
  obtain ⟨bs, hbs⟩ : ∃ bs, bs = bytesL ws := ⟨_, rfl⟩
  have hbl : bs.length = 4 * ws.length := by rw [hbs, bytesL_len]
  have HPG := Lib.hid (fun W (hW : Below w.heap.size w W) => show Calls Tryd.prog 15 #[.agg #[.int .i64 c, .int .i64 f, .int .i64 p, .int .i64 q, .slice A ws.length ca]] W fun e w' => e = .returned (.int .i64 (np : Int)) ∧ Below W.heap.size W w' from by
    have h := callsIn_wide.1 (bootPages_in 16 (by omega) c f p q A ca ws (by omega) hw W (RowsAt.below hA hW))
    rw [hm] at h
    rw [hnp]
    exact h)
  have HBY := Lib.hid (fun W (hW : Below w.heap.size w W) (k : Nat) (hk : k < np) => show Calls Tryd.prog 16 #[.agg #[.int .i64 c, .int .i64 f, .int .i64 p, .int .i64 q, .slice A ws.length ca], .int .i64 (k : Int)] W fun e w' => ∃ B cb, e = .returned (.slice B 64 cb) ∧ ((convert 39 9 (.slice B 64 cb)).run Tryd.prog w' = .ok (.string (strOfNums (pageL bs k))) w') ∧ Below W.heap.size W w' from by
    refine (callsIn_wide.1 (bootBytes_in 16 (by omega) c f p q (k : Int) A ca ws (by omega) hw W (RowsAt.below hA hW))).mono fun e w' hR => ?_
    obtain ⟨v, h1, h2, h3⟩ := hR
    have e1 : pageOf (mayB c f p q ws.length) ws (k : Int) = pageL bs k := by
      unfold pageOf
      rw [hm, if_pos ⟨by omega, by show (k : Int) < ((pagesN true ws.length : Nat) : Int); unfold pagesN; rw [if_pos rfl, ← hnp]; omega⟩, Int.toNat_natCast, hbs]
    rw [e1] at h2
    obtain ⟨B, cb, rfl, hB, _⟩ := ownB_at h2
    have hcv := conv_bytes hB cb
    rw [pageL_len] at hcv
    rw [pageL_len] at h1
    exact ⟨B, cb, h1, hcv, h3⟩)
  have HIB := Lib.hid (fun W (hW : Below w.heap.size w W) => show Calls Tryd.prog 17 #[.slice A ws.length ca] W fun e w' => ∃ B cb, e = .returned (.slice B bs.length cb) ∧ ((convert 39 9 (.slice B bs.length cb)).run Tryd.prog w' = .ok (.string (strOfNums bs)) w') ∧ Below W.heap.size W w' from by
    refine (isaBytes_any A ca ws (by omega) (RowsAt.below hA hW) hw).mono fun e w' hR => ?_
    obtain ⟨v, h1, h2, h3⟩ := hR
    rw [← hbs] at h2
    obtain ⟨B, cb, rfl, hB, _⟩ := ownB_at h2
    exact ⟨B, cb, h1, conv_bytes hB cb, h3⟩)
  have HZ := Lib.hid (fun k => str_size (flatP bs k))
  have HFL := Lib.hid (flat_len bs)
  have HST := Lib.hid (str_step bs)
  have hge : bs.length ≤ 64 * np := by omega
  have hlt : 64 * np < bs.length + 64 := by omega
  have hnp2 : np ≤ 32 := by omega
  have HPRE := Lib.hid (str_pre bs np hge)
  have HZR := Lib.hid (str_zero bs np)
  have HSB := Lib.hid (str_size bs)
  have HBL := Lib.hid hbl
  have HE0 : Hid ((⟨#[]⟩ : ByteArray) = strOfNums (flatP bs 0)) := rfl
  clear hA hw hG hb0 hx0 hm hi hnp hbs hbl
  go_enter Tryd.func5, Tryd.ntmps5
  go_wp2_with fail
  refine HAL.out.mono ?_
  rintro e W1 ⟨rfl, hb1⟩
  have HX1 := Lib.hid (HX0.out.below hb1 HX0.out.lt)
  obtain ⟨x0, x1, x2, x3, x4, xlt⟩ := rcells' HX1.out
  have HB1 := Lib.hid (bl_step HB0.out hb1)
  clear hb1 HX0 HB0 HAL
  go_wp2_with fail
  refine (HC.out _).mono ?_
  rintro e W2 ⟨rfl, hb2⟩
  have HX2 := Lib.hid (HX1.out.below hb2 HX1.out.lt)
  have HB2 := Lib.hid (bl_step HB1.out hb2)
  clear hb2 x0 x1 x2 x3 x4 xlt HX1 HB1
  obtain ⟨x0, x1, x2, x3, x4, xlt⟩ := rcells' HX2.out
  go_wp2_with fail
  refine (HPG.out _ HB2.out).mono ?_
  rintro e W3 ⟨rfl, hb3⟩
  have HX3 := Lib.hid (HX2.out.below hb3 HX2.out.lt)
  have HB3 := Lib.hid (bl_step HB2.out hb3)
  clear hb3 x0 x1 x2 x3 x4 xlt HX2 HB2 HPG
  go_wp2_with fail
  go_loopw [4, 6] (fun v i wr => ∃ k : Nat, i = .int .i64 (k : Int) ∧ k ≤ np ∧ v = .string (strOfNums (flatP bs k)) ∧ Hid (Blk wr w.heap.size 24 #[.int .i64 c, .int .i64 f, .int .i64 p, .int .i64 q, .slice A ws.length ca]) ∧ Hid (Below w.heap.size w wr)) (fun _ i _ => np - (intOf i).toNat)
  case atStart => exact ⟨0, rfl, Nat.zero_le _, by rw [← HE0.out], HX3, HB3⟩
  case round =>
    obtain ⟨k, rfl, hk, rfl, HX, HB⟩ := hrel
    clear HX3 HB3
    by_cases hkn : k < np
    · have hkb : (k : Int) < (np : Int) := by omega
      obtain ⟨x0, x1, x2, x3, x4, xlt⟩ := rcells' HX.out
      have hz := HZ.out k
      rw [HFL.out] at hz
      have hz2 := str_size (pageL bs k)
      rw [pageL_len] at hz2
      have HS1 := Lib.hid (HST.out k)
      have HBK := Lib.hid (fun W hW => HBY.out W hW k hkn)
      generalize strOfNums (flatP bs k) = pk at *
      generalize strOfNums (pageL bs k) = pg at *
      have hcat : pk.size + pg.size ≤ 9223372036854775807 := by omega
      go_wp2_with fail
      refine (HBK.out _ HB.out).mono ?_
      rintro e W4 ⟨B, cb, rfl, hcv, hb4⟩
      have HX4 := Lib.hid (HX.out.below hb4 HX.out.lt)
      have HB4 := Lib.hid (bl_step HB.out hb4)
      clear hb4 x0 x1 x2 x3 x4 xlt
      go_wp2
      go_roundw
      case rel => exact ⟨k + 1, by go_num, by omega, by rw [HS1.out], HX4, HB4⟩
      case measure => simp [intOf]; omega
    · have hkk : k = np := by omega
      subst hkk
      obtain ⟨x0, x1, x2, x3, x4, xlt⟩ := rcells' HX.out
      have hz := HZ.out k
      rw [HFL.out] at hz
      have hpre := HPRE.out
      have HZ0 := Lib.hid HZR.out
      clear HZR HPRE HST HBY
      generalize strOfNums (flatP bs k) = pk at *
      generalize strOfNums bs = sb at *
      go_wp2_with fail
      refine (HIB.out _ HB.out).mono ?_
      rintro e W4 ⟨B, cb, rfl, hcv, hb4⟩
      have HB4 := Lib.hid (bl_step HB.out hb4)
      clear hb4 x0 x1 x2 x3 x4 xlt
      have hsb := HSB.out
      have hbl := HBL.out
      have h1 : ¬ (pk.size : Int) < (sb.size : Int) := by omega
      have h2 : ¬ (sb.size : Int) + 64 ≤ (pk.size : Int) := by omega
      have h3 : (sb.size : Int) ≤ (pk.size : Int) := by omega
      have h0 : (0 : Int) ≤ (sb.size : Int) := by omega
      have hle : sb.size ≤ pk.size := by omega
      have hmx : pk.size ≤ 1000000 := by omega
      have HLE := Lib.hid hle
      clear hsb hbl hz hge hlt hle
      go_wp2_with fail
      go_loopw [9] (fun i wr => ∃ j : Nat, i = .int .i64 (j : Int) ∧ sb.size ≤ j ∧ j ≤ pk.size ∧ Hid (Below w.heap.size w wr)) (fun i _ => pk.size - (intOf i).toNat)
      case atStart => exact ⟨sb.size, rfl, Nat.le_refl _, HLE.out, HB4⟩
      case round =>
        obtain ⟨j, rfl, hj0, hj1, HBJ⟩ := hrel
        by_cases hjp : j < pk.size
        · have hjb : (j : Int) < (pk.size : Int) := by omega
          have hjb0 : (0 : Int) ≤ (j : Int) := by omega
          have hzr := HZ0.out j (by have := HSB.out; omega) hjp
          go_wp2
          go_roundw
          case rel => exact ⟨j + 1, by go_num, by omega, by omega, HBJ⟩
          case measure => simp [intOf]; omega
        · have hjj : j = pk.size := by omega
          subst hjj
          have hjb : ¬ (pk.size : Int) < (pk.size : Int) := by omega
          go_wp2
          go_ret
          exact ⟨rfl, HBJ.out⟩
end Go.Proofs.YtpikgebfeleajaaDoor

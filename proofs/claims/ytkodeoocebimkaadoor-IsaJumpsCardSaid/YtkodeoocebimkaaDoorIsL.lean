/-
  The laws IsaLists, IsaJumps, walked. Condition: the tables lie as the program's text, and the library's, lay them.
-/
import Derived.Test.YtkodeoocebimkaaDoorIsJ
import Derived.Test.YtkodeoocebimkaaDoorIsPa
namespace Go.Proofs.YtkodeoocebimkaaDoor
open Go.RowKit Go.Shelf
set_option linter.unusedVariables false
set_option linter.unusedSimpArgs false
attribute [local go_sem] Oper.semAt_some

set_option maxHeartbeats 1000000 in
theorem sameW_any {w : World} (A B : Option Addr) (ca cb : Nat) (xs ys : List Int) (hx : WordsAt w A xs) (hy : WordsAt w B ys) (hxl : xs.length ≤ 1000000) (hyl : ys.length ≤ 1000000) :
    Calls Tryd.prog 25 #[.slice A xs.length ca, .slice B ys.length cb] w fun e w' => e = .returned (.bool (decide (xs = ys))) ∧ Below w.heap.size w w' := by
  by_cases hlen : xs.length = ys.length
  · go_enter Tryd.func25, Tryd.ntmps25
    have hb : ((xs.length : Int) != (ys.length : Int)) = false := by simp [hlen]
    have HL := Lib.hid hlen
    clear hlen
    go_wp2
    go_loopw [5] (fun i wr => ∃ k : Nat, i = .int .i64 (k : Int) ∧ k ≤ xs.length ∧ (∀ j, j < k → xs[j]? = ys[j]?) ∧ Below w.heap.size w wr) (fun i _ => xs.length - (intOf i).toNat)
    case atStart => exact ⟨0, rfl, Nat.zero_le _, fun j hj => absurd hj (Nat.not_lt_zero j), Below.refl _ _⟩
    case round =>
      obtain ⟨k, rfl, hk, hpre, hB⟩ := hrel
      have HP := Lib.hid hpre
      clear hpre
      by_cases hki : k < xs.length
      · have hkb : (k : Int) < (xs.length : Int) := by omega
        have hlen := HL.out
        have hkb2 : (k : Int) < (ys.length : Int) := by omega
        have hxe : xs[k]? = some xs[k] := List.getElem?_eq_getElem hki
        have hye : ys[k]? = some (ys[k]'(by omega)) := List.getElem?_eq_getElem (by omega)
        obtain ⟨b, off, rfl, hbl, c0⟩ := wordsAt_cell (hx.below hB) hxe
        obtain ⟨b', off', rfl, hbl', d0⟩ := wordsAt_cell (hy.below hB) hye
        by_cases hxy : xs[k] = ys[k]'(by omega)
        · have hnx : ∀ j, j < k + 1 → xs[j]? = ys[j]? := fun j hj => by
            rcases Nat.lt_or_ge j k with h | h
            · exact HP.out j h
            · have : j = k := by omega
              subst this
              rw [hxe, hye, hxy]
          have HN := Lib.hid hnx
          generalize xs[k] = x at *
          generalize ys[k]'(by omega) = y at *
          have hb1 : (x != y) = false := by simp [hxy]
          clear hnx hxe hye hxy hlen hx hy
          go_wp2_with (go_quiet (fail))
          go_roundw
          case rel => exact ⟨k + 1, by go_num, by omega, HN.out, by first | exact hB | exact belowN hB _ | exact hB.drew⟩
          case measure => simp [intOf]; omega
        · have hne : decide (xs = ys) = false := decide_eq_false fun h => hxy (by subst h; rfl)
          have HNE := Lib.hid hne
          generalize xs[k] = x at *
          generalize ys[k]'(by omega) = y at *
          have hb1 : (x != y) = true := by simp [hxy]
          clear hxe hye hxy hlen hx hy hne
          go_wp2_with (go_quiet (fail))
          go_ret
          exact ⟨by rw [HNE.out]; rfl, by first | exact hB | exact belowN hB _ | exact hB.drew⟩
      · have hlen := HL.out
        have hxy : xs = ys := by
          apply List.ext_getElem?
          intro j
          rcases Nat.lt_or_ge j k with h | h
          · exact HP.out j h
          · rw [List.getElem?_eq_none (by omega), List.getElem?_eq_none (by omega)]
        have hd : decide (xs = ys) = true := decide_eq_true hxy
        have HD := Lib.hid hd
        clear hd hxy hlen
        go_wp2
        go_ret
        exact ⟨by rw [HD.out]; rfl, hB⟩
  · have hne : decide (xs = ys) = false := by simp; intro h; exact hlen (by rw [h])
    rw [hne]
    have hb : ((xs.length : Int) != (ys.length : Int)) = true := by simp; omega
    clear hlen hne hx hy
    go_enter Tryd.func25, Tryd.ntmps25
    go_wp2
    go_ret
    exact ⟨rfl, Below.refl _ _⟩


set_option maxRecDepth 100000 in
set_option maxHeartbeats 8000000 in
theorem listsLaw_any {w : World} (hG : Ground w) (A : Option Addr) (ca : Nat) (ws : List Int) (hA : WordsAt w A ws) (hl : ws.length ≤ maxLen) (hr : ∀ x ∈ ws, RangeW x) :
    Calls Tryd.prog 7 #[.slice A ws.length ca] w fun e w' => e = .returned (.bool true) ∧ Below w.heap.size w w' := by
  unfold maxLen at hl
  have HAL := Lib.hid (alive_any hG)
  by_cases hbig : 512 < ws.length
  · have hb : (512 : Int) < (ws.length : Int) := by omega
    clear hA hr hG
    go_enter Tryd.func7, Tryd.ntmps7
    go_wp2_with fail
    refine HAL.out.mono ?_
    rintro e W1 ⟨rfl, hb1⟩
    have HB := Lib.hid hb1
    clear hb1
    go_wp2
    go_ret
    exact ⟨rfl, HB.out⟩
  have hb : ¬ (512 : Int) < (ws.length : Int) := by omega
  have hl2 : ws.length ≤ 512 := by omega
  have hz := list_len ws hr
  obtain ⟨t, ht⟩ : ∃ t : ByteArray, t = ⟨(listP ws).toArray⟩ := ⟨_, rfl⟩
  have htl : t.data.toList = listP ws := by rw [ht]
  have htz : t.size ≤ 50000 := by
    have e : t.size = (listP ws).length := by rw [← htl]; exact (Array.length_toList).symm
    omega
  obtain ⟨u, hu⟩ : ∃ u : ByteArray, (⟨#[102, 105, 114, 115, 116, 58, 10]⟩ ++ t ++ ⟨#[108, 97, 115, 116, 58, 10]⟩ : ByteArray) = u := ⟨_, rfl⟩
  have z1 : (⟨#[102, 105, 114, 115, 116, 58, 10]⟩ ++ t : ByteArray).size = 7 + t.size := by rw [ByteArray.size_append]; rfl
  have z2 : u.size = 7 + t.size + 6 := by rw [← hu, ByteArray.size_append, z1]; rfl
  have hul : toL u = firstS ++ (listP ws ++ lastS) := by
    rw [← hu]
    unfold toL
    rw [ByteArray.data_append, ByteArray.data_append, Array.toList_append, Array.toList_append, htl, List.append_assoc]
    rfl
  have H1 := Lib.hid (fun W (hW : Below w.heap.size w W) => show Calls Tryd.prog 24 #[.slice A ws.length ca] W fun e w' => e = .returned (.string t) ∧ Below W.heap.size W w' from by
    rw [ht]
    exact list_any (hG.below hW) A ca ws (by omega) (hA.below hW) hr)
  have H2 := Lib.hid (fun W (hW : Below w.heap.size w W) => asm_any (hG.below hW) t (by omega) (ws := ws) (n := 0) (er := 0) (by
    have := asm_list hr hl2
    unfold toL
    rw [htl]
    exact this))
  have H3 := Lib.hid (fun W (hW : Below w.heap.size w W) => asm_any (hG.below hW) u (by omega) (ws := ws) (n := 0) (er := 0) (by
    rw [hul]
    exact asm_labs hr hl2))
  have H4 := Lib.hid (fun W (hW : Below w.heap.size w W) B cb (hB : WordsAt W B ws) => show Calls Tryd.prog 25 #[.slice B ws.length cb, .slice A ws.length ca] W fun e w' => e = .returned (.bool true) ∧ Below W.heap.size W w' from by
    have h := sameW_any B A cb ca ws ws hB (hA.below hW) (by omega) (by omega)
    rw [decide_eq_true rfl] at h
    exact h)
  clear hG hA hr hl hbig htl ht hul hz
  go_enter Tryd.func7, Tryd.ntmps7
  go_wp2_with fail
  refine HAL.out.mono ?_
  rintro e W1 ⟨rfl, hb1⟩
  have HB1 := Lib.hid hb1
  clear hb1 HAL
  go_wp2_with fail
  refine (H1.out _ HB1.out).mono ?_
  rintro e W2 ⟨rfl, hb2⟩
  have HB2 := Lib.hid (bl_step HB1.out hb2)
  clear hb2
  go_wp2_with fail
  refine (H2.out _ HB2.out).mono ?_
  rintro e W3 ⟨B, cb, rfl, hB, _, hb3⟩
  have HB3 := Lib.hid (bl_step HB2.out hb3)
  have HW3 := Lib.hid hB
  clear hb3 hB
  go_wp2_with fail
  refine (H3.out _ HB3.out).mono ?_
  rintro e W4 ⟨C, cc, rfl, hC, _, hb4⟩
  have HB4 := Lib.hid (bl_step HB3.out hb4)
  have HW4 := Lib.hid (HW3.out.below hb4)
  have HC4 := Lib.hid hC
  clear hb4 hC hu z1
  go_wp2_with fail
  refine (H4.out _ HB4.out B cb HW4.out).mono ?_
  rintro e W5 ⟨rfl, hb5⟩
  have HB5 := Lib.hid (bl_step HB4.out hb5)
  have HC5 := Lib.hid (HC4.out.below hb5)
  clear hb5
  go_wp2_with fail
  refine (H4.out _ HB5.out C cc HC5.out).mono ?_
  rintro e W6 ⟨rfl, hb6⟩
  have HB6 := Lib.hid (bl_step HB5.out hb6)
  clear hb6
  go_wp2
  go_ret
  exact ⟨by first | rfl | simp, HB6.out⟩

set_option maxRecDepth 100000 in
set_option maxHeartbeats 8000000 in
theorem jumpsLaw_any {w : World} (hG : Ground w) (A B : Option Addr) (ca cb : Nat) (xs ys : List Int) (hA : WordsAt w A xs) (hxl : xs.length ≤ maxLen) (hxr : ∀ x ∈ xs, RangeW x) (hB : WordsAt w B ys) (hyl : ys.length ≤ maxLen) (hyr : ∀ x ∈ ys, RangeW x) :
    Calls Tryd.prog 8 #[.slice A xs.length ca, .slice B ys.length cb] w fun e w' => e = .returned (.bool true) ∧ Below w.heap.size w w' := by
  unfold maxLen at hxl hyl
  have HAL := Lib.hid (alive_any hG)
  by_cases hbig : 200 < xs.length ∨ 200 < ys.length
  · have hc : (200 : Int) < (xs.length : Int) ∨ (¬ (200 : Int) < (xs.length : Int) ∧ (200 : Int) < (ys.length : Int)) := by omega
    clear hA hB hxr hyr hG hbig
    rcases hc with h1 | ⟨h1, h2⟩
    all_goals
      go_enter Tryd.func8, Tryd.ntmps8
      go_wp2_with fail
      refine HAL.out.mono ?_
      rintro e W1 ⟨rfl, hb1⟩
      have HB := Lib.hid hb1
      clear hb1
      go_wp2
      go_ret
      exact ⟨rfl, HB.out⟩
  have g1 : ¬ (200 : Int) < (xs.length : Int) := by omega
  have g2 : ¬ (200 : Int) < (ys.length : Int) := by omega
  have n1 : xs.length ≤ 200 := by omega
  have n2 : ys.length ≤ 200 := by omega
  have hz1 := list_len xs hxr
  have hz2 := list_len ys hyr
  obtain ⟨s, hs⟩ : ∃ t : ByteArray, t = ⟨(listP xs).toArray⟩ := ⟨_, rfl⟩
  obtain ⟨t, ht⟩ : ∃ t : ByteArray, t = ⟨(listP ys).toArray⟩ := ⟨_, rfl⟩
  have hsl : s.data.toList = listP xs := by rw [hs]
  have htl : t.data.toList = listP ys := by rw [ht]
  have hsz : s.size ≤ 20000 := by
    have e : s.size = (listP xs).length := by rw [← hsl]; exact (Array.length_toList).symm
    omega
  have htz : t.size ≤ 20000 := by
    have e : t.size = (listP ys).length := by rw [← htl]; exact (Array.length_toList).symm
    omega
  have z1 : (⟨#[120, 58, 10]⟩ ++ s : ByteArray).size = 3 + s.size := by rw [ByteArray.size_append]; rfl
  have z2 : (⟨#[120, 58, 10]⟩ ++ s ++ ⟨#[106, 97, 108, 32, 51, 32, 120, 10, 106, 109, 112, 32, 121, 10]⟩ : ByteArray).size = 3 + s.size + 14 := by rw [ByteArray.size_append, z1]; rfl
  have z3 : (⟨#[120, 58, 10]⟩ ++ s ++ ⟨#[106, 97, 108, 32, 51, 32, 120, 10, 106, 109, 112, 32, 121, 10]⟩ ++ t : ByteArray).size = 3 + s.size + 14 + t.size := by rw [ByteArray.size_append, z2]
  obtain ⟨u, hu⟩ : ∃ u : ByteArray, (⟨#[120, 58, 10]⟩ ++ s ++ ⟨#[106, 97, 108, 32, 51, 32, 120, 10, 106, 109, 112, 32, 121, 10]⟩ ++ t ++ ⟨#[121, 58, 10]⟩ : ByteArray) = u := ⟨_, rfl⟩
  have z4 : u.size = 3 + s.size + 14 + t.size + 3 := by rw [← hu, ByteArray.size_append, z3]; rfl
  have hul : toL u = xS ++ (listP xs ++ (jS ++ (listP ys ++ yS))) := by
    rw [← hu]
    unfold toL
    rw [ByteArray.data_append, ByteArray.data_append, ByteArray.data_append, ByteArray.data_append, Array.toList_append, Array.toList_append, Array.toList_append, Array.toList_append, hsl, htl, List.append_assoc, List.append_assoc, List.append_assoc]
    rfl
  have H1 := Lib.hid (fun W (hW : Below w.heap.size w W) => show Calls Tryd.prog 24 #[.slice A xs.length ca] W fun e w' => e = .returned (.string s) ∧ Below W.heap.size W w' from by
    rw [hs]
    exact list_any (hG.below hW) A ca xs (by omega) (hA.below hW) hxr)
  have H2 := Lib.hid (fun W (hW : Below w.heap.size w W) => show Calls Tryd.prog 24 #[.slice B ys.length cb] W fun e w' => e = .returned (.string t) ∧ Below W.heap.size W w' from by
    rw [ht]
    exact list_any (hG.below hW) B cb ys (by omega) (hB.below hW) hyr)
  obtain ⟨ls, hls⟩ : ∃ ls, ls = jumpsW xs ys := ⟨_, rfl⟩
  have hll : ls.length = xs.length + ys.length + 2 := by rw [hls]; unfold jumpsW; simp; omega
  have H3 := Lib.hid (fun W (hW : Below w.heap.size w W) => asm_any (hG.below hW) u (by omega) (ws := ls) (n := 0) (er := 0) (by
    rw [hul, hls]
    exact asm_jumps hxr hyr n1 n2))
  have k1 : ls[xs.length]? = some (encI ⟨22, 3, 0, 0 - (xs.length : Int) - 1⟩) := by
    rw [hls]
    unfold jumpsW
    rw [List.getElem?_append_right (Nat.le_refl _), Nat.sub_self]
    rfl
  have k2 : ls[xs.length + 1]? = some (encI ⟨19, 0, 0, (ys.length : Int)⟩) := by
    rw [hls]
    unfold jumpsW
    rw [List.getElem?_append_right (by omega), show xs.length + 1 - xs.length = 1 from by omega]
    rfl
  have m1 := may_jal n1
  have m2 := may_jmp (k := (ys.length : Int)) (by omega) (by omega)
  have e1 : (0 - (xs.length : Int) - 1) = -(xs.length : Int) - 1 := by omega
  rw [e1] at m1 k1
  obtain ⟨E1, hE1⟩ : ∃ E, encI ⟨22, 3, 0, -(xs.length : Int) - 1⟩ = E := ⟨_, rfl⟩
  obtain ⟨E2, hE2⟩ : ∃ E, encI ⟨19, 0, 0, (ys.length : Int)⟩ = E := ⟨_, rfl⟩
  have D1 := Lib.hid (fun W (hW : Below w.heap.size w W) => dec_at (hG.below hW) E1 ⟨22, 3, 0, -(xs.length : Int) - 1⟩ (hE1 ▸ encI_range m1) (by rw [← hE1]; exact dec_enc m1) m1)
  have D2 := Lib.hid (fun W (hW : Below w.heap.size w W) => dec_at (hG.below hW) E2 ⟨19, 0, 0, (ys.length : Int)⟩ (hE2 ▸ encI_range m2) (by rw [← hE2]; exact dec_enc m2) m2)
  simp only at D1 D2
  rw [hE1] at k1
  rw [hE2] at k2
  have HQ1 := eqI_same ⟨22, 3, 0, -(xs.length : Int) - 1⟩
  have HQ2 := eqI_same ⟨19, 0, 0, (ys.length : Int)⟩
  dsimp only at HQ1 HQ2
  have K1 := Lib.hid k1
  have K2 := Lib.hid k2
  have HLL := Lib.hid hll
  have HQ := Lib.hid (⟨HQ1, HQ2⟩ : (∀ w, (Op.equalIn 10000 23 (.agg #[.int .i64 22, .int .i64 3, .int .i64 0, .int .i64 (-(xs.length : Int) - 1)]) (.agg #[.int .i64 22, .int .i64 3, .int .i64 0, .int .i64 (-(xs.length : Int) - 1)])).run Tryd.prog w = .ok (.true) w) ∧ (∀ w, (Op.equalIn 10000 23 (.agg #[.int .i64 19, .int .i64 0, .int .i64 0, .int .i64 (ys.length : Int)]) (.agg #[.int .i64 19, .int .i64 0, .int .i64 0, .int .i64 (ys.length : Int)])).run Tryd.prog w = .ok (.true) w))
  clear hG hA hB hxr hyr hxl hyl hbig hsl htl hs ht hul hz1 hz2 hls m1 m2 e1 hE1 hE2 k1 k2 hll HQ1 HQ2
  go_enter Tryd.func8, Tryd.ntmps8
  go_wp2_with fail
  refine HAL.out.mono ?_
  rintro e W1 ⟨rfl, hb1⟩
  have HB1 := Lib.hid hb1
  clear hb1 HAL
  go_wp2_with fail
  refine (H1.out _ HB1.out).mono ?_
  rintro e W2 ⟨rfl, hb2⟩
  have HB2 := Lib.hid (bl_step HB1.out hb2)
  clear hb2
  go_wp2_with fail
  refine (H2.out _ HB2.out).mono ?_
  rintro e W3 ⟨rfl, hb3⟩
  have HB3 := Lib.hid (bl_step HB2.out hb3)
  clear hb3
  go_wp2_with fail
  refine (H3.out _ HB3.out).mono ?_
  rintro e W4 ⟨L, cl, rfl, hL, hcl, hb4⟩
  have HB4 := Lib.hid (bl_step HB3.out hb4)
  obtain ⟨g, o, rfl, hgl, hc1⟩ := wordsAt_cell hL K1.out
  have HL4 := Lib.hid hL
  have hll := HLL.out
  have i1 : (ls.length : Int) = (xs.length : Int) + (ys.length : Int) + 2 := by omega
  have i2 : (xs.length : Int) < (ls.length : Int) := by omega
  have i3 : (xs.length : Int) + 1 < (ls.length : Int) := by omega
  have HI := Lib.hid (⟨i2, i3⟩ : (xs.length : Int) < (ls.length : Int) ∧ (xs.length : Int) + 1 < (ls.length : Int))
  clear hb4 hL hll z1 z2 z3 z4 hu i3 hcl
  go_wp2_with fail
  refine (D1.out _ HB4.out).mono ?_
  rintro e W5 ⟨rfl, hb5⟩
  have hL5 := (HL4.out.below hb5).below ((Below.refl W5.heap.size W5).alloc (Nat.le_refl _) (.cells #[.int .i64 22, .int .i64 3, .int .i64 0, .int .i64 (-(xs.length : Int) - 1)] 23))
  have hB5 := bl_new (bl_step HB4.out hb5) (.cells #[.int .i64 22, .int .i64 3, .int .i64 0, .int .i64 (-(xs.length : Int) - 1)] 23)
  have hx5 := Blk.new W5 23 #[.int .i64 22, .int .i64 3, .int .i64 0, .int .i64 (-(xs.length : Int) - 1)]
  obtain ⟨g', o', e', hgl', hc2⟩ := wordsAt_cell hL5 K2.out
  injection e' with e'
  injection e' with e1 e2 _
  subst e1 e2
  have i3 := HI.out.2
  have HX5 := Lib.hid hx5
  have HB5 := Lib.hid hB5
  clear hc1 hgl hb5 hL5 hB5 hx5 HL4 i2
  go_wp2_with fail
  refine (D2.out _ HB5.out).mono ?_
  rintro e W6 ⟨rfl, hb6⟩
  have hx6 := (HX5.out.below hb6 HX5.out.lt).alloc (.cells #[.int .i64 19, .int .i64 0, .int .i64 0, .int .i64 (ys.length : Int)] 23)
  have hy6 := Blk.new W6 23 #[.int .i64 19, .int .i64 0, .int .i64 0, .int .i64 (ys.length : Int)]
  obtain ⟨x0, x1, x2, x3, xlt⟩ := ccells hx6
  obtain ⟨y0, y1, y2, y3, ylt⟩ := ccells hy6
  have HB6 := Lib.hid (bl_new (bl_step HB5.out hb6) (.cells #[.int .i64 19, .int .i64 0, .int .i64 0, .int .i64 (ys.length : Int)] 23))
  have hq1 := HQ.out.1
  have hq2 := HQ.out.2
  clear hx6 hy6 hb6 hc2 i3
  go_wp2
  go_ret
  exact ⟨by first | rfl | simp, HB6.out⟩
end Go.Proofs.YtkodeoocebimkaaDoor
